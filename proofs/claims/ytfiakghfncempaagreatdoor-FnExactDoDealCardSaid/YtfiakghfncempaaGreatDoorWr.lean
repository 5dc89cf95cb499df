/-
  Memory that is written: what stays, and one limb replaced in place.
-/
import Derived.Test.YtfiakghfncempaaGreatDoorGrow
import Derived.Test.YtfiakghfncempaaGreatDoorCur
import Derived.Test.YtfiakghfncempaaGreatDoorMath
import Derived.Test.YtfiakghfncempaaGreatDoorSrtZ
namespace Go.Proofs.YtfiakghfncempaaGreatDoor
open Sx
set_option maxRecDepth 100000
def smL (w:List Lim):Int:=sm (limb w) w.length
def WtIn (w:List Lim):Prop:=∀ i,i<w.length→0≤limb w i∧limb w i≤1000000000
def WtP (w:List Lim):Prop:=1≤w.length∧w.length≤30∧WtIn w∧0<smL w
theorem sm_bd {r:Nat→Int} {B:Int}:∀ {n:Nat},(∀ i,i<n→0≤r i∧r i≤B)→0≤sm r n∧sm r n≤B*(n:Int)
 | 0,_=>⟨Int.le_refl _,by simp [sm]⟩
 | n+1,h=>by
  obtain⟨h1,h2⟩:=sm_bd (n:=n) fun i hi=>h i (by omega)
  have h3:=h n (by omega)
  unfold sm
  have e:B*((n+1:Nat):Int)=B*(n:Int)+B:=by rw [Int.natCast_add,Int.mul_add]; simp
  rw [e]
  omega
theorem wt_bd {w:List Lim} (h:WtIn w) {k:Nat} (hk:k≤w.length):0≤sm (limb w) k∧sm (limb w) k≤1000000000*(k:Int):=sm_bd fun i hi=>h i (by omega)
abbrev WkPost (V:Know) (p:Prop):Know→Value→Prop:=fun V' r=>V'=V∧∃ e,r=.bool e∧(e=true↔p)
theorem wk_no {V:Know} {p:Prop} (k:¬ p):WkPost V p V (.bool false):=⟨rfl,false,rfl,⟨(fun e=>by cases e),fun e=>absurd e k⟩⟩
theorem limb_at {w:List Lim} {i:Nat} (h:i<w.length):w[i].1=limb w i:=(limb_lt h).symm
theorem cI_WeightsOk (V:Know) (s:SlV) (w:List Lim) (f:List Nat) (h:LR rI V s w f):CallX Tryz.prog V 303 [Sc.val .l s] (WkPost V (WtP w)):=by
 refine CallX.of_fits Tryz.mix (fI_WeightsOk _) fun _=>?_
 simp only [tI_WeightsOk,T.wp]
 have hn:=h.1
 refine⟨fun h1=>wk_no fun k=>?_,fun h1=>⟨fun h2=>wk_no fun k=>?_,fun h2=>?_⟩⟩
 ·have a1:(s.n:Int)<1:=of_decide_eq_true h1
  have:=k.1
  omega
 ·have a1:(s.n:Int) > 30:=of_decide_eq_true h2
  have:=k.2.1
  omega
 have a1:¬ (s.n:Int)<1:=of_decide_eq_false h1
 have a2:¬ (s.n:Int) > 30:=of_decide_eq_false h2
 refine⟨fun q V'=>V'=V∧∃ k:Nat,q.2.1=(k:Int)∧k≤w.length∧q.1=sm (limb w) k∧∀ i,i<k→0≤limb w i∧limb w i≤1000000000,fun q _=>((w.length:Int)-(q.2.1:Int)).toNat,⟨((0:Int),(0:Int),()),rfl,rfl,0,rfl,Nat.zero_le _,rfl,fun i hi=>absurd hi (Nat.not_lt_zero i)⟩,?_⟩
 rintro⟨(t:Int),(i:Int),u⟩ V' ⟨rfl,k,e1,hk,e2,hall⟩
 replace e1:i=(k:Int):=e1
 replace e2:t=sm (limb w) k:=e2
 subst e1 e2
 have hb:=sm_bd hall
 refine⟨fun hlt=>?_,fun hge=>?_⟩
 ·have h3:k<w.length:=by
   have:(k:Int)<(s.n:Int):=of_decide_eq_true hlt
   omega
  obtain⟨b,o,a,l⟩:=h.int h3
  refine⟨_,a,(by omega:(0:Int)≤(k:Int)),(by omega:(k:Int)<(s.n:Int)),w[k].1,l,?_⟩
  rw [limb_at h3]
  refine⟨fun h4=>wk_no fun q=>?_,fun h4=>⟨fun h5=>wk_no fun q=>?_,fun h5=>?_⟩⟩
  ·have a4:limb w k<0:=of_decide_eq_true h4
   have:=(q.2.2.1 k h3).1
   omega
  ·have a4:limb w k > 1000000000:=of_decide_eq_true h5
   have:=(q.2.2.1 k h3).2
   omega
  ·have a4:¬ limb w k<0:=of_decide_eq_false h4
   have a5:¬ limb w k > 1000000000:=of_decide_eq_false h5
   refine⟨_,rfl,(sm (limb w) (k+1),((k+1:Nat):Int),()),?_,⟨rfl,k+1,rfl,h3,rfl,fun j hj=>?_⟩,?_⟩
   ·have ew:IntKind.i64.wrap (sm (limb w) k+limb w k)=sm (limb w) (k+1):=by rw [wrap_i64 (by omega)]; rfl
    dsimp only
    rw [nxt h3 (by omega),ew]; rfl
   ·by_cases e:j=k
    ·subst e; omega
    ·exact hall j (by omega)
   ·show((w.length:Int)-((k+1:Nat):Int)).toNat<((w.length:Int)-(k:Int)).toNat
    omega
 ·have h3:k=w.length:=by
   have:¬ (k:Int)<(s.n:Int):=of_decide_eq_false hge
   omega
  subst h3
  refine⟨rfl,_,rfl,?_⟩
  rw [decide_eq_true_eq]
  exact⟨fun q=>⟨by omega,by omega,hall,q⟩,fun q=>q.2.2.2⟩
theorem cI_sumInts (V:Know) (s:SlV) (w:List Lim) (f:List Nat) (h:LR rI V s w f) (hw:WtIn w) (h30:w.length≤30):CallX Tryz.prog V 312 [Sc.val .l s] (fun V' r=>V'=V∧r=.int .i64 (smL w)):=by
 refine CallX.of_fits Tryz.mix (fI_sumInts _) fun _=>?_
 simp only [tI_sumInts,T.wp]
 have hn:=h.1
 refine⟨fun q V'=>V'=V∧∃ k:Nat,q.2.1=(k:Int)∧k≤w.length∧q.1=sm (limb w) k,fun q _=>((w.length:Int)-(q.2.1:Int)).toNat,⟨((0:Int),(0:Int),()),rfl,rfl,0,rfl,Nat.zero_le _,rfl⟩,?_⟩
 rintro⟨(t:Int),(i:Int),u⟩ V' ⟨rfl,k,e1,hk,e2⟩
 replace e1:i=(k:Int):=e1
 replace e2:t=sm (limb w) k:=e2
 subst e1 e2
 have hb:=wt_bd hw hk
 refine⟨fun hlt=>?_,fun hge=>?_⟩
 ·have h3:k<w.length:=by
   have:(k:Int)<(s.n:Int):=of_decide_eq_true hlt
   omega
  obtain⟨b,o,a,l⟩:=h.int h3
  have hx:=hw k h3
  refine⟨_,a,(by omega:(0:Int)≤(k:Int)),(by omega:(k:Int)<(s.n:Int)),w[k].1,l,_,rfl,(sm (limb w) (k+1),((k+1:Nat):Int),()),?_,⟨rfl,k+1,rfl,h3,rfl⟩,?_⟩
  ·have ew:IntKind.i64.wrap (sm (limb w) k+w[k].1)=sm (limb w) (k+1):=by rw [limb_at h3,wrap_i64 (by omega)]; rfl
   dsimp only
   rw [nxt h3 (by omega),ew]; rfl
  ·show((w.length:Int)-((k+1:Nat):Int)).toNat<((w.length:Int)-(k:Int)).toNat
   omega
 ·have h3:k=w.length:=by
   have:¬ (k:Int)<(s.n:Int):=of_decide_eq_false hge
   omega
  subst h3
  exact⟨rfl,rfl⟩
theorem cS_l12Sum (V:Know) (s:SlV) (w:List Lim) (f:List Nat) (h:LR rI V s w f) (hw:WtIn w) (h30:w.length≤30):CallX Tryz.prog V 130 [Sc.val .l s] (fun V' r=>V'=V∧r=.int .i64 (smL w)):=by
 refine CallX.of_fits Tryz.mix (fS_l12Sum _) fun _=>?_
 simp only [tS_l12Sum,T.wp]
 have hn:=h.1
 refine⟨fun q V'=>V'=V∧∃ k:Nat,q.2.1=(k:Int)∧k≤w.length∧q.1=sm (limb w) k,fun q _=>((w.length:Int)-(q.2.1:Int)).toNat,⟨((0:Int),(0:Int),()),rfl,rfl,0,rfl,Nat.zero_le _,rfl⟩,?_⟩
 rintro⟨(t:Int),(i:Int),u⟩ V' ⟨rfl,k,e1,hk,e2⟩
 replace e1:i=(k:Int):=e1
 replace e2:t=sm (limb w) k:=e2
 subst e1 e2
 have hb:=wt_bd hw hk
 refine⟨fun hlt=>?_,fun hge=>?_⟩
 ·have h3:k<w.length:=by
   have:(k:Int)<(s.n:Int):=of_decide_eq_true hlt
   omega
  obtain⟨b,o,a,l⟩:=h.int h3
  have hx:=hw k h3
  refine⟨_,a,(by omega:(0:Int)≤(k:Int)),(by omega:(k:Int)<(s.n:Int)),w[k].1,l,_,rfl,(sm (limb w) (k+1),((k+1:Nat):Int),()),?_,⟨rfl,k+1,rfl,h3,rfl⟩,?_⟩
  ·have ew:IntKind.i64.wrap (sm (limb w) k+w[k].1)=sm (limb w) (k+1):=by rw [limb_at h3,wrap_i64 (by omega)]; rfl
   dsimp only
   rw [nxt h3 (by omega),ew]; rfl
  ·show((w.length:Int)-((k+1:Nat):Int)).toNat<((w.length:Int)-(k:Int)).toNat
   omega
 ·have h3:k=w.length:=by
   have:¬ (k:Int)<(s.n:Int):=of_decide_eq_false hge
   omega
  subst h3
  exact⟨rfl,rfl⟩
theorem cS_In (V:Know) (x a b:Int):CallX Tryz.prog V 129 [.int .i64 x,.int .i64 a,.int .i64 b] (WkPost V (a≤x∧x≤b)):=by
 refine CallX.of_fits Tryz.mix (fS_l01In _ _ _) fun _=>?_
 simp only [tS_l01In,T.wp]
 refine⟨fun h=>⟨rfl,_,rfl,?_⟩,fun h=>wk_no fun k=>?_⟩
 ·have h':x≥a:=of_decide_eq_true h
  rw [decide_eq_true_eq]
  exact⟨fun q=>⟨h',q⟩,fun q=>q.2⟩
 ·have h':¬ x≥a:=of_decide_eq_false h
  exact h' k.1
theorem cS_WeightsOk (V:Know) (s:SlV) (w:List Lim) (f:List Nat) (h:LR rI V s w f):CallX Tryz.prog V 75 [Sc.val .l s] (WkPost V (WtP w)):=by
 refine CallX.of_fits Tryz.mix (fS_WeightsOk _) fun _=>?_
 simp only [tS_WeightsOk,T.wp]
 have hn:=h.1
 refine(cS_In V _ 1 30).mono ?_
 rintro V1 _ ⟨rfl,e,rfl,he⟩
 refine⟨nofun,e,rfl,fun h1=>wk_no fun k=>?_,fun h1=>?_⟩
 ·have:e=true:=he.2 ⟨by have:=k.1; omega,by have:=k.2.1; omega⟩
  rw [this] at h1; cases h1
 have hr:=he.1 (by simpa using h1)
 refine⟨fun q V'=>V'=V1∧∃ k:Nat,q.1=(k:Int)∧k≤w.length∧∀ i,i<k→0≤limb w i∧limb w i≤1000000000,fun q _=>((w.length:Int)-(q.1:Int)).toNat,⟨((0:Int),()),rfl,rfl,0,rfl,Nat.zero_le _,fun i hi=>absurd hi (Nat.not_lt_zero i)⟩,?_⟩
 rintro⟨(i:Int),u⟩ V' ⟨rfl,k,e1,hk,hall⟩
 replace e1:i=(k:Int):=e1
 subst e1
 refine⟨fun hlt=>?_,fun hge=>?_⟩
 ·have h3:k<w.length:=by
   have:(k:Int)<(s.n:Int):=of_decide_eq_true hlt
   omega
  obtain⟨b,o,a,l⟩:=h.int h3
  refine⟨_,a,(by omega:(0:Int)≤(k:Int)),(by omega:(k:Int)<(s.n:Int)),w[k].1,l,?_⟩
  rw [limb_at h3]
  refine(cS_In V' _ 0 1000000000).mono ?_
  rintro V2 _ ⟨rfl,e2,rfl,he2⟩
  refine⟨nofun,e2,rfl,fun h4=>wk_no fun q=>?_,fun h4=>?_⟩
  ·have:e2=true:=he2.2 (q.2.2.1 k h3)
   rw [this] at h4; cases h4
  ·have hx:=he2.1 (by simpa using h4)
   refine⟨_,rfl,(((k+1:Nat):Int),()),by rw [nxt h3 (by omega)]; rfl,⟨rfl,k+1,rfl,h3,fun j hj=>?_⟩,?_⟩
   ·by_cases e:j=k
    ·subst e; exact hx
    ·exact hall j (by omega)
   ·show((w.length:Int)-((k+1:Nat):Int)).toNat<((w.length:Int)-(k:Int)).toNat
    omega
 ·have h3:k=w.length:=by
   have:¬ (k:Int)<(s.n:Int):=of_decide_eq_false hge
   omega
  subst h3
  refine(cS_l12Sum V' s w f h hall (by omega)).mono ?_
  rintro V2 _ ⟨rfl,rfl⟩
  refine⟨nofun,_,rfl,rfl,_,rfl,?_⟩
  rw [decide_eq_true_eq]
  exact⟨fun q=>⟨by omega,by omega,hall,q⟩,fun q=>q.2.2.2⟩
end Go.Proofs.YtfiakghfncempaaGreatDoor
namespace Go.Proofs.YtfiakghfncempaaGreatDoor
open Sx
theorem pw_add (i j:Nat):(1000000000:Int) ^ (i+j)=1000000000 ^ i*1000000000 ^ j:=by
 induction j with
 | zero=>simp
 | succ j ih=>rw [← Nat.add_assoc,Int.pow_succ,ih,Int.pow_succ,Int.mul_assoc]
theorem limb_set {l:List Lim} {i j:Nat} {x:Int} (h:i<l.length):limb (l.set i (x,())) j=if j=i then x else limb l j:=by
 unfold limb
 by_cases e:j=i
 ·subst e; simp [List.getD_eq_getElem?_getD,h]
 ·have e':¬ i=j:=fun k=>e k.symm
  rw [if_neg e]
  simp [List.getD_eq_getElem?_getD,e']
theorem valTo_set {l:List Lim} {i:Nat} {x:Int} (h:i<l.length):∀ j,valTo (l.set i (x,())) j=valTo l j+(if i<j then (x-limb l i)*1000000000 ^ i else 0)
 | 0=>by simp [valTo]
 | j+1=>by
  rw [valTo,valTo,valTo_set h j,limb_set h]
  by_cases e:j=i
  ·subst e
   rw [if_pos rfl,if_neg (Nat.lt_irrefl _),if_pos (Nat.lt_succ_self _),Int.sub_mul]
   omega
  ·rw [if_neg e]
   by_cases c:i<j
   ·rw [if_pos c,if_pos (by omega)]; omega
   ·rw [if_neg c,if_neg (by omega)]; omega
theorem valN_set {l:List Lim} {i:Nat} {x:Int} (h:i<l.length):valN (l.set i (x,()))=valN l+(x-limb l i)*1000000000 ^ i:=by
 unfold valN
 rw [List.length_set,valTo_set h,if_pos h]
theorem lims_set {l:List Lim} {i:Nat} {x:Int} (h:Lims l) (hi:i<l.length) (hx:0≤x∧x<1000000000):Lims (l.set i (x,())):=by
 intro j
 rw [limb_set hi]
 split
 ·exact hx
 ·exact h j
def zer (n:Nat):List Lim:=List.replicate n (0,())
theorem limb_zer (n i:Nat):limb (zer n) i=0:=by
 unfold limb zer
 by_cases h:i<n
 ·simp [List.getD_eq_getElem?_getD,h]
 ·simp [List.getD_eq_getElem?_getD,h]
theorem valTo_zer (n:Nat):∀ i,valTo (zer n) i=0
 | 0=>rfl
 | i+1=>by rw [valTo,valTo_zer n i,limb_zer]; simp
theorem valN_zer (n:Nat):valN (zer n)=0:=valTo_zer n _
theorem lims_zer (n:Nat):Lims (zer n):=fun i=>by rw [limb_zer]; omega
theorem len_zer (n:Nat):(zer n).length=n:=List.length_replicate
theorem valTo_mono {l:List Lim} (h:Lims l) {i j:Nat} (hij:i≤j):valTo l i≤valTo l j:=by
 induction j with
 | zero =>
  have:i=0:=by omega
  subst this; exact Int.le_refl _
 | succ j ih =>
  by_cases e:i=j+1
  ·subst e; exact Int.le_refl _
  ·have:=ih (by omega)
   have:=mul_pw_nonneg (h j).1 j
   rw [valTo]; omega
theorem valTo_le {l:List Lim} (h:Lims l) (i:Nat):valTo l i≤valN l:=by
 by_cases e:i≤l.length
 ·exact valTo_mono h e
 ·rw [valTo_ge (by omega)]; exact Int.le_refl _
theorem limb_top {l:List Lim} (h:Lims l) {k j:Nat} (hv:valN l<1000000000 ^ k) (hj:k≤j):limb l j=0:=by
 by_cases e:limb l j=0
 ·exact e
 ·exfalso
  have h1:=h j
  have h2:=mul_pw_le (show 1≤limb l j by omega) j
  have h3:=valTo_le h (j+1)
  rw [valTo] at h3
  have h4:=(valTo_bd h j).1
  have h5:=pw_mono hj
  omega
theorem limb_drop (u:List Lim) (j i:Nat):limb (u.drop j) i=limb u (j+i):=by
 simp [limb,List.getD_eq_getElem?_getD,List.getElem?_drop]
theorem valTo_drop (u:List Lim) (j:Nat):∀ i,valTo u (j+i)=valTo u j+valTo (u.drop j) i*1000000000 ^ j
 | 0=>by simp [valTo]
 | i+1=>by
  have e:limb u (j+i)*(1000000000 ^ j*1000000000 ^ i)=limb u (j+i)*1000000000 ^ i*1000000000 ^ j:=by
   rw [Int.mul_comm (1000000000 ^ j),Int.mul_assoc]
  rw [← Nat.add_assoc,valTo,valTo_drop u j i,valTo,limb_drop,Int.add_mul,pw_add,e]
  omega
theorem limb_app_lt {x y:List Lim} {i:Nat} (h:i<x.length):limb (x++y) i=limb x i:=by
 simp [limb,List.getD_eq_getElem?_getD,List.getElem?_append_left h]
theorem limb_app_ge {x y:List Lim} {i:Nat} (h:x.length≤i):limb (x++y) i=limb y (i-x.length):=by
 simp [limb,List.getD_eq_getElem?_getD,List.getElem?_append_right h]
theorem valTo_app {x y:List Lim}:∀ {i:Nat},i≤x.length→valTo (x++y) i=valTo x i
 | 0,_=>rfl
 | i+1,h=>by rw [valTo,valTo,valTo_app (by omega),limb_app_lt (by omega)]
theorem valN_app (x y:List Lim):valN (x++y)=valN x+valN y*1000000000 ^ x.length:=by
 have h:=valTo_drop (x++y) x.length y.length
 rw [List.drop_left,valTo_app (Nat.le_refl _)] at h
 unfold valN
 rw [List.length_append]; exact h
theorem lims_app {x y:List Lim} (hx:Lims x) (hy:Lims y):Lims (x++y):=by
 intro i
 by_cases h:i<x.length
 ·rw [limb_app_lt h]; exact hx i
 ·rw [limb_app_ge (by omega)]; exact hy _
theorem lims_drop {l:List Lim} (h:Lims l) (n:Nat):Lims (l.drop n):=fun i=>by rw [limb_drop]; exact h _
theorem lims_one {x:Int} (h:0≤x∧x<1000000000):Lims [(x,())]:=lims_snoc (l:=[]) lims_nil h
theorem valN_one (x:Int):valN [(x,())]=x:=by simp [valN,valTo,limb]
theorem valN_nil:valN []=0:=rfl
theorem valN_put {p w w' r:List Lim} (h:w'.length=w.length):valN (p++(w'++r))=valN (p++(w++r))+(valN w'-valN w)*1000000000 ^ p.length:=by
 rw [valN_app,valN_app,valN_app,valN_app,h,Int.add_mul,Int.add_mul,Int.sub_mul]
 omega
theorem val_top2 {v:List Lim} {m:Nat} (h:v.length=m+2):valN v=(limb v (m+1)*1000000000+limb v m)*1000000000 ^ m+valTo v m:=by
 rw [valN,h,valTo,valTo,pw_succ,Int.add_mul,Int.mul_assoc]
 omega
theorem val_top3 {v:List Lim} {m:Nat} (h:v.length=m+3):valN v=((limb v (m+2)*1000000000+limb v (m+1))*1000000000+limb v m)*1000000000 ^ m+valTo v m:=by
 rw [valN,h,valTo,valTo,valTo]
 have h1:=pw_succ m
 have h2:=pw_succ (m+1)
 rw [show m+2=m+1+1 from rfl,h2,h1]
 grind
theorem est_drop {u v v1 v2 vl top u2 ul P q:Int} (hP:0<P) (hv:v=(v1*1000000000+v2)*P+vl) (hvl:0≤vl) (hu:u=(top*1000000000+u2)*P+ul) (hul:ul<P) (hq:0≤q)
  (h:q*v2 > (top-q*v1)*1000000000+u2):u<q*v:=by
 have h1:top*1000000000+u2+1≤q*(v1*1000000000+v2):=by
  rw [Int.mul_add,← Int.mul_assoc]
  rw [Int.sub_mul] at h
  omega
 have h2:=Int.mul_le_mul_of_nonneg_right h1 (Int.le_of_lt hP)
 rw [Int.add_mul,Int.one_mul,Int.mul_assoc q] at h2
 have h3:0≤q*vl:=Int.mul_nonneg hq hvl
 rw [hv,Int.mul_add,hu]
 omega
theorem est_keep {u v v1 v2 vl top u2 ul P q:Int} (hP:0<P) (hv:v=(v1*1000000000+v2)*P+vl) (hvl:0≤vl∧vl<P) (hv1:1≤v1) (hv2:0≤v2∧v2<1000000000) (hu:u=(top*1000000000+u2)*P+ul) (hul:0≤ul) (hu2:0≤u2)
  (hq:0≤q∧q<1000000000) (h:q=0∨top-q*v1≥1000000000∨q*v2≤(top-q*v1)*1000000000+u2) (hu0:0≤u):(q-1)*v≤u:=by
 have hvp:P≤v:=by
  have h1:1≤v1*1000000000+v2:=by omega
  have:=Int.mul_le_mul_of_nonneg_right h1 (Int.le_of_lt hP)
  rw [hv]; omega
 rcases Int.lt_or_le 0 q with hpos | hz
 ·have key:q*v2≤(top-q*v1)*1000000000+u2:=by
   rcases h with h | h | h
   ·omega
   ·have:q*v2≤999999999*999999999:=Int.mul_le_mul (by omega) (by omega) hv2.1 (by omega)
    have:1000000000*1000000000≤(top-q*v1)*1000000000:=Int.mul_le_mul_of_nonneg_right h (by omega)
    omega
   ·exact h
  have h1:q*(v1*1000000000+v2)≤top*1000000000+u2:=by
   rw [Int.mul_add,← Int.mul_assoc]
   rw [Int.sub_mul] at key
   omega
  have h2:=Int.mul_le_mul_of_nonneg_right h1 (Int.le_of_lt hP)
  rw [Int.mul_assoc] at h2
  have h3:q*vl≤999999999*P:=Int.mul_le_mul (by omega) (by omega) hvl.1 (by omega)
  have h4:1000000000*P≤v:=by
   have:1000000000≤v1*1000000000+v2:=by omega
   have:=Int.mul_le_mul_of_nonneg_right this (Int.le_of_lt hP)
   rw [hv]; omega
  have h5:q*v=q*((v1*1000000000+v2)*P)+q*vl:=by rw [hv,Int.mul_add]
  rw [Int.sub_mul,Int.one_mul]
  omega
 ·have:q=0:=by omega
  subst this
  omega
theorem est_first {u v v1 v2 vl top u2 ul P q:Int} (hP:0<P) (hv:v=(v1*1000000000+v2)*P+vl) (hvl:0≤vl) (hv2:0≤v2) (hu:u=(top*1000000000+u2)*P+ul) (hul:ul<P) (hu2:u2<1000000000) (hq:0≤q)
  (h:top<(q+1)*v1):u<(q+1)*v:=by
 have h1:top*1000000000+u2+1≤(q+1)*v1*1000000000:=by omega
 have h2:=Int.mul_le_mul_of_nonneg_right h1 (Int.le_of_lt hP)
 have h3:0≤(q+1)*vl:=Int.mul_nonneg (by omega) hvl
 have h4:0≤(q+1)*v2*P:=Int.mul_nonneg (Int.mul_nonneg (by omega) hv2) (Int.le_of_lt hP)
 have h5:(q+1)*v=(q+1)*v1*1000000000*P+(q+1)*v2*P+(q+1)*vl:=by grind
 have h6:(top*1000000000+u2+1)*P=(top*1000000000+u2)*P+P:=by grind
 omega
theorem subt_step {w v:List Lim} {k:Nat} {q b b' t W:Int} (hk:k<w.length) (hv:valN w=W+b*1000000000 ^ k-q*valTo v k) (ht:t=limb w k-limb v k*q-b+b'*1000000000) :
  valN (w.set k (t,()))=W+b'*1000000000 ^ (k+1)-q*valTo v (k+1):=by
 rw [valN_set hk,hv,valTo,pw_succ,ht]
 grind
theorem addb_step {w v:List Lim} {k:Nat} {c d e W:Int} (hk:k<w.length) (hv:valN w+c*1000000000 ^ k=W+valTo v k) (hs:c+limb w k+limb v k=d+1000000000*e) :
  valN (w.set k (d,()))+e*1000000000 ^ (k+1)=W+valTo v (k+1):=by
 rw [valN_set hk,valTo,pw_succ]
 have h1:(c+limb w k+limb v k)*1000000000 ^ k=(d+1000000000*e)*1000000000 ^ k:=by rw [hs]
 grind
theorem mul_step {o b:List Lim} {i k:Nat} {c d e x W:Int} (hk:i+k<o.length) (hv:valN o+c*1000000000 ^ (i+k)=W+x*valTo b k*1000000000 ^ i) (hs:c+limb o (i+k)+x*limb b k=d+1000000000*e) :
  valN (o.set (i+k) (d,()))+e*1000000000 ^ (i+(k+1))=W+x*valTo b (k+1)*1000000000 ^ i:=by
 rw [valN_set hk,valTo,← Nat.add_assoc,pw_succ]
 have h1:(c+limb o (i+k)+x*limb b k)*1000000000 ^ (i+k)=(d+1000000000*e)*1000000000 ^ (i+k):=by rw [hs]
 have h2:=pw_add i k
 grind
theorem carry_step {o:List Lim} {k:Nat} {c d e T:Int} (hk:k<o.length) (hv:valN o+c*1000000000 ^ k=T) (hs:c+limb o k=d+1000000000*e) :
  valN (o.set k (d,()))+e*1000000000 ^ (k+1)=T:=by
 rw [valN_set hk,pw_succ]
 have h1:(c+limb o k)*1000000000 ^ k=(d+1000000000*e)*1000000000 ^ k:=by rw [hs]
 grind
theorem quot_step {o a:List Lim} {i:Nat} {r r' d x T:Int} (hi:i<o.length) (ho:limb o i=0) (hv:valN o*d+r*1000000000 ^ (i+1)+valTo a (i+1)=T) (hs:r*1000000000+limb a i=x*d+r') :
  valN (o.set i (x,()))*d+r'*1000000000 ^ i+valTo a i=T:=by
 rw [valN_set hi,ho,← hv,valTo,pw_succ]
 have h1:(r*1000000000+limb a i)*1000000000 ^ i=(x*d+r')*1000000000 ^ i:=by rw [hs]
 grind
theorem place_step {o:List Lim} {j:Nat} {u u' w w' v x T:Int} (hj:j<o.length) (ho:limb o j=0) (hv:valN o*v+u=T) (hu:u'=u+(w'-w)*1000000000 ^ j) (hw:w'=w-x*v) :
  valN (o.set j (x,()))*v+u'=T:=by
 rw [valN_set hj,ho,hu,hw,← hv]
 grind
theorem quot_unique {a b q r q' r':Int} (h:a=q*b+r) (h':a=q'*b+r') (hr:0≤r∧r<b) (hr':0≤r'∧r'<b):q=q'∧r=r':=by
 have e1:a / b=q∧a % b=r:=by
  rw [h,Int.add_comm,Int.add_mul_ediv_right _ _ (by omega),Int.add_mul_emod_self_right,Int.ediv_eq_zero_of_lt hr.1 hr.2,Int.emod_eq_of_lt hr.1 hr.2]
  exact⟨by omega,rfl⟩
 have e2:a / b=q'∧a % b=r':=by
  rw [h',Int.add_comm,Int.add_mul_ediv_right _ _ (by omega),Int.add_mul_emod_self_right,Int.ediv_eq_zero_of_lt hr'.1 hr'.2,Int.emod_eq_of_lt hr'.1 hr'.2]
  exact⟨by omega,rfl⟩
 exact⟨e1.1.symm.trans e2.1,e1.2.symm.trans e2.2⟩
theorem can_inj {l l':List Lim} (h:Can l) (h':Can l') (e:valN l=valN l'):l=l':=by
 have hc:=cmpL_val h h'
 have hz:cmpL l l'=0:=by
  rcases hc with ⟨_,h⟩ | ⟨h,_⟩ | ⟨_,h⟩
  ·omega
  ·exact h
  ·omega
 unfold cmpL at hz
 by_cases c:l.length=l'.length
 ·rw [if_neg (by simpa using c)] at hz
  have key:∀ n,cmpAt l l' n=0→∀ i,i<n→limb l i=limb l' i:=by
   intro n
   induction n with
   | zero=>intro _ i hi; omega
   | succ n ih =>
    intro hz i hi
    unfold cmpAt at hz
    split at hz
    ·omega
    ·split at hz
     ·omega
     ·by_cases e:i=n
      ·subst e; omega
      ·exact ih hz i (by omega)
  have hk:=key _ hz
  refine List.ext_getElem c fun i h1 h2=>?_
  have:=hk i h1
  rw [limb_lt h1,limb_lt h2] at this
  exact Prod.ext this rfl
 ·rw [if_pos c] at hz
  split at hz <;> omega
end Go.Proofs.YtfiakghfncempaaGreatDoor
namespace Go.Proofs.YtfiakghfncempaaGreatDoor
open Sx
set_option maxRecDepth 100000
def LeBut (f:List Nat) (V V':Know):Prop:=∀ b x,b ∉ f→V b=some x→V' b=some x
theorem LeBut.refl {f:List Nat} {V:Know}:LeBut f V V:=fun _ _ _ h=>h
theorem LeBut.trans {f:List Nat} {V V1 V2:Know} (h:LeBut f V V1) (k:LeBut f V1 V2):LeBut f V V2:=fun b x hb hx=>k b x hb (h b x hb hx)
theorem LeBut.of_le {f:List Nat} {V V':Know} (h:V.le V'):LeBut f V V':=fun b x _ hx=>h b x hx
theorem LeBut.sub {f g:List Nat} {V V':Know} (h:LeBut f V V') (hs:∀ b∈f,b∈g):LeBut g V V':=fun b x hb hx=>h b x (fun hm=>hb (hs b hm)) hx
theorem LeBut.kset {f:List Nat} {V:Know} {b:Nat} {x} (h:b∈f):LeBut f V (kset V b x):=fun k y hk hy=>by
 simp only [Sx.kset]
 rw [if_neg (fun e=>hk (by rw [e]; exact h))]; exact hy
theorem le_but {f:List Nat} {V V1 V2:Know} (h:V.le V1) (hf:∀ b∈f,V b=none) (k:LeBut f V1 V2):V.le V2:=fun b x hx=>k b x (fun hm=>by rw [hf b hm] at hx; cases hx) (h b x hx)
theorem Rp.but {sh:List Sc} {α:Type} (r:Rp sh α) {V V':Know} {c:Scs sh} {x:α} {fp f:List Nat} (h:r.R V c x fp) (hd:∀ b∈fp,b ∉ f) (k:LeBut f V V'):r.R V' c x fp :=
 r.loc h fun b hb=>by obtain⟨y,hy⟩:=r.kn h b hb; rw [hy]; exact k b y (hd b hb) hy
theorem LR.but {sh:List Sc} {α:Type} {r:Rp sh α} {V V':Know} {s:SlV} {l:List α} {fp f:List Nat} (h:LR r V s l fp) (hd:∀ b∈fp,b ∉ f) (k:LeBut f V V'):LR r V' s l fp :=
 h.loc fun b hb=>by obtain⟨y,hy⟩:=h.kn b hb; rw [hy]; exact k b y (hd b hb) hy
theorem LR.put {V:Know} {s:SlV} {l:List Lim} {f:List Nat} (h:LR rI V s l f) (hw:Wr V f) {i:Nat} (hi:i<l.length) (x:Int) :
  ∃ b o cs u,s.a=some ⟨b,o,none⟩∧V b=some (cs,(u,(0,0)))∧o+i*1+1≤cs.length∧b∈f∧LR rI (kset V b (setl cs (o+i*1) [.int .i64 x],(u,(0,0)))) s (l.set i (x,())) f∧Wr (kset V b (setl cs (o+i*1) [.int .i64 x],(u,(0,0)))) f:=by
 obtain⟨h1,h2,h3,h4⟩:=h
 rcases h4 with ⟨h0,_,_⟩ | ⟨b,pre,post,t,fps,cs,k1,k2,k3,rfl⟩
 ·omega
 ·obtain⟨rfl,rfl⟩:=els_int_eq k3
  obtain⟨c',t',hk⟩:=hw b (by simp)
  rw [k2] at hk
  simp only [Option.some.injEq,Prod.mk.injEq] at hk
  obtain⟨rfl,rfl⟩:=hk
  refine⟨b,pre.length,_,t',k1,k2,?_,by simp,⟨by simp; exact h1,h2,h3,.inr ⟨b,pre,post,(t',(0,0)),[],cs.set i (x,()),k1,?_,els_int _,rfl⟩⟩,?_⟩
  ·rw [flat_int]
   simp
   omega
  ·rw [kset_same,flat_int,flat_int]
   have e1:pre++(cs.map cellI++post)=(pre++(cs.take i).map cellI)++((cs.drop i).map cellI++post):=by
    rw [List.append_assoc,← List.append_assoc ((cs.take i).map cellI),← List.map_append,List.take_append_drop]
   have e3:(cs.drop i).map cellI++post=cellI cs[i] :: ((cs.drop (i+1)).map cellI++post):=by rw [List.drop_eq_getElem_cons hi]; rfl
   have e2:cs.set i (x,())=cs.take i++(x,()) :: cs.drop (i+1):=by
    rw [List.set_eq_take_append_cons_drop,if_pos hi]
   rw [e1,e3,setl_mid (by simp; omega) (by simp),e2]
   simp only [List.length_singleton,List.drop_succ_cons,List.drop_zero,List.map_append,List.map_cons,List.append_assoc,List.cons_append,List.nil_append]
   rfl
  ·intro b' hb'
   simp at hb'
   subst hb'
   exact⟨_,_,kset_same⟩
end Go.Proofs.YtfiakghfncempaaGreatDoor
