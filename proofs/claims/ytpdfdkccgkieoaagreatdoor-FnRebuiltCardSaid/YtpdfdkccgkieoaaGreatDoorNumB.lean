/-
  What the program's functions on lists of limbs give: sum, difference.
-/
import Derived.Test.YtpdfdkccgkieoaaGreatDoorRead
import Derived.Test.YtpdfdkccgkieoaaGreatDoorStr
namespace Go.Proofs.YtpdfdkccgkieoaaGreatDoor
open Sx
abbrev Lim:=Int × Unit
def limb (l:List Lim) (i:Nat):Int:=(l.getD i (0,())).1
def valTo (l:List Lim):Nat→Int
 | 0=>0
 | i+1=>valTo l i+limb l i*1000000000 ^ i
def valN (l:List Lim):Int:=valTo l l.length
def Lims (l:List Lim):Prop:=∀ i,0≤limb l i∧limb l i<1000000000
def Can (l:List Lim):Prop:=Lims l∧(l.length=0∨limb l (l.length-1)≠0)
theorem limb_lt {l:List Lim} {i:Nat} (h:i<l.length):limb l i=l[i].1:=by simp [limb,h]
theorem limb_ge {l:List Lim} {i:Nat} (h:l.length≤i):limb l i=0:=by simp [limb,List.getD_eq_getElem?_getD,List.getElem?_eq_none h]
theorem pw_succ (i:Nat):(1000000000:Int) ^ (i+1)=1000000000*1000000000 ^ i:=by rw [Int.pow_succ,Int.mul_comm]
theorem pw_pos:∀ i:Nat,(0:Int)<1000000000 ^ i
 | 0=>by decide
 | i+1=>by rw [pw_succ]; have:=pw_pos i; omega
theorem valTo_ge {l:List Lim} {i:Nat} (h:l.length≤i):valTo l i=valN l:=by
 induction i with
 | zero =>
  have:l.length=0:=by omega
  rw [valN,this]
 | succ i ih =>
  by_cases e:l.length=i+1
  ·rw [valN,e]
  ·rw [valTo,limb_ge (by omega),ih (by omega)]; simp
theorem mul_pw_nonneg {x:Int} (h:0≤x) (i:Nat):0≤x*1000000000 ^ i:=Int.mul_nonneg h (Int.le_of_lt (pw_pos i))
theorem mul_pw_le {x y:Int} (h:x≤y) (i:Nat):x*1000000000 ^ i≤y*1000000000 ^ i:=Int.mul_le_mul_of_nonneg_right h (Int.le_of_lt (pw_pos i))
theorem valTo_bd {l:List Lim} (h:Lims l):∀ i,0≤valTo l i∧valTo l i<1000000000 ^ i
 | 0=>by simp [valTo]
 | i+1=>by
  have ih:=valTo_bd h i
  have hl:=h i
  have h1:=mul_pw_nonneg hl.1 i
  have h2:=mul_pw_le (show limb l i≤999999999 by omega) i
  rw [valTo,pw_succ]
  constructor
  ·omega
  ·omega
theorem valN_nonneg {l:List Lim} (h:Lims l):0≤valN l:=(valTo_bd h _).1
def cmpAt (l l':List Lim):Nat→Int
 | 0=>0
 | n+1=>if limb l n<limb l' n then -1 else if limb l n > limb l' n then 1 else cmpAt l l' n
def cmpL (l l':List Lim):Int:=if l.length≠l'.length then (if l.length<l'.length then -1 else 1) else cmpAt l l' l.length
def Cmps (c:Int) (x y:Int):Prop:=(c=-1∧x<y)∨(c=0∧x=y)∨(c=1∧y<x)
theorem cmpAt_val {l l':List Lim} (h:Lims l) (h':Lims l'):∀ n,Cmps (cmpAt l l' n) (valTo l n) (valTo l' n)
 | 0=>.inr (.inl ⟨rfl,rfl⟩)
 | n+1=>by
  have ih:=cmpAt_val h h' n
  have b1:=valTo_bd h n
  have b2:=valTo_bd h' n
  unfold cmpAt valTo
  by_cases c1:limb l n<limb l' n
  ·rw [if_pos c1]
   have:=mul_pw_le (show limb l n+1≤limb l' n by omega) n
   rw [Int.add_mul,Int.one_mul] at this
   exact .inl ⟨rfl,by omega⟩
  ·rw [if_neg c1]
   by_cases c2:limb l n > limb l' n
   ·rw [if_pos c2]
    have:=mul_pw_le (show limb l' n+1≤limb l n by omega) n
    rw [Int.add_mul,Int.one_mul] at this
    exact .inr (.inr ⟨rfl,by omega⟩)
   ·rw [if_neg c2]
    have e:limb l n=limb l' n:=by omega
    rw [e]
    rcases ih with ⟨i1,i2⟩ | ⟨i1,i2⟩ | ⟨i1,i2⟩
    ·exact .inl ⟨i1,by omega⟩
    ·exact .inr (.inl ⟨i1,by omega⟩)
    ·exact .inr (.inr ⟨i1,by omega⟩)
theorem pw_mono {i j:Nat} (h:i≤j):(1000000000:Int) ^ i≤1000000000 ^ j:=by
 induction j with
 | zero =>
  have:i=0:=by omega
  subst this; exact Int.le_refl _
 | succ j ih =>
  by_cases e:i=j+1
  ·subst e; exact Int.le_refl _
  ·have:=ih (by omega)
   have:=pw_pos j
   rw [pw_succ]; omega
theorem can_ge {l:List Lim} (h:Can l) (hp:0<l.length):(1000000000:Int) ^ (l.length-1)≤valN l:=by
 obtain⟨k,hk⟩:∃ k,l.length=k+1:=⟨l.length-1,by omega⟩
 have h1:=h.1 k
 have h2:limb l k≠0:=by
  rcases h.2 with h | h
  ·omega
  ·rw [hk] at h; simpa using h
 have h3:=(valTo_bd h.1 k).1
 have h4:=mul_pw_le (show 1≤limb l k by omega) k
 rw [valN,hk,valTo]
 simp only [Nat.add_sub_cancel]
 omega
theorem cmpL_val {l l':List Lim} (h:Can l) (h':Can l'):Cmps (cmpL l l') (valN l) (valN l'):=by
 unfold cmpL
 by_cases e:l.length=l'.length
 ·rw [if_neg (by simpa using e)]
  have:=cmpAt_val h.1 h'.1 l.length
  unfold valN
  rw [← e]; exact this
 ·rw [if_pos e]
  by_cases c:l.length<l'.length
  ·rw [if_pos c]
   have h1:=can_ge h' (by omega)
   have h2:=(valTo_bd h.1 l.length).2
   have h3:=pw_mono (show l.length≤l'.length-1 by omega)
   exact .inl ⟨rfl,by unfold valN at h1 ⊢; omega⟩
  ·rw [if_neg c]
   have h1:=can_ge h (by omega)
   have h2:=(valTo_bd h'.1 l'.length).2
   have h3:=pw_mono (show l'.length≤l.length-1 by omega)
   exact .inr (.inr ⟨rfl,by unfold valN at h1 ⊢; omega⟩)
theorem can_empty {l:List Lim} (h:Can l):l.length=0↔valN l=0:=by
 constructor
 ·intro e; rw [valN,e]; rfl
 ·intro e
  cases hl:l.length with
  | zero=>rfl
  | succ k =>
   have:=can_ge h (by omega)
   have:=pw_pos (l.length-1)
   omega
def tl (l:List Lim):Nat→Nat
 | 0=>0
 | n+1=>if limb l n=0 then tl l n else n+1
def trimL (l:List Lim):List Lim:=l.take (tl l l.length)
theorem tl_le (l:List Lim):∀ n,tl l n≤n
 | 0=>Nat.le_refl _
 | n+1=>by
  have:=tl_le l n
  unfold tl
  split <;> omega
theorem valTo_tl (l:List Lim):∀ n,valTo l (tl l n)=valTo l n
 | 0=>rfl
 | n+1=>by
  unfold tl
  by_cases h:limb l n=0
  ·rw [if_pos h,valTo_tl l n,valTo,h]; simp
  ·rw [if_neg h]
theorem tl_top (l:List Lim):∀ n,tl l n=0∨limb l (tl l n-1)≠0
 | 0=>.inl rfl
 | n+1=>by
  unfold tl
  by_cases h:limb l n=0
  ·rw [if_pos h]; exact tl_top l n
  ·rw [if_neg h]; exact .inr h
theorem limb_take {l:List Lim} {n i:Nat} (h:i<n):limb (l.take n) i=limb l i:=by
 simp [limb,List.getD_eq_getElem?_getD,h]
theorem valTo_take {l:List Lim} {n:Nat}:∀ {i:Nat},i≤n→valTo (l.take n) i=valTo l i
 | 0,_=>rfl
 | i+1,h=>by rw [valTo,valTo,valTo_take (by omega),limb_take (by omega)]
theorem lims_take {l:List Lim} (h:Lims l) (n:Nat):Lims (l.take n):=by
 intro i
 by_cases hi:i<n
 ·rw [limb_take hi]; exact h i
 ·rw [limb_ge (by simp; omega)]; omega
theorem trim_can {l:List Lim} (h:Lims l):Can (trimL l)∧valN (trimL l)=valN l:=by
 have hle:=tl_le l l.length
 have hlen:(trimL l).length=tl l l.length:=by simp [trimL]; omega
 refine⟨⟨lims_take h _,?_⟩,?_⟩
 ·rw [hlen]
  rcases tl_top l l.length with h1 | h1
  ·exact .inl h1
  ·by_cases h0:tl l l.length=0
   ·exact .inl h0
   ·right
    unfold trimL
    rw [limb_take (by omega)]; exact h1
 ·unfold valN
  rw [hlen]
  unfold trimL
  rw [valTo_take (Nat.le_refl _),valTo_tl]
theorem limb_snoc_lt {l:List Lim} {x:Lim} {i:Nat} (h:i<l.length):limb (l++[x]) i=limb l i:=by
 simp [limb,List.getD_eq_getElem?_getD,List.getElem?_append_left h]
theorem limb_snoc {l:List Lim} {x:Lim}:limb (l++[x]) l.length=x.1:=by simp [limb]
theorem valTo_snoc {l:List Lim} {x:Lim}:∀ {i:Nat},i≤l.length→valTo (l++[x]) i=valTo l i
 | 0,_=>rfl
 | i+1,h=>by rw [valTo,valTo,valTo_snoc (by omega),limb_snoc_lt (by omega)]
theorem lims_snoc {l:List Lim} {x:Lim} (h:Lims l) (hx:0≤x.1∧x.1<1000000000):Lims (l++[x]):=by
 intro i
 by_cases h1:i<l.length
 ·rw [limb_snoc_lt h1]; exact h i
 ·by_cases h2:i=l.length
  ·subst h2; rw [limb_snoc]; exact hx
  ·rw [limb_ge (by simp; omega)]; omega
theorem lims_nil:Lims []:=fun i=>by rw [limb_ge (by simp)]; omega
theorem add_step {o a b:List Lim} {c d e:Int} {i:Nat} (ho:o.length=i) (hv:valTo o i+c*1000000000 ^ i=valTo a i+valTo b i) (hs:c+limb a i+limb b i=d+1000000000*e) :
  valTo (o++[(d,())]) (i+1)+e*1000000000 ^ (i+1)=valTo a (i+1)+valTo b (i+1):=by
 subst ho
 rw [valTo,valTo,valTo,valTo_snoc (Nat.le_refl _),limb_snoc,pw_succ]
 have h1:(c+limb a o.length+limb b o.length)*1000000000 ^ o.length=(d+1000000000*e)*1000000000 ^ o.length:=by rw [hs]
 rw [Int.add_mul,Int.add_mul,Int.add_mul,Int.mul_assoc] at h1
 have h2:e*(1000000000*1000000000 ^ o.length)=1000000000*(e*1000000000 ^ o.length):=by rw [← Int.mul_assoc,Int.mul_comm e,Int.mul_assoc]
 show valTo o o.length+d*_+_=_
 omega
theorem sub_step {o a b:List Lim} {c d e:Int} {i:Nat} (ho:o.length=i) (hv:valTo o i=valTo a i-valTo b i+c*1000000000 ^ i) (hs:d=limb a i-c-limb b i+1000000000*e) :
  valTo (o++[(d,())]) (i+1)=valTo a (i+1)-valTo b (i+1)+e*1000000000 ^ (i+1):=by
 subst ho
 rw [valTo,valTo,valTo,valTo_snoc (Nat.le_refl _),limb_snoc,pw_succ]
 have h1:d*1000000000 ^ o.length=(limb a o.length-c-limb b o.length+1000000000*e)*1000000000 ^ o.length:=by rw [hs]
 rw [Int.add_mul,Int.sub_mul,Int.sub_mul,Int.mul_assoc] at h1
 have h2:e*(1000000000*1000000000 ^ o.length)=1000000000*(e*1000000000 ^ o.length):=by rw [← Int.mul_assoc,Int.mul_comm e,Int.mul_assoc]
 show valTo o o.length+d*_=_
 omega
end Go.Proofs.YtpdfdkccgkieoaaGreatDoor
namespace Go.Proofs.YtpdfdkccgkieoaaGreatDoor
open Sx
set_option maxRecDepth 100000
theorem els_int {V:Know}:∀ o:List Lim,Els rI V o o []
 | []=>rfl
 | _ :: o=>⟨[],[],rfl,⟨rfl,rfl⟩,els_int o⟩
theorem els_int_eq {V:Know}:∀ {cs l:List Lim} {f:List Nat},Els rI V cs l f→cs=l∧f=[]
 | [],[],_,h=>⟨rfl,h⟩
 | (c,()) :: cs,(x,()) :: l,_,⟨f,g,rfl,h1,h2⟩=>by
  obtain⟨rfl,rfl⟩:=els_int_eq h2
  have e1:c=x:=h1.1
  have e2:f=[]:=h1.2
  subst e1; subst e2
  exact⟨rfl,rfl⟩
def cellI (x:Lim):Value:=.int .i64 x.1
theorem flat_int:∀ o:List Lim,o.flatMap (Scs.vals [.i .i64])=o.map cellI
 | []=>rfl
 | x :: o=>by rw [List.flatMap_cons,flat_int o]; rfl
theorem one_int:∀ o:List Lim,one (o.map cellI)=true
 | []=>rfl
 | x :: o=>by
  have:=one_int o
  unfold one at this ⊢
  rw [List.map_cons,List.all_cons,this]; rfl
theorem LR.shrink {V:Know} {s:SlV} {l:List Lim} {f:List Nat} (h:LR rI V s l f) {k:Nat} (hk:k≤l.length):LR rI V ⟨s.a,k,s.c⟩ (l.take k) f:=by
 obtain⟨h1,h2,h3,h4⟩:=h
 refine⟨by simp; omega,(by omega:k≤s.c),(by omega:k≤9223372036854775807),?_⟩
 rcases h4 with ⟨h0,hc,hf⟩ | ⟨b,pre,post,t,fps,cs,k1,k2,k3,rfl⟩
 ·exact .inl ⟨(by omega:k=0),hc,hf⟩
 ·obtain⟨rfl,rfl⟩:=els_int_eq k3
  refine .inr ⟨b,pre,(cs.drop k).flatMap (Scs.vals [.i .i64])++post,t,[],cs.take k,k1,?_,els_int _,rfl⟩
  have e:(cs.take k).flatMap (Scs.vals [.i .i64])++((cs.drop k).flatMap (Scs.vals [.i .i64])++post)=cs.flatMap (Scs.vals [.i .i64])++post:=by
   rw [← List.append_assoc,← List.flatMap_append,List.take_append_drop]
  rw [k2,e]
theorem LR.rdI {V:Know} {s:SlV} {l:List Lim} {f:List Nat} (h:LR rI V s l f) :
  ((s.n=0∧(s.a=none→s.c=0)∧l.map cellI=[])∨∃ ad,s.a=some ad∧loadV V ad (s.n*1)=some (l.map cellI))∧one (l.map cellI)=true:=by
 obtain⟨h1,h2,h3,h4⟩:=h
 refine⟨?_,one_int l⟩
 rcases h4 with ⟨h0,hc,hf⟩ | ⟨b,pre,post,t,fps,cs,k1,k2,k3,rfl⟩
 ·have:l=[]:=List.eq_nil_of_length_eq_zero (by omega)
  subst this
  exact .inl ⟨h0,hc,rfl⟩
 ·obtain⟨rfl,rfl⟩:=els_int_eq k3
  refine .inr ⟨_,k1,?_⟩
  simp only [loadV,k2]
  have:=cutv_skip (x:=pre) (y:=cs.flatMap (Scs.vals [.i .i64])++post) (o:=0) (n:=s.n*1)
  rw [Nat.add_zero] at this
  rw [this,flat_int,h1,Nat.mul_one]
  have:=cutv_head (x:=cs.map cellI) (y:=post)
  rwa [List.length_map] at this
theorem newI {V:Know} {b cap:Nat} {o:List Lim} {spare:List Value} {t:TypeId} (hb:V b=none) (hc:o.length≤cap) (hl:o.length≤9223372036854775807) :
  LR rI (kset V b (o.map cellI++spare,(t,(0,0)))) ⟨some ⟨b,0,none⟩,o.length,cap⟩ o [b]∧Own V (kset V b (o.map cellI++spare,(t,(0,0)))) [b]:=by
 refine⟨⟨rfl,hc,hl,.inr ⟨b,[],spare,(t,(0,0)),[],o,rfl,?_,els_int o,rfl⟩⟩,by simp,?_,?_⟩
 ·rw [kset_same,flat_int]; rfl
 ·intro b' hb'; simp at hb'; subst hb'; exact hb
 ·intro b' hb'; simp at hb'; subst hb'; exact⟨_,_,kset_same⟩
theorem cI_trim (V:Know) (s:SlV) (l:List Lim) (f:List Nat) (h:LR rI V s l f) :
  CallX Tryz.prog V 203 [Sc.val .l s] (fun V' r=>V'=V∧∃ s',r=Sc.val .l s'∧LR rI V s' (trimL l) f):=by
 refine CallX.of_fits Tryz.mix (fI_trim s) fun _=>?_
 simp only [tI_trim,T.wp]
 refine⟨fun y V'=>V'=V∧∃ m:Nat,m≤l.length∧tl l m=tl l l.length∧LR rI V y.1 (l.take m) f,fun y=>y.1.n,
  ⟨(s,()),rfl,rfl,l.length,Nat.le_refl _,rfl,by rw [List.take_length]; exact h⟩,?_⟩
 rintro⟨s1,u⟩ V' ⟨rfl,m,hm,htl,hL⟩
 replace hL:LR rI V' s1 (l.take m) f:=hL
 have hn:s1.n=m:=by have:=hL.1; simp at this; omega
 have hcap:=hL.2.1
 have h63:=hL.2.2.1
 refine⟨fun hpos=>?_,fun hz=>?_⟩
 ·have hp:(s1.n:Int) > 0:=of_decide_eq_true hpos
  obtain⟨j,rfl⟩:∃ j,m=j+1:=⟨m-1,by omega⟩
  have hj:j<(l.take (j+1)).length:=by simp; omega
  have hjl:j<l.length:=by omega
  obtain⟨b,o,a1,l1⟩:=hL.int hj
  have hw:IntKind.i64.wrap ((s1.n:Int)-1)=(j:Int):=by rw [wrap_i64 (by omega)]; omega
  show ∃ ad,s1.a=some ad∧_
  rw [hw]
  refine⟨_,a1,(by omega:(0:Int)≤(j:Int)),(by omega:(j:Int)<(s1.n:Int)),(l.take (j+1))[j].1,l1,fun h0=>?_,fun h0=>?_⟩
  ·have e0:limb l j=0:=by
    rw [limb_lt hjl]
    have:(l.take (j+1))[j].1=0:=by simpa using h0
    simpa using this
   have hsame:(if (s1.c:Int).toNat=Int.toNat (0:Int) then s1.a else Option.map (fun x=>x.add (Int.toNat (0:Int)*Tryz.prog.types[(3:Nat)].size)) s1.a)=s1.a:=by
    split
    ·rfl
    ·cases s1.a with
     | none=>rfl
     | some ad=>simp [Addr.add]
   have hL2:=hL.shrink (k:=j) (by simp; omega)
   refine⟨⟨(by omega:(0:Int)≤0),(by omega:(0:Int)≤(j:Int)),(by omega:(j:Int)≤(s1.c:Int)),(by omega:(s1.c:Int)≤(s1.c:Int))⟩,_,rfl,((⟨if (s1.c:Int).toNat=Int.toNat (0:Int) then s1.a else Option.map (fun x=>x.add (Int.toNat (0:Int)*Tryz.prog.types[(3:Nat)].size)) s1.a,(j:Int).toNat-Int.toNat (0:Int),(s1.c:Int).toNat-Int.toNat (0:Int)⟩:SlV),()),rfl,⟨rfl,j,by omega,?_,?_⟩,?_⟩
   ·rw [← htl,tl,if_pos e0]
   ·have e3:((j:Int).toNat-Int.toNat (0:Int))=j:=by omega
    have e4:((s1.c:Int).toNat-Int.toNat (0:Int))=s1.c:=by omega
    show LR rI V' ⟨if (s1.c:Int).toNat=Int.toNat (0:Int) then s1.a else Option.map (fun x=>x.add (Int.toNat (0:Int)*Tryz.prog.types[(3:Nat)].size)) s1.a,(j:Int).toNat-Int.toNat (0:Int),(s1.c:Int).toNat-Int.toNat (0:Int)⟩ _ _
    rw [hsame,e3,e4]
    rw [List.take_take] at hL2
    rwa [Nat.min_eq_left (by omega)] at hL2
   ·show(j:Int).toNat-Int.toNat (0:Int)<s1.n
    omega
  ·have e0:limb l j≠0:=by
    rw [limb_lt hjl]
    have:¬ (l.take (j+1))[j].1=0:=by simpa using h0
    simpa using this
   refine⟨rfl,s1,rfl,?_⟩
   rw [tl,if_neg e0] at htl
   unfold trimL
   rw [← htl]; exact hL
 ·have hz':¬ (s1.n:Int) > 0:=of_decide_eq_false hz
  have:m=0:=by omega
  subst this
  refine⟨rfl,s1,rfl,?_⟩
  unfold trimL
  rw [← htl]; exact hL
theorem cI_natCopy (V:Know) (s:SlV) (l:List Lim) (f:List Nat) (h:LR rI V s l f) (hl:l.length≤1048576) :
  CallX Tryz.prog V 95 [Sc.val .l s] (fun V' r=>V.le V'∧∃ s' f',r=Sc.val .l s'∧LR rI V' s' l f'∧Own V V' f'):=by
 refine CallX.of_fits Tryz.mix (fI_natCopy s) fun _=>?_
 simp only [tI_natCopy,T.wp]
 obtain⟨h1,h2⟩:=h.rdI
 have hn:=h.1
 refine⟨_,h1,h2,⟨h2,(by omega:(0+s.n)*8≤140737488355328),(by omega:0+s.n≤9223372036854775807)⟩,?_⟩
 intro b cap spare hb hc _
 have hk:=newI (o:=l) (spare:=spare) (t:=3) (cap:=cap) hb (by omega) (by omega)
 refine⟨kset_le hb,⟨some ⟨b,0,none⟩,0+s.n,cap⟩,[b],rfl,?_,hk.2⟩
 rw [Nat.zero_add,hn]; exact hk.1
theorem cmp_body {l l':List Lim} {n:Nat}:cmpAt l l' (n+1)=if limb l n<limb l' n then -1 else if limb l n > limb l' n then 1 else cmpAt l l' n:=rfl
theorem cI_natCmp (V:Know) (s s':SlV) (l l':List Lim) (f f':List Nat) (h:LR rI V s l f) (h':LR rI V s' l' f') :
  CallX Tryz.prog V 198 [Sc.val .l s,Sc.val .l s'] (fun V' r=>V'=V∧r=.int .i64 (cmpL l l')):=by
 refine CallX.of_fits Tryz.mix (fI_natCmp _ _) fun _=>?_
 simp only [tI_natCmp,T.wp]
 have hn:=h.1
 have hn':=h'.1
 have hb:=h.2.2.1
 refine⟨fun hne=>?_,fun heq=>?_⟩
 ·have hne':l.length≠l'.length:=by
   have:((s.n:Nat):Int)≠((s'.n:Nat):Int):=by simpa using hne
   omega
  refine⟨fun hlt=>⟨by trivial,?_⟩,fun hge=>⟨by trivial,?_⟩⟩
  ·have:(s.n:Int)<(s'.n:Int):=of_decide_eq_true hlt
   rw [cmpL,if_pos hne',if_pos (by omega)]; rfl
  ·have:¬ (s.n:Int)<(s'.n:Int):=of_decide_eq_false hge
   rw [cmpL,if_pos hne',if_neg (by omega)]; rfl
 have hl:l.length=l'.length:=by
  have:((s.n:Nat):Int)=((s'.n:Nat):Int):=by simpa using heq
  omega
 have hc:cmpL l l'=cmpAt l l' l.length:=by rw [cmpL,if_neg (by simpa using hl)]
 rw [hc]
 have hw:IntKind.i64.wrap ((s.n:Int)-1)=(s.n:Int)-1:=wrap_i64 (by omega)
 refine⟨fun y V'=>V'=V∧∃ n:Nat,y.1=(n:Int)-1∧n≤l.length∧cmpAt l l' n=cmpAt l l' l.length,fun y=>((y.1:Int)+1).toNat,
  ⟨((s.n:Int)-1,()),by rw [hw]; rfl,rfl,l.length,by rw [hn],Nat.le_refl _,rfl⟩,?_⟩
 rintro⟨(i:Int),u⟩ V' ⟨rfl,n,hi,hle,hcm⟩
 replace hi:i=(n:Int)-1:=hi
 refine⟨fun hge=>?_,fun hlt=>?_⟩
 ·have hge':i≥0:=of_decide_eq_true hge
  obtain⟨m,rfl⟩:∃ m,n=m+1:=⟨n-1,by omega⟩
  have hi:i=(m:Int):=by omega
  subst hi
  have h1:m<l.length:=hle
  have h2:m<l'.length:=by omega
  obtain⟨b1,o1,a1,l1⟩:=h.int h1
  obtain⟨b2,o2,a2,l2⟩:=h'.int h2
  rw [cmp_body,limb_lt h1,limb_lt h2] at hcm
  refine⟨_,a1,by omega,(by omega:(m:Int)<(s.n:Int)),l[m].1,l1,_,a2,by omega,(by omega:(m:Int)<(s'.n:Int)),l'[m].1,l2,fun hne=>?_,fun heq=>?_⟩
  ·have hne':l[m].1≠l'[m].1:=by simpa using hne
   refine⟨_,a1,by omega,(by omega:(m:Int)<(s.n:Int)),l[m].1,l1,_,a2,by omega,(by omega:(m:Int)<(s'.n:Int)),l'[m].1,l2,fun hlt=>⟨rfl,?_⟩,fun hge1=>⟨rfl,?_⟩⟩
   ·rw [if_pos (of_decide_eq_true hlt)] at hcm
    rw [← hcm]; rfl
   ·have:¬ l[m].1<l'[m].1:=of_decide_eq_false hge1
    rw [if_neg this,if_pos (by omega)] at hcm
    rw [← hcm]; rfl
  ·have heq':l[m].1=l'[m].1:=by simpa using heq
   rw [if_neg (by omega),if_neg (by omega)] at hcm
   refine⟨_,rfl,((m:Int)-1,()),by rw [show IntKind.i64.wrap ((m:Int)-1)=(m:Int)-1 from wrap_i64 (by omega)]; rfl,⟨rfl,m,rfl,by omega,hcm⟩,?_⟩
   show((m:Int)-1+1).toNat<((m:Int)+1).toNat
   omega
 ·have:¬ i≥0:=of_decide_eq_false hlt
  have hz:n=0:=by omega
  subst hz
  refine⟨rfl,?_⟩
  rw [← hcm]; rfl
theorem cS_l02Cmp (V:Know) (s s':SlV) (l l':List Lim) (f f':List Nat) (h:LR rI V s l f) (h':LR rI V s' l' f') :
  CallX Tryz.prog V 157 [Sc.val .l s,Sc.val .l s'] (fun V' r=>V'=V∧r=.int .i64 (cmpL l l')):=by
 refine CallX.of_fits Tryz.mix (fS_l02Cmp _ _) fun _=>?_
 simp only [tS_l02Cmp,T.wp]
 have hn:=h.1
 have hn':=h'.1
 have hb:=h.2.2.1
 refine⟨fun hne=>?_,fun heq=>?_⟩
 ·have hne':l.length≠l'.length:=by
   have:((s.n:Nat):Int)≠((s'.n:Nat):Int):=by simpa using hne
   omega
  refine⟨fun hlt=>⟨by trivial,?_⟩,fun hge=>⟨by trivial,?_⟩⟩
  ·have:(s.n:Int)<(s'.n:Int):=of_decide_eq_true hlt
   rw [cmpL,if_pos hne',if_pos (by omega)]; rfl
  ·have:¬ (s.n:Int)<(s'.n:Int):=of_decide_eq_false hge
   rw [cmpL,if_pos hne',if_neg (by omega)]; rfl
 have hl:l.length=l'.length:=by
  have:((s.n:Nat):Int)=((s'.n:Nat):Int):=by simpa using heq
  omega
 have hc:cmpL l l'=cmpAt l l' l.length:=by rw [cmpL,if_neg (by simpa using hl)]
 rw [hc]
 have hw:IntKind.i64.wrap ((s.n:Int)-1)=(s.n:Int)-1:=wrap_i64 (by omega)
 refine⟨fun y V'=>V'=V∧∃ n:Nat,y.1=(n:Int)-1∧n≤l.length∧cmpAt l l' n=cmpAt l l' l.length,fun y=>((y.1:Int)+1).toNat,
  ⟨((s.n:Int)-1,()),by rw [hw]; rfl,rfl,l.length,by rw [hn],Nat.le_refl _,rfl⟩,?_⟩
 rintro⟨(i:Int),u⟩ V' ⟨rfl,n,hi,hle,hcm⟩
 replace hi:i=(n:Int)-1:=hi
 refine⟨fun hge=>?_,fun hlt=>?_⟩
 ·have hge':i≥0:=of_decide_eq_true hge
  obtain⟨m,rfl⟩:∃ m,n=m+1:=⟨n-1,by omega⟩
  have hi:i=(m:Int):=by omega
  subst hi
  have h1:m<l.length:=hle
  have h2:m<l'.length:=by omega
  obtain⟨b1,o1,a1,l1⟩:=h.int h1
  obtain⟨b2,o2,a2,l2⟩:=h'.int h2
  rw [cmp_body,limb_lt h1,limb_lt h2] at hcm
  refine⟨_,a1,by omega,(by omega:(m:Int)<(s.n:Int)),l[m].1,l1,_,a2,by omega,(by omega:(m:Int)<(s'.n:Int)),l'[m].1,l2,fun hlt=>⟨rfl,?_⟩,fun hge1=>?_⟩
  ·rw [if_pos (of_decide_eq_true hlt)] at hcm
   rw [← hcm]; rfl
  rw [if_neg (of_decide_eq_false hge1)] at hcm
  refine⟨_,a1,by omega,(by omega:(m:Int)<(s.n:Int)),l[m].1,l1,_,a2,by omega,(by omega:(m:Int)<(s'.n:Int)),l'[m].1,l2,fun hgt=>⟨rfl,?_⟩,fun hle1=>?_⟩
  ·rw [if_pos (of_decide_eq_true hgt)] at hcm
   rw [← hcm]; rfl
  rw [if_neg (of_decide_eq_false hle1)] at hcm
  refine⟨_,rfl,((m:Int)-1,()),by rw [show IntKind.i64.wrap ((m:Int)-1)=(m:Int)-1 from wrap_i64 (by omega)]; rfl,⟨rfl,m,rfl,by omega,hcm⟩,?_⟩
  show((m:Int)-1+1).toNat<((m:Int)+1).toNat
  omega
 ·have:¬ i≥0:=of_decide_eq_false hlt
  have hz:n=0:=by omega
  subst hz
  refine⟨rfl,?_⟩
  rw [← hcm]; rfl
end Go.Proofs.YtpdfdkccgkieoaaGreatDoor
namespace Go.Proofs.YtpdfdkccgkieoaaGreatDoor
open Sx
set_option maxRecDepth 100000
theorem cI_natAdd (V:Know) (s s':SlV) (a b:List Lim) (f f':List Nat) (h:LR rI V s a f) (h':LR rI V s' b f') (ha:Lims a) (hb:Lims b) (la:a.length≤1000000) (lb:b.length≤1000000) :
  CallX Tryz.prog V 234 [Sc.val .l s,Sc.val .l s'] (fun V' r=>V.le V'∧∃ s'' o f'',r=Sc.val .l s''∧LR rI V' s'' o f''∧Own V V' f''∧Can o∧valN o=valN a+valN b∧o.length≤1000001):=by
 refine CallX.of_fits Tryz.mix (fI_natAdd _ _) fun _=>?_
 have hn:=h.1
 have hn':=h'.1
 obtain⟨m,hm,hm1,hm2,hm3⟩:∃ m:Nat,(if (s'.n:Int) > (s.n:Int) then (s'.n:Int) else (s.n:Int))=(m:Int)∧a.length≤m∧b.length≤m∧m≤1000000:=by
  by_cases hgt:(s'.n:Int) > (s.n:Int)
  ·exact⟨s'.n,by rw [if_pos hgt],by omega,by omega,by omega⟩
  ·exact⟨s.n,by rw [if_neg hgt],by omega,by omega,by omega⟩
 simp only [tI_natAdd,T.wp,hm]
 have hw:IntKind.i64.wrap ((m:Int)+1)=(m:Int)+1:=wrap_i64 (by omega)
 rw [hw]
 refine⟨⟨by omega,by omega,by omega,by omega⟩,?_⟩
 refine⟨fun y V'=>V'=V∧∃ (k:Nat) (o:List Lim),y.2.2.1=(k:Int)∧k≤m∧0≤(y.2.1:Int)∧(y.2.1:Int)≤1∧y.1.1=k∧y.1.2=o.map cellI∧o.length=k∧Lims o∧valTo o k+(y.2.1:Int)*1000000000 ^ k=valTo a k+valTo b k,
  fun y=>((m:Int)-(y.2.2.1:Int)).toNat,⟨((0,[]),(0:Int),(0:Int),()),rfl,rfl,0,[],rfl,by omega,by decide,by decide,rfl,rfl,rfl,lims_nil,rfl⟩,?_⟩
 rintro⟨⟨n1,ys⟩,(c:Int),(i:Int),u⟩ V' ⟨rfl,k,o,hi,hk,hc0,hc1,hn1,hys,hol,hlo,hv⟩
 replace hi:i=(k:Int):=hi
 replace hc0:0≤c:=hc0
 replace hc1:c≤1:=hc1
 replace hn1:n1=k:=hn1
 replace hys:ys=o.map cellI:=hys
 replace hv:valTo o k+c*1000000000 ^ k=valTo a k+valTo b k:=hv
 subst hi hn1 hys
 have la1:=ha n1
 have lb1:=hb n1
 refine⟨fun hlt=>?_,fun hge=>?_⟩
 ·have hkm:n1<m:=by
   have:(n1:Int)<(m:Int):=of_decide_eq_true hlt
   omega
  have hwi:IntKind.i64.wrap ((n1:Int)+1)=((n1+1:Nat):Int):=nxt hkm (by omega)
  have next:∀ t:Int,t=c+limb a n1+limb b n1→∃ y':LShs [.a 3,.o (.o (.i .i64)),.o (.o (.i .i64))],
    [LV.a 3 (n1+1) (o.map cellI++[.int .i64 (t.tmod (1000000000:Int))]),.v (.int .i64 (IntKind.i64.wrap (t.tdiv (1000000000:Int)))),.v (.int .i64 (IntKind.i64.wrap ((n1:Int)+1)))]=LShs.lvs _ y' ∧
    (V'=V'∧∃ (k:Nat) (o:List Lim),y'.2.2.1=(k:Int)∧k≤m∧0≤(y'.2.1:Int)∧(y'.2.1:Int)≤1∧y'.1.1=k∧y'.1.2=o.map cellI∧o.length=k∧Lims o∧valTo o k+(y'.2.1:Int)*1000000000 ^ k=valTo a k+valTo b k) ∧
    ((m:Int)-(y'.2.2.1:Int)).toNat<((m:Int)-(n1:Int)).toNat:=by
   intro t ht
   have ht0:0≤t:=by omega
   have htm:t.tmod 1000000000=t % 1000000000:=Int.tmod_eq_emod_of_nonneg ht0
   have htd:t.tdiv 1000000000=t / 1000000000:=Int.tdiv_eq_ediv_of_nonneg ht0
   have hwd:IntKind.i64.wrap (t / 1000000000)=t / 1000000000:=wrap_i64 (by omega)
   rw [htm,htd,hwi,hwd]
   refine⟨((n1+1,(o++[(t % 1000000000,())]).map cellI),t / 1000000000,((n1+1:Nat):Int),()),?_,⟨rfl,n1+1,o++[(t % 1000000000,())],rfl,hkm,(by omega:(0:Int)≤t / 1000000000),(by omega:t / 1000000000≤1),rfl,rfl,by simp [hol],lims_snoc hlo ⟨(by omega:(0:Int)≤t % 1000000000),(by omega:t % 1000000000<1000000000)⟩,?_⟩,?_⟩
   ·simp [LShs.lvs,LSh.lv,Sh1.val,Sc.val,cellI]
   ·have:=add_step (d:=t % 1000000000) (e:=t / 1000000000) hol hv (by omega)
    exact this
   ·show((m:Int)-((n1+1:Nat):Int)).toNat<_
    omega
  have hB:(1000000000:Int)≠0:=by decide
  refine⟨fun hxa=>?_,fun hxa=>?_⟩
  ·have hka:n1<a.length:=by
    have:(n1:Int)<(s.n:Int):=of_decide_eq_true hxa
    omega
   obtain⟨b1,o1,a1,l1⟩:=h.int hka
   have ea:a[n1].1=limb a n1:=(limb_lt hka).symm
   have e1:IntKind.i64.wrap (c+limb a n1)=c+limb a n1:=wrap_i64 (by omega)
   refine⟨_,a1,(by omega:(0:Int)≤(n1:Int)),(by omega:(n1:Int)<(s.n:Int)),limb a n1,by rw [← ea]; exact l1,?_⟩
   show(_→_)∧(_→_)
   refine⟨fun hxb=>?_,fun hxb=>?_⟩
   ·have hkb:n1<b.length:=by
     have:(n1:Int)<(s'.n:Int):=of_decide_eq_true hxb
     omega
    obtain⟨b2,o2,a2,l2⟩:=h'.int hkb
    have eb:b[n1].1=limb b n1:=(limb_lt hkb).symm
    have e2:IntKind.i64.wrap (c+limb a n1+limb b n1)=c+limb a n1+limb b n1:=wrap_i64 (by omega)
    refine⟨_,a2,(by omega:(0:Int)≤(n1:Int)),(by omega:(n1:Int)<(s'.n:Int)),limb b n1,by rw [← eb]; exact l2,hB,rfl,⟨rfl,(by omega:(n1+1)*8≤140737488355328),(by omega:n1+1≤9223372036854775807)⟩,hB,_,rfl,?_⟩
    have:=next _ (rfl:c+limb a n1+limb b n1=_)
    rw [← e2,← e1] at this
    exact this
   ·have hkb:b.length≤n1:=by
     have:¬ (n1:Int)<(s'.n:Int):=of_decide_eq_false hxb
     omega
    refine⟨hB,rfl,⟨rfl,(by omega:(n1+1)*8≤140737488355328),(by omega:n1+1≤9223372036854775807)⟩,hB,_,rfl,?_⟩
    have:=next (c+limb a n1) (by rw [limb_ge hkb]; omega)
    rw [← e1] at this
    exact this
  ·have hka:a.length≤n1:=by
    have:¬ (n1:Int)<(s.n:Int):=of_decide_eq_false hxa
    omega
   refine⟨fun hxb=>?_,fun hxb=>?_⟩
   ·have hkb:n1<b.length:=by
     have:(n1:Int)<(s'.n:Int):=of_decide_eq_true hxb
     omega
    obtain⟨b2,o2,a2,l2⟩:=h'.int hkb
    have eb:b[n1].1=limb b n1:=(limb_lt hkb).symm
    have e2:IntKind.i64.wrap (c+limb b n1)=c+limb b n1:=wrap_i64 (by omega)
    refine⟨_,a2,(by omega:(0:Int)≤(n1:Int)),(by omega:(n1:Int)<(s'.n:Int)),limb b n1,by rw [← eb]; exact l2,hB,rfl,⟨rfl,(by omega:(n1+1)*8≤140737488355328),(by omega:n1+1≤9223372036854775807)⟩,hB,_,rfl,?_⟩
    have:=next (c+limb b n1) (by rw [limb_ge hka]; omega)
    rw [← e2] at this
    exact this
   ·have hkb:b.length≤n1:=by
     have:¬ (n1:Int)<(s'.n:Int):=of_decide_eq_false hxb
     omega
    refine⟨hB,rfl,⟨rfl,(by omega:(n1+1)*8≤140737488355328),(by omega:n1+1≤9223372036854775807)⟩,hB,_,rfl,?_⟩
    exact next c (by rw [limb_ge hka,limb_ge hkb]; omega)
 ·have hkm:n1=m:=by
   have:¬ (n1:Int)<(m:Int):=of_decide_eq_false hge
   omega
  refine⟨rfl,⟨rfl,(by omega:(n1+1)*8≤140737488355328),(by omega:n1+1≤9223372036854775807)⟩,?_⟩
  intro bk cap spare hbk hcap _
  have hcap':n1+1≤cap:=hcap
  have hO:Lims (o++[(c,())]):=lims_snoc hlo ⟨hc0,(by omega:c<1000000000)⟩
  have hk:=newI (V:=V') (b:=bk) (cap:=cap) (o:=o++[(c,())]) (spare:=spare) (t:=3) hbk (by simp [hol]; omega) (by simp [hol]; omega)
  have hlen:(o++[((c:Int),())]).length=n1+1:=by simp [hol]
  have hys:o.map cellI++[(Sh1.o (.i .i64)).val c]=(o++[(c,())]).map cellI:=by simp [Sh1.val,Sc.val,cellI]
  have hle:=kset_le (x:=((o++[((c:Int),())]).map cellI++spare,((3:TypeId),((0,0):Nat × Nat)))) hbk
  obtain⟨hcan,hval⟩:=trim_can hO
  have key:=cI_trim _ _ _ _ hk.1
  rw [hlen] at key
  have e0:kset V' bk (o.map cellI++[(Sh1.o (.i .i64)).val c]++spare,((3:TypeId),((0,0):Nat × Nat)))=kset V' bk ((o++[(c,())]).map cellI++spare,(3,(0,0))):=by rw [hys]
  show CallX _ (kset V' bk (o.map cellI++[(Sh1.o (.i .i64)).val c]++spare,((3:TypeId),((0,0):Nat × Nat)))) _ _ _
  rw [e0]
  refine key.mono ?_
  rintro V2 r ⟨rfl,s2,rfl,hL⟩
  refine⟨nofun,s2,rfl,hle,s2,_,_,rfl,hL,hk.2,hcan,?_,?_⟩
  ·rw [hval,valN,hlen,valTo,valTo_snoc (by omega),← hol,limb_snoc,hol]
   show valTo o n1+c*1000000000 ^ n1=_
   rw [hv,valTo_ge (by omega),valTo_ge (by omega)]
  ·have:=tl_le (o++[((c:Int),())]) (o++[((c:Int),())]).length
   unfold trimL
   rw [List.length_take]
   omega
theorem cI_natSub (V:Know) (s s':SlV) (a b:List Lim) (f f':List Nat) (h:LR rI V s a f) (h':LR rI V s' b f') (ha:Lims a) (hb:Lims b) (la:a.length≤1000000) (lb:b.length≤a.length) (hge0:valN b≤valN a) :
  CallX Tryz.prog V 235 [Sc.val .l s,Sc.val .l s'] (fun V' r=>V.le V'∧∃ s'' o f'',r=Sc.val .l s''∧LR rI V' s'' o f''∧Own V V' f''∧Can o∧valN o=valN a-valN b∧o.length≤1000000):=by
 refine CallX.of_fits Tryz.mix (fI_natSub _ _) fun _=>?_
 have hn:=h.1
 have hn':=h'.1
 simp only [tI_natSub,T.wp]
 refine⟨⟨by omega,by omega,by omega,by omega⟩,?_⟩
 refine⟨fun y V'=>V'=V∧∃ (k:Nat) (o:List Lim) (rest:List Value),y.2.2.1=(k:Int)∧k≤a.length∧0≤(y.2.1:Int)∧(y.2.1:Int)≤1∧y.1.1=a.length∧y.1.2=o.map cellI++rest∧rest.length=a.length-k∧o.length=k∧Lims o∧valTo o k=valTo a k-valTo b k+(y.2.1:Int)*1000000000 ^ k,
  fun y=>((a.length:Int)-(y.2.2.1:Int)).toNat,
  ⟨(((s.n:Int).toNat,(madeCells ⟨[.int .i64 (0:Int)]⟩ ((s.n:Int).toNat*1)).toList),(0:Int),(0:Int),()),rfl,rfl,0,[],_,rfl,by omega,(by omega:(0:Int)≤0),(by omega:(0:Int)≤1),(by omega:(s.n:Int).toNat=a.length),rfl,by rw [made_len]; omega,rfl,lims_nil,rfl⟩,?_⟩
 rintro⟨⟨n1,ys⟩,(c:Int),(i:Int),u⟩ V' ⟨rfl,k,o,rest,hi,hk,hc0,hc1,hn1,hys,hrest,hol,hlo,hv⟩
 replace hi:i=(k:Int):=hi
 replace hc0:0≤c:=hc0
 replace hc1:c≤1:=hc1
 replace hn1:n1=a.length:=hn1
 replace hys:ys=o.map cellI++rest:=hys
 replace hv:valTo o k=valTo a k-valTo b k+c*1000000000 ^ k:=hv
 subst hi hn1 hys
 have la1:=ha k
 have lb1:=hb k
 refine⟨fun hlt=>?_,fun hge=>?_⟩
 ·have hka:k<a.length:=by
   have:(k:Int)<(s.n:Int):=of_decide_eq_true hlt
   omega
  have hwi:IntKind.i64.wrap ((k:Int)+1)=((k+1:Nat):Int):=nxt hka (by omega)
  have hfit:(k:Int).toNat*1+1≤(o.map cellI++rest).length:=by simp [hol]; omega
  have next:∀ t e:Int,t=limb a k-c-limb b k+1000000000*e→0≤t→t<1000000000→0≤e→e≤1→∃ y':LShs [.a 3,.o (.o (.i .i64)),.o (.o (.i .i64))],
    [LV.a 3 a.length (setl (o.map cellI++rest) ((k:Int).toNat*1) [.int .i64 t]),.v (.int .i64 e),.v (.int .i64 (IntKind.i64.wrap ((k:Int)+1)))]=LShs.lvs _ y' ∧
    (V'=V'∧∃ (k:Nat) (o:List Lim) (rest:List Value),y'.2.2.1=(k:Int)∧k≤a.length∧0≤(y'.2.1:Int)∧(y'.2.1:Int)≤1∧y'.1.1=a.length∧y'.1.2=o.map cellI++rest∧rest.length=a.length-k∧o.length=k∧Lims o∧valTo o k=valTo a k-valTo b k+(y'.2.1:Int)*1000000000 ^ k) ∧
    ((a.length:Int)-(y'.2.2.1:Int)).toNat<((a.length:Int)-(k:Int)).toNat:=by
   intro t e ht ht0 ht1 he0 he1
   rw [hwi]
   have hset:setl (o.map cellI++rest) ((k:Int).toNat*1) [.int .i64 t]=(o++[(t,())]).map cellI++rest.drop 1:=by
    rw [setl_mid (by simp [hol]) (by simp; omega)]
    simp [cellI]
   rw [hset]
   refine⟨((a.length,(o++[(t,())]).map cellI++rest.drop 1),e,((k+1:Nat):Int),()),rfl,⟨rfl,k+1,o++[(t,())],rest.drop 1,rfl,hka,he0,he1,rfl,rfl,by simp [hrest]; omega,by simp [hol],lims_snoc hlo ⟨ht0,ht1⟩,sub_step hol hv ht⟩,?_⟩
   show((a.length:Int)-((k+1:Nat):Int)).toNat<_
   omega
  obtain⟨b1,o1,a1,l1⟩:=h.int hka
  have ea:a[k].1=limb a k:=(limb_lt hka).symm
  have e1:IntKind.i64.wrap (limb a k-c)=limb a k-c:=wrap_i64 (by omega)
  refine⟨_,a1,(by omega:(0:Int)≤(k:Int)),(by omega:(k:Int)<(s.n:Int)),limb a k,by rw [← ea]; exact l1,?_⟩
  have hin:(0:Int)≤(k:Int)∧(k:Int)<((a.length:Nat):Int):=⟨by omega,by omega⟩
  show(_→_)∧(_→_)
  rw [e1]
  refine⟨fun hxb=>?_,fun hxb=>?_⟩
  ·have hkb:k<b.length:=by
    have:(k:Int)<(s'.n:Int):=of_decide_eq_true hxb
    omega
   obtain⟨b2,o2,a2,l2⟩:=h'.int hkb
   have eb:b[k].1=limb b k:=(limb_lt hkb).symm
   have e2:IntKind.i64.wrap (limb a k-c-limb b k)=limb a k-c-limb b k:=wrap_i64 (by omega)
   refine⟨_,a2,(by omega:(0:Int)≤(k:Int)),(by omega:(k:Int)<(s'.n:Int)),limb b k,by rw [← eb]; exact l2,?_⟩
   show(_→_)∧(_→_)
   rw [e2]
   refine⟨fun hneg=>?_,fun hpos=>?_⟩
   ·have hneg':limb a k-c-limb b k<0:=of_decide_eq_true hneg
    have e3:IntKind.i64.wrap (limb a k-c-limb b k+1000000000)=limb a k-c-limb b k+1000000000:=wrap_i64 (by omega)
    rw [e3]
    exact⟨hin,hfit,_,rfl,next _ 1 (by omega) (by omega) (by omega) (by omega) (by omega)⟩
   ·have hpos':¬ limb a k-c-limb b k<0:=of_decide_eq_false hpos
    exact⟨hin,hfit,_,rfl,next _ 0 (by omega) (by omega) (by omega) (by omega) (by omega)⟩
  ·have hkb:b.length≤k:=by
    have:¬ (k:Int)<(s'.n:Int):=of_decide_eq_false hxb
    omega
   have z:=limb_ge hkb
   refine⟨fun hneg=>?_,fun hpos=>?_⟩
   ·have hneg':limb a k-c<0:=of_decide_eq_true hneg
    have e3:IntKind.i64.wrap (limb a k-c+1000000000)=limb a k-c+1000000000:=wrap_i64 (by omega)
    rw [e3]
    exact⟨hin,hfit,_,rfl,next _ 1 (by omega) (by omega) (by omega) (by omega) (by omega)⟩
   ·have hpos':¬ limb a k-c<0:=of_decide_eq_false hpos
    exact⟨hin,hfit,_,rfl,next _ 0 (by omega) (by omega) (by omega) (by omega) (by omega)⟩
 ·have hkm:k=a.length:=by
   have:¬ (k:Int)<(s.n:Int):=of_decide_eq_false hge
   omega
  have hr0:rest=[]:=List.eq_nil_of_length_eq_zero (by omega)
  subst hr0
  intro bk cap spare hbk hcap _
  have hcap':a.length≤cap:=hcap
  have hk:=newI (V:=V') (b:=bk) (cap:=cap) (o:=o) (spare:=spare) (t:=3) hbk (by omega) (by omega)
  have hle:=kset_le (x:=(o.map cellI++spare,((3:TypeId),((0,0):Nat × Nat)))) hbk
  obtain⟨hcan,hval⟩:=trim_can hlo
  have key:=cI_trim _ _ _ _ hk.1
  rw [show o.length=a.length by omega] at key
  show CallX _ (kset V' bk (o.map cellI++[]++spare,((3:TypeId),((0,0):Nat × Nat)))) _ _ _
  rw [List.append_nil]
  refine key.mono ?_
  rintro V2 r ⟨rfl,s2,rfl,hL⟩
  refine⟨nofun,s2,rfl,hle,s2,_,_,rfl,hL,hk.2,hcan,?_,?_⟩
  ·rw [hval,valN,show o.length=k by omega,hv]
   have hbd:=valTo_bd hlo k
   rw [hv] at hbd
   rw [valTo_ge (show a.length≤k by omega),valTo_ge (show b.length≤k by omega)] at hbd ⊢
   have hc:c=0:=by
    rcases(show c=0∨c=1 by omega) with hc | hc
    ·exact hc
    ·exfalso
     rw [hc,Int.one_mul] at hbd
     omega
   rw [hc]; simp
  ·have:=tl_le o o.length
   unfold trimL
   rw [List.length_take]
   omega
end Go.Proofs.YtpdfdkccgkieoaaGreatDoor
