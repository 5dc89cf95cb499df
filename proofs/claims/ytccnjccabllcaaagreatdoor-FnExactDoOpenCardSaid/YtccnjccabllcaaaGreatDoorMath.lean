/-
  Natural numbers as lists of limbs, the lowest first.
-/
import Derived.Test.YtccnjccabllcaaaGreatDoorLoop
namespace Go.Proofs.YtccnjccabllcaaaGreatDoor
open Sx
abbrev Lim:=Int × Unit
def limb (l:List Lim) (i:Nat):Int:=(l.getD i (0,())).1
def valTo (l:List Lim):Nat→Int
 | 0=>0
 | i+1=>valTo l i+limb l i*1000000000 ^ i
def valN (l:List Lim):Int:=valTo l l.length
def Lims (l:List Lim):Prop:=∀ i,0≤limb l i∧limb l i<1000000000
def Can (l:List Lim):Prop:=Lims l∧(l.length=0∨limb l (l.length-1)≠0)
theorem limb_lt {l:List Lim} {i:Nat} (h:i<l.length):limb l i=l[i].1:=by simp [limb,h]
theorem limb_ge {l:List Lim} {i:Nat} (h:l.length≤i):limb l i=0:=by simp [limb,List.getD_eq_getElem?_getD,List.getElem?_eq_none h]
theorem pw_succ (i:Nat):(1000000000:Int) ^ (i+1)=1000000000*1000000000 ^ i:=by rw [Int.pow_succ,Int.mul_comm]
theorem pw_pos:∀ i:Nat,(0:Int)<1000000000 ^ i
 | 0=>by decide
 | i+1=>by rw [pw_succ]; have:=pw_pos i; omega
theorem valTo_ge {l:List Lim} {i:Nat} (h:l.length≤i):valTo l i=valN l:=by
 induction i with
 | zero =>
  have:l.length=0:=by omega
  rw [valN,this]
 | succ i ih =>
  by_cases e:l.length=i+1
  ·rw [valN,e]
  ·rw [valTo,limb_ge (by omega),ih (by omega)]; simp
theorem mul_pw_nonneg {x:Int} (h:0≤x) (i:Nat):0≤x*1000000000 ^ i:=Int.mul_nonneg h (Int.le_of_lt (pw_pos i))
theorem mul_pw_le {x y:Int} (h:x≤y) (i:Nat):x*1000000000 ^ i≤y*1000000000 ^ i:=Int.mul_le_mul_of_nonneg_right h (Int.le_of_lt (pw_pos i))
theorem valTo_bd {l:List Lim} (h:Lims l):∀ i,0≤valTo l i∧valTo l i<1000000000 ^ i
 | 0=>by simp [valTo]
 | i+1=>by
  have ih:=valTo_bd h i
  have hl:=h i
  have h1:=mul_pw_nonneg hl.1 i
  have h2:=mul_pw_le (show limb l i≤999999999 by omega) i
  rw [valTo,pw_succ]
  constructor
  ·omega
  ·omega
theorem valN_nonneg {l:List Lim} (h:Lims l):0≤valN l:=(valTo_bd h _).1
def cmpAt (l l':List Lim):Nat→Int
 | 0=>0
 | n+1=>if limb l n<limb l' n then -1 else if limb l n > limb l' n then 1 else cmpAt l l' n
def cmpL (l l':List Lim):Int:=if l.length≠l'.length then (if l.length<l'.length then -1 else 1) else cmpAt l l' l.length
def Cmps (c:Int) (x y:Int):Prop:=(c=-1∧x<y)∨(c=0∧x=y)∨(c=1∧y<x)
theorem cmpAt_val {l l':List Lim} (h:Lims l) (h':Lims l'):∀ n,Cmps (cmpAt l l' n) (valTo l n) (valTo l' n)
 | 0=>.inr (.inl ⟨rfl,rfl⟩)
 | n+1=>by
  have ih:=cmpAt_val h h' n
  have b1:=valTo_bd h n
  have b2:=valTo_bd h' n
  unfold cmpAt valTo
  by_cases c1:limb l n<limb l' n
  ·rw [if_pos c1]
   have:=mul_pw_le (show limb l n+1≤limb l' n by omega) n
   rw [Int.add_mul,Int.one_mul] at this
   exact .inl ⟨rfl,by omega⟩
  ·rw [if_neg c1]
   by_cases c2:limb l n > limb l' n
   ·rw [if_pos c2]
    have:=mul_pw_le (show limb l' n+1≤limb l n by omega) n
    rw [Int.add_mul,Int.one_mul] at this
    exact .inr (.inr ⟨rfl,by omega⟩)
   ·rw [if_neg c2]
    have e:limb l n=limb l' n:=by omega
    rw [e]
    rcases ih with ⟨i1,i2⟩ | ⟨i1,i2⟩ | ⟨i1,i2⟩
    ·exact .inl ⟨i1,by omega⟩
    ·exact .inr (.inl ⟨i1,by omega⟩)
    ·exact .inr (.inr ⟨i1,by omega⟩)
theorem pw_mono {i j:Nat} (h:i≤j):(1000000000:Int) ^ i≤1000000000 ^ j:=by
 induction j with
 | zero =>
  have:i=0:=by omega
  subst this; exact Int.le_refl _
 | succ j ih =>
  by_cases e:i=j+1
  ·subst e; exact Int.le_refl _
  ·have:=ih (by omega)
   have:=pw_pos j
   rw [pw_succ]; omega
theorem can_ge {l:List Lim} (h:Can l) (hp:0<l.length):(1000000000:Int) ^ (l.length-1)≤valN l:=by
 obtain⟨k,hk⟩:∃ k,l.length=k+1:=⟨l.length-1,by omega⟩
 have h1:=h.1 k
 have h2:limb l k≠0:=by
  rcases h.2 with h | h
  ·omega
  ·rw [hk] at h; simpa using h
 have h3:=(valTo_bd h.1 k).1
 have h4:=mul_pw_le (show 1≤limb l k by omega) k
 rw [valN,hk,valTo]
 simp only [Nat.add_sub_cancel]
 omega
theorem cmpL_val {l l':List Lim} (h:Can l) (h':Can l'):Cmps (cmpL l l') (valN l) (valN l'):=by
 unfold cmpL
 by_cases e:l.length=l'.length
 ·rw [if_neg (by simpa using e)]
  have:=cmpAt_val h.1 h'.1 l.length
  unfold valN
  rw [← e]; exact this
 ·rw [if_pos e]
  by_cases c:l.length<l'.length
  ·rw [if_pos c]
   have h1:=can_ge h' (by omega)
   have h2:=(valTo_bd h.1 l.length).2
   have h3:=pw_mono (show l.length≤l'.length-1 by omega)
   exact .inl ⟨rfl,by unfold valN at h1 ⊢; omega⟩
  ·rw [if_neg c]
   have h1:=can_ge h (by omega)
   have h2:=(valTo_bd h'.1 l'.length).2
   have h3:=pw_mono (show l'.length≤l.length-1 by omega)
   exact .inr (.inr ⟨rfl,by unfold valN at h1 ⊢; omega⟩)
theorem can_empty {l:List Lim} (h:Can l):l.length=0↔valN l=0:=by
 constructor
 ·intro e; rw [valN,e]; rfl
 ·intro e
  cases hl:l.length with
  | zero=>rfl
  | succ k =>
   have:=can_ge h (by omega)
   have:=pw_pos (l.length-1)
   omega
def tl (l:List Lim):Nat→Nat
 | 0=>0
 | n+1=>if limb l n=0 then tl l n else n+1
def trimL (l:List Lim):List Lim:=l.take (tl l l.length)
theorem tl_le (l:List Lim):∀ n,tl l n≤n
 | 0=>Nat.le_refl _
 | n+1=>by
  have:=tl_le l n
  unfold tl
  split <;> omega
theorem valTo_tl (l:List Lim):∀ n,valTo l (tl l n)=valTo l n
 | 0=>rfl
 | n+1=>by
  unfold tl
  by_cases h:limb l n=0
  ·rw [if_pos h,valTo_tl l n,valTo,h]; simp
  ·rw [if_neg h]
theorem tl_top (l:List Lim):∀ n,tl l n=0∨limb l (tl l n-1)≠0
 | 0=>.inl rfl
 | n+1=>by
  unfold tl
  by_cases h:limb l n=0
  ·rw [if_pos h]; exact tl_top l n
  ·rw [if_neg h]; exact .inr h
theorem limb_take {l:List Lim} {n i:Nat} (h:i<n):limb (l.take n) i=limb l i:=by
 simp [limb,List.getD_eq_getElem?_getD,h]
theorem valTo_take {l:List Lim} {n:Nat}:∀ {i:Nat},i≤n→valTo (l.take n) i=valTo l i
 | 0,_=>rfl
 | i+1,h=>by rw [valTo,valTo,valTo_take (by omega),limb_take (by omega)]
theorem lims_take {l:List Lim} (h:Lims l) (n:Nat):Lims (l.take n):=by
 intro i
 by_cases hi:i<n
 ·rw [limb_take hi]; exact h i
 ·rw [limb_ge (by simp; omega)]; omega
theorem trim_can {l:List Lim} (h:Lims l):Can (trimL l)∧valN (trimL l)=valN l:=by
 have hle:=tl_le l l.length
 have hlen:(trimL l).length=tl l l.length:=by simp [trimL]; omega
 refine⟨⟨lims_take h _,?_⟩,?_⟩
 ·rw [hlen]
  rcases tl_top l l.length with h1 | h1
  ·exact .inl h1
  ·by_cases h0:tl l l.length=0
   ·exact .inl h0
   ·right
    unfold trimL
    rw [limb_take (by omega)]; exact h1
 ·unfold valN
  rw [hlen]
  unfold trimL
  rw [valTo_take (Nat.le_refl _),valTo_tl]
theorem limb_snoc_lt {l:List Lim} {x:Lim} {i:Nat} (h:i<l.length):limb (l++[x]) i=limb l i:=by
 simp [limb,List.getD_eq_getElem?_getD,List.getElem?_append_left h]
theorem limb_snoc {l:List Lim} {x:Lim}:limb (l++[x]) l.length=x.1:=by simp [limb]
theorem valTo_snoc {l:List Lim} {x:Lim}:∀ {i:Nat},i≤l.length→valTo (l++[x]) i=valTo l i
 | 0,_=>rfl
 | i+1,h=>by rw [valTo,valTo,valTo_snoc (by omega),limb_snoc_lt (by omega)]
theorem lims_snoc {l:List Lim} {x:Lim} (h:Lims l) (hx:0≤x.1∧x.1<1000000000):Lims (l++[x]):=by
 intro i
 by_cases h1:i<l.length
 ·rw [limb_snoc_lt h1]; exact h i
 ·by_cases h2:i=l.length
  ·subst h2; rw [limb_snoc]; exact hx
  ·rw [limb_ge (by simp; omega)]; omega
theorem lims_nil:Lims []:=fun i=>by rw [limb_ge (by simp)]; omega
theorem sub_step {o a b:List Lim} {c d e:Int} {i:Nat} (ho:o.length=i) (hv:valTo o i=valTo a i-valTo b i+c*1000000000 ^ i) (hs:d=limb a i-c-limb b i+1000000000*e) :
  valTo (o++[(d,())]) (i+1)=valTo a (i+1)-valTo b (i+1)+e*1000000000 ^ (i+1):=by
 subst ho
 rw [valTo,valTo,valTo,valTo_snoc (Nat.le_refl _),limb_snoc,pw_succ]
 have h1:d*1000000000 ^ o.length=(limb a o.length-c-limb b o.length+1000000000*e)*1000000000 ^ o.length:=by rw [hs]
 rw [Int.add_mul,Int.sub_mul,Int.sub_mul,Int.mul_assoc] at h1
 have h2:e*(1000000000*1000000000 ^ o.length)=1000000000*(e*1000000000 ^ o.length):=by rw [← Int.mul_assoc,Int.mul_comm e,Int.mul_assoc]
 show valTo o o.length+d*_=_
 omega
end Go.Proofs.YtccnjccabllcaaaGreatDoor
