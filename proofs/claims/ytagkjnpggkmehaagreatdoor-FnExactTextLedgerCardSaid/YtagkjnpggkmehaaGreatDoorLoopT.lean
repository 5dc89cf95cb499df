/-
  Loops over lists of texts: two compared, one measured, one copied.
-/
import Derived.Test.YtagkjnpggkmehaaGreatDoorMath
import Derived.Lib.ItoaNum
import Derived.Lib.ItoaLen
import Derived.Lib.Repeat
namespace Go.Proofs.YtagkjnpggkmehaaGreatDoor
open Sx
set_option maxRecDepth 100000
def numT (k:Int):ByteArray:=⟨(Go.Lib.itoa k).toArray⟩
def dig (k:Nat):ByteArray:=⟨#[UInt8.ofNat (48+k)]⟩
theorem dig_size (k:Nat):(dig k).size=1:=rfl
theorem ba_append (l m:List UInt8):(⟨l.toArray⟩:ByteArray)++⟨m.toArray⟩=⟨(l++m).toArray⟩:=by
 apply ByteArray.ext
 rw [ByteArray.data_append]
 simp
theorem numT_small {k:Int} (h0:0≤k) (h:k<10):numT k=dig k.toNat:=by
 unfold numT Go.Lib.itoa
 rw [if_neg (by omega),Go.Lib.decDigits,dif_pos (by omega)]
 rfl
theorem numT_big {k:Int} (h:9<k):numT k=numT (k / 10)++dig (k % 10).toNat:=by
 unfold numT Go.Lib.itoa
 rw [if_neg (by omega),if_neg (by omega),Go.Lib.decDigits,dif_neg (by omega)]
 have e1:k.toNat / 10=(k / 10).toNat:=by omega
 have e2:k.toNat % 10=(k % 10).toNat:=by omega
 rw [e1,e2,← ba_append]
 rfl
theorem numT_len (k:Int) (h0:-9223372036854775808≤k) (h1:k≤9223372036854775807):(numT k).size≤21:=by
 have:=Go.Lib.itoa_length_le k h0 h1
 show(Go.Lib.itoa k).toArray.size≤21
 simpa using this
def zeros (k:Nat):ByteArray:=⟨(List.replicate k 48).toArray⟩
theorem zeros_size (k:Nat):(zeros k).size=k:=by
 show(List.replicate k (48:UInt8)).toArray.size=k
 simp
theorem zeros_succ (k:Nat):zeros (k+1)=zeros k++⟨#[48]⟩:=by
 unfold zeros
 rw [List.replicate_succ',← ba_append]
theorem repeat_zeros:∀ k:Nat,Go.Lib.repeatL [48] k=List.replicate k 48
 | 0=>rfl
 | k+1=>by rw [Go.Lib.repeatL,repeat_zeros k,List.replicate_succ]; rfl
def padB (s:ByteArray) (n:Int):ByteArray:=if n > 2000 then s else zeros (n-(s.size:Int)).toNat++s
theorem ba_empty_append (s:ByteArray):(⟨#[]⟩:ByteArray)++s=s:=by
 apply ByteArray.ext
 rw [ByteArray.data_append]
 simp
theorem padB_long {s:ByteArray} {n:Int} (h:n≤s.size):padB s n=s:=by
 unfold padB
 by_cases hn:n > 2000
 ·rw [if_pos hn]
 ·rw [if_neg hn]
  have e:(n-(s.size:Int)).toNat=0:=by omega
  rw [e]
  exact ba_empty_append s
theorem padB_step {s:ByteArray} {n:Int} (hn:¬ n > 2000) (h:(s.size:Int)<n):padB s n=padB ((⟨#[48]⟩:ByteArray)++s) n:=by
 unfold padB
 rw [if_neg hn,if_neg hn,ByteArray.size_append]
 have e:(n-(s.size:Int)).toNat=(n-((1+s.size:Nat):Int)).toNat+1:=by omega
 rw [e,zeros_succ,ByteArray.append_assoc]
 rfl
theorem padB_size (s:ByteArray) (n:Int):(padB s n).size≤s.size+2000∧(¬ n > 2000→n≤(padB s n).size)∧((padB s n).size:Int)≤max (s.size:Int) n∧s.size≤(padB s n).size:=by
 unfold padB
 by_cases hn:n > 2000
 ·rw [if_pos hn]
  exact⟨by omega,fun h=>absurd hn h,by omega,by omega⟩
 ·rw [if_neg hn,ByteArray.size_append,zeros_size]
  exact⟨by omega,fun _=>by omega,by omega,by omega⟩
def natGo (l:List Lim):Nat→ByteArray→ByteArray
 | 0,s=>s
 | i+1,s=>natGo l i (s++padB (numT (limb l i)) 9)
def natT (l:List Lim):ByteArray:=if l.length=0 then ⟨#[48]⟩ else natGo l (l.length-1) (numT (limb l (l.length-1)))
theorem limb_num {l:List Lim} (hl:Lims l) (i:Nat):(numT (limb l i)).size≤21:=by
 have:=hl i
 exact numT_len _ (by omega) (by omega)
theorem part_size {l:List Lim} (hl:Lims l) (i:Nat):(padB (numT (limb l i)) 9).size≤21:=by
 have h1:=limb_num hl i
 have h2:=(padB_size (numT (limb l i)) 9).2.2.1
 omega
theorem natGo_size {l:List Lim} (hl:Lims l):∀ (i:Nat) (s:ByteArray),(natGo l i s).size≤s.size+21*i
 | 0,s=>by simp [natGo]
 | i+1,s=>by
  have ih:=natGo_size hl i (s++padB (numT (limb l i)) 9)
  have hp:=part_size hl i
  rw [natGo]
  rw [ByteArray.size_append] at ih
  omega
theorem natT_size {l:List Lim} (hl:Lims l):(natT l).size≤21*l.length+1:=by
 unfold natT
 by_cases h:l.length=0
 ·rw [if_pos h]
  show 1≤_
  omega
 ·rw [if_neg h]
  have h1:=natGo_size hl (l.length-1) (numT (limb l (l.length-1)))
  have h2:=limb_num hl (l.length-1)
  omega
def intT (neg:Bool) (l:List Lim):ByteArray:=if neg=true then (⟨#[45]⟩:ByteArray)++natT l else natT l
theorem intT_size {neg:Bool} {l:List Lim} (hl:Lims l):(intT neg l).size≤21*l.length+2:=by
 have:=natT_size hl
 unfold intT
 split
 ·rw [ByteArray.size_append]
  show 1+_≤_
  omega
 ·omega
def pointT (s:ByteArray) (sc:Int):ByteArray:=if sc > 0 then (s.extract 0 (s.size-sc.toNat)++(⟨#[46]⟩:ByteArray))++s.extract (s.size-sc.toNat) s.size else s
def decT (neg:Bool) (l:List Lim) (sc:Int):ByteArray:=if neg=true then (⟨#[45]⟩:ByteArray)++pointT (padB (natT l) (sc+1)) sc else pointT (padB (natT l) (sc+1)) sc
theorem pointT_size (s:ByteArray) (sc:Int):(pointT s sc).size≤s.size+1:=by
 unfold pointT
 split
 ·rw [ByteArray.size_append,ByteArray.size_append,ByteArray.size_extract,ByteArray.size_extract]
  show _+1+_≤_
  omega
 ·omega
theorem decT_size {neg:Bool} {l:List Lim} {sc:Int} (hl:Lims l):(decT neg l sc).size≤21*l.length+2003:=by
 have h1:=natT_size hl
 have h2:=(padB_size (natT l) (sc+1)).1
 have h3:=pointT_size (padB (natT l) (sc+1)) sc
 unfold decT
 split
 ·rw [ByteArray.size_append]
  show 1+_≤_
  omega
 ·omega
end Go.Proofs.YtagkjnpggkmehaaGreatDoor
namespace Go.Proofs.YtagkjnpggkmehaaGreatDoor
open Sx
theorem pw_add (i j:Nat):(1000000000:Int) ^ (i+j)=1000000000 ^ i*1000000000 ^ j:=by
 induction j with
 | zero=>simp
 | succ j ih=>rw [← Nat.add_assoc,Int.pow_succ,ih,Int.pow_succ,Int.mul_assoc]
theorem limb_set {l:List Lim} {i j:Nat} {x:Int} (h:i<l.length):limb (l.set i (x,())) j=if j=i then x else limb l j:=by
 unfold limb
 by_cases e:j=i
 ·subst e; simp [List.getD_eq_getElem?_getD,h]
 ·have e':¬ i=j:=fun k=>e k.symm
  rw [if_neg e]
  simp [List.getD_eq_getElem?_getD,e']
theorem valTo_set {l:List Lim} {i:Nat} {x:Int} (h:i<l.length):∀ j,valTo (l.set i (x,())) j=valTo l j+(if i<j then (x-limb l i)*1000000000 ^ i else 0)
 | 0=>by simp [valTo]
 | j+1=>by
  rw [valTo,valTo,valTo_set h j,limb_set h]
  by_cases e:j=i
  ·subst e
   rw [if_pos rfl,if_neg (Nat.lt_irrefl _),if_pos (Nat.lt_succ_self _),Int.sub_mul]
   omega
  ·rw [if_neg e]
   by_cases c:i<j
   ·rw [if_pos c,if_pos (by omega)]; omega
   ·rw [if_neg c,if_neg (by omega)]; omega
theorem valN_set {l:List Lim} {i:Nat} {x:Int} (h:i<l.length):valN (l.set i (x,()))=valN l+(x-limb l i)*1000000000 ^ i:=by
 unfold valN
 rw [List.length_set,valTo_set h,if_pos h]
theorem lims_set {l:List Lim} {i:Nat} {x:Int} (h:Lims l) (hi:i<l.length) (hx:0≤x∧x<1000000000):Lims (l.set i (x,())):=by
 intro j
 rw [limb_set hi]
 split
 ·exact hx
 ·exact h j
def zer (n:Nat):List Lim:=List.replicate n (0,())
theorem limb_zer (n i:Nat):limb (zer n) i=0:=by
 unfold limb zer
 by_cases h:i<n
 ·simp [List.getD_eq_getElem?_getD,h]
 ·simp [List.getD_eq_getElem?_getD,h]
theorem valTo_zer (n:Nat):∀ i,valTo (zer n) i=0
 | 0=>rfl
 | i+1=>by rw [valTo,valTo_zer n i,limb_zer]; simp
theorem valN_zer (n:Nat):valN (zer n)=0:=valTo_zer n _
theorem lims_zer (n:Nat):Lims (zer n):=fun i=>by rw [limb_zer]; omega
theorem len_zer (n:Nat):(zer n).length=n:=List.length_replicate
theorem valTo_mono {l:List Lim} (h:Lims l) {i j:Nat} (hij:i≤j):valTo l i≤valTo l j:=by
 induction j with
 | zero =>
  have:i=0:=by omega
  subst this; exact Int.le_refl _
 | succ j ih =>
  by_cases e:i=j+1
  ·subst e; exact Int.le_refl _
  ·have:=ih (by omega)
   have:=mul_pw_nonneg (h j).1 j
   rw [valTo]; omega
theorem valTo_le {l:List Lim} (h:Lims l) (i:Nat):valTo l i≤valN l:=by
 by_cases e:i≤l.length
 ·exact valTo_mono h e
 ·rw [valTo_ge (by omega)]; exact Int.le_refl _
theorem limb_top {l:List Lim} (h:Lims l) {k j:Nat} (hv:valN l<1000000000 ^ k) (hj:k≤j):limb l j=0:=by
 by_cases e:limb l j=0
 ·exact e
 ·exfalso
  have h1:=h j
  have h2:=mul_pw_le (show 1≤limb l j by omega) j
  have h3:=valTo_le h (j+1)
  rw [valTo] at h3
  have h4:=(valTo_bd h j).1
  have h5:=pw_mono hj
  omega
theorem limb_drop (u:List Lim) (j i:Nat):limb (u.drop j) i=limb u (j+i):=by
 simp [limb,List.getD_eq_getElem?_getD,List.getElem?_drop]
theorem valTo_drop (u:List Lim) (j:Nat):∀ i,valTo u (j+i)=valTo u j+valTo (u.drop j) i*1000000000 ^ j
 | 0=>by simp [valTo]
 | i+1=>by
  have e:limb u (j+i)*(1000000000 ^ j*1000000000 ^ i)=limb u (j+i)*1000000000 ^ i*1000000000 ^ j:=by
   rw [Int.mul_comm (1000000000 ^ j),Int.mul_assoc]
  rw [← Nat.add_assoc,valTo,valTo_drop u j i,valTo,limb_drop,Int.add_mul,pw_add,e]
  omega
theorem limb_app_lt {x y:List Lim} {i:Nat} (h:i<x.length):limb (x++y) i=limb x i:=by
 simp [limb,List.getD_eq_getElem?_getD,List.getElem?_append_left h]
theorem limb_app_ge {x y:List Lim} {i:Nat} (h:x.length≤i):limb (x++y) i=limb y (i-x.length):=by
 simp [limb,List.getD_eq_getElem?_getD,List.getElem?_append_right h]
theorem valTo_app {x y:List Lim}:∀ {i:Nat},i≤x.length→valTo (x++y) i=valTo x i
 | 0,_=>rfl
 | i+1,h=>by rw [valTo,valTo,valTo_app (by omega),limb_app_lt (by omega)]
theorem valN_app (x y:List Lim):valN (x++y)=valN x+valN y*1000000000 ^ x.length:=by
 have h:=valTo_drop (x++y) x.length y.length
 rw [List.drop_left,valTo_app (Nat.le_refl _)] at h
 unfold valN
 rw [List.length_append]; exact h
theorem lims_app {x y:List Lim} (hx:Lims x) (hy:Lims y):Lims (x++y):=by
 intro i
 by_cases h:i<x.length
 ·rw [limb_app_lt h]; exact hx i
 ·rw [limb_app_ge (by omega)]; exact hy _
theorem lims_drop {l:List Lim} (h:Lims l) (n:Nat):Lims (l.drop n):=fun i=>by rw [limb_drop]; exact h _
theorem lims_one {x:Int} (h:0≤x∧x<1000000000):Lims [(x,())]:=lims_snoc (l:=[]) lims_nil h
theorem valN_one (x:Int):valN [(x,())]=x:=by simp [valN,valTo,limb]
theorem valN_nil:valN []=0:=rfl
theorem valN_put {p w w' r:List Lim} (h:w'.length=w.length):valN (p++(w'++r))=valN (p++(w++r))+(valN w'-valN w)*1000000000 ^ p.length:=by
 rw [valN_app,valN_app,valN_app,valN_app,h,Int.add_mul,Int.add_mul,Int.sub_mul]
 omega
theorem val_top2 {v:List Lim} {m:Nat} (h:v.length=m+2):valN v=(limb v (m+1)*1000000000+limb v m)*1000000000 ^ m+valTo v m:=by
 rw [valN,h,valTo,valTo,pw_succ,Int.add_mul,Int.mul_assoc]
 omega
theorem val_top3 {v:List Lim} {m:Nat} (h:v.length=m+3):valN v=((limb v (m+2)*1000000000+limb v (m+1))*1000000000+limb v m)*1000000000 ^ m+valTo v m:=by
 rw [valN,h,valTo,valTo,valTo]
 have h1:=pw_succ m
 have h2:=pw_succ (m+1)
 rw [show m+2=m+1+1 from rfl,h2,h1]
 grind
theorem est_drop {u v v1 v2 vl top u2 ul P q:Int} (hP:0<P) (hv:v=(v1*1000000000+v2)*P+vl) (hvl:0≤vl) (hu:u=(top*1000000000+u2)*P+ul) (hul:ul<P) (hq:0≤q)
  (h:q*v2 > (top-q*v1)*1000000000+u2):u<q*v:=by
 have h1:top*1000000000+u2+1≤q*(v1*1000000000+v2):=by
  rw [Int.mul_add,← Int.mul_assoc]
  rw [Int.sub_mul] at h
  omega
 have h2:=Int.mul_le_mul_of_nonneg_right h1 (Int.le_of_lt hP)
 rw [Int.add_mul,Int.one_mul,Int.mul_assoc q] at h2
 have h3:0≤q*vl:=Int.mul_nonneg hq hvl
 rw [hv,Int.mul_add,hu]
 omega
theorem est_keep {u v v1 v2 vl top u2 ul P q:Int} (hP:0<P) (hv:v=(v1*1000000000+v2)*P+vl) (hvl:0≤vl∧vl<P) (hv1:1≤v1) (hv2:0≤v2∧v2<1000000000) (hu:u=(top*1000000000+u2)*P+ul) (hul:0≤ul) (hu2:0≤u2)
  (hq:0≤q∧q<1000000000) (h:q=0∨top-q*v1≥1000000000∨q*v2≤(top-q*v1)*1000000000+u2) (hu0:0≤u):(q-1)*v≤u:=by
 have hvp:P≤v:=by
  have h1:1≤v1*1000000000+v2:=by omega
  have:=Int.mul_le_mul_of_nonneg_right h1 (Int.le_of_lt hP)
  rw [hv]; omega
 rcases Int.lt_or_le 0 q with hpos | hz
 ·have key:q*v2≤(top-q*v1)*1000000000+u2:=by
   rcases h with h | h | h
   ·omega
   ·have:q*v2≤999999999*999999999:=Int.mul_le_mul (by omega) (by omega) hv2.1 (by omega)
    have:1000000000*1000000000≤(top-q*v1)*1000000000:=Int.mul_le_mul_of_nonneg_right h (by omega)
    omega
   ·exact h
  have h1:q*(v1*1000000000+v2)≤top*1000000000+u2:=by
   rw [Int.mul_add,← Int.mul_assoc]
   rw [Int.sub_mul] at key
   omega
  have h2:=Int.mul_le_mul_of_nonneg_right h1 (Int.le_of_lt hP)
  rw [Int.mul_assoc] at h2
  have h3:q*vl≤999999999*P:=Int.mul_le_mul (by omega) (by omega) hvl.1 (by omega)
  have h4:1000000000*P≤v:=by
   have:1000000000≤v1*1000000000+v2:=by omega
   have:=Int.mul_le_mul_of_nonneg_right this (Int.le_of_lt hP)
   rw [hv]; omega
  have h5:q*v=q*((v1*1000000000+v2)*P)+q*vl:=by rw [hv,Int.mul_add]
  rw [Int.sub_mul,Int.one_mul]
  omega
 ·have:q=0:=by omega
  subst this
  omega
theorem est_first {u v v1 v2 vl top u2 ul P q:Int} (hP:0<P) (hv:v=(v1*1000000000+v2)*P+vl) (hvl:0≤vl) (hv2:0≤v2) (hu:u=(top*1000000000+u2)*P+ul) (hul:ul<P) (hu2:u2<1000000000) (hq:0≤q)
  (h:top<(q+1)*v1):u<(q+1)*v:=by
 have h1:top*1000000000+u2+1≤(q+1)*v1*1000000000:=by omega
 have h2:=Int.mul_le_mul_of_nonneg_right h1 (Int.le_of_lt hP)
 have h3:0≤(q+1)*vl:=Int.mul_nonneg (by omega) hvl
 have h4:0≤(q+1)*v2*P:=Int.mul_nonneg (Int.mul_nonneg (by omega) hv2) (Int.le_of_lt hP)
 have h5:(q+1)*v=(q+1)*v1*1000000000*P+(q+1)*v2*P+(q+1)*vl:=by grind
 have h6:(top*1000000000+u2+1)*P=(top*1000000000+u2)*P+P:=by grind
 omega
theorem subt_step {w v:List Lim} {k:Nat} {q b b' t W:Int} (hk:k<w.length) (hv:valN w=W+b*1000000000 ^ k-q*valTo v k) (ht:t=limb w k-limb v k*q-b+b'*1000000000) :
  valN (w.set k (t,()))=W+b'*1000000000 ^ (k+1)-q*valTo v (k+1):=by
 rw [valN_set hk,hv,valTo,pw_succ,ht]
 grind
theorem addb_step {w v:List Lim} {k:Nat} {c d e W:Int} (hk:k<w.length) (hv:valN w+c*1000000000 ^ k=W+valTo v k) (hs:c+limb w k+limb v k=d+1000000000*e) :
  valN (w.set k (d,()))+e*1000000000 ^ (k+1)=W+valTo v (k+1):=by
 rw [valN_set hk,valTo,pw_succ]
 have h1:(c+limb w k+limb v k)*1000000000 ^ k=(d+1000000000*e)*1000000000 ^ k:=by rw [hs]
 grind
theorem mul_step {o b:List Lim} {i k:Nat} {c d e x W:Int} (hk:i+k<o.length) (hv:valN o+c*1000000000 ^ (i+k)=W+x*valTo b k*1000000000 ^ i) (hs:c+limb o (i+k)+x*limb b k=d+1000000000*e) :
  valN (o.set (i+k) (d,()))+e*1000000000 ^ (i+(k+1))=W+x*valTo b (k+1)*1000000000 ^ i:=by
 rw [valN_set hk,valTo,← Nat.add_assoc,pw_succ]
 have h1:(c+limb o (i+k)+x*limb b k)*1000000000 ^ (i+k)=(d+1000000000*e)*1000000000 ^ (i+k):=by rw [hs]
 have h2:=pw_add i k
 grind
theorem carry_step {o:List Lim} {k:Nat} {c d e T:Int} (hk:k<o.length) (hv:valN o+c*1000000000 ^ k=T) (hs:c+limb o k=d+1000000000*e) :
  valN (o.set k (d,()))+e*1000000000 ^ (k+1)=T:=by
 rw [valN_set hk,pw_succ]
 have h1:(c+limb o k)*1000000000 ^ k=(d+1000000000*e)*1000000000 ^ k:=by rw [hs]
 grind
theorem quot_step {o a:List Lim} {i:Nat} {r r' d x T:Int} (hi:i<o.length) (ho:limb o i=0) (hv:valN o*d+r*1000000000 ^ (i+1)+valTo a (i+1)=T) (hs:r*1000000000+limb a i=x*d+r') :
  valN (o.set i (x,()))*d+r'*1000000000 ^ i+valTo a i=T:=by
 rw [valN_set hi,ho,← hv,valTo,pw_succ]
 have h1:(r*1000000000+limb a i)*1000000000 ^ i=(x*d+r')*1000000000 ^ i:=by rw [hs]
 grind
theorem place_step {o:List Lim} {j:Nat} {u u' w w' v x T:Int} (hj:j<o.length) (ho:limb o j=0) (hv:valN o*v+u=T) (hu:u'=u+(w'-w)*1000000000 ^ j) (hw:w'=w-x*v) :
  valN (o.set j (x,()))*v+u'=T:=by
 rw [valN_set hj,ho,hu,hw,← hv]
 grind
theorem quot_unique {a b q r q' r':Int} (h:a=q*b+r) (h':a=q'*b+r') (hr:0≤r∧r<b) (hr':0≤r'∧r'<b):q=q'∧r=r':=by
 have e1:a / b=q∧a % b=r:=by
  rw [h,Int.add_comm,Int.add_mul_ediv_right _ _ (by omega),Int.add_mul_emod_self_right,Int.ediv_eq_zero_of_lt hr.1 hr.2,Int.emod_eq_of_lt hr.1 hr.2]
  exact⟨by omega,rfl⟩
 have e2:a / b=q'∧a % b=r':=by
  rw [h',Int.add_comm,Int.add_mul_ediv_right _ _ (by omega),Int.add_mul_emod_self_right,Int.ediv_eq_zero_of_lt hr'.1 hr'.2,Int.emod_eq_of_lt hr'.1 hr'.2]
  exact⟨by omega,rfl⟩
 exact⟨e1.1.symm.trans e2.1,e1.2.symm.trans e2.2⟩
theorem can_inj {l l':List Lim} (h:Can l) (h':Can l') (e:valN l=valN l'):l=l':=by
 have hc:=cmpL_val h h'
 have hz:cmpL l l'=0:=by
  rcases hc with ⟨_,h⟩ | ⟨h,_⟩ | ⟨_,h⟩
  ·omega
  ·exact h
  ·omega
 unfold cmpL at hz
 by_cases c:l.length=l'.length
 ·rw [if_neg (by simpa using c)] at hz
  have key:∀ n,cmpAt l l' n=0→∀ i,i<n→limb l i=limb l' i:=by
   intro n
   induction n with
   | zero=>intro _ i hi; omega
   | succ n ih =>
    intro hz i hi
    unfold cmpAt at hz
    split at hz
    ·omega
    ·split at hz
     ·omega
     ·by_cases e:i=n
      ·subst e; omega
      ·exact ih hz i (by omega)
  have hk:=key _ hz
  refine List.ext_getElem c fun i h1 h2=>?_
  have:=hk i h1
  rw [limb_lt h1,limb_lt h2] at this
  exact Prod.ext this rfl
 ·rw [if_pos c] at hz
  split at hz <;> omega
end Go.Proofs.YtagkjnpggkmehaaGreatDoor
namespace Go.Proofs.YtagkjnpggkmehaaGreatDoor
open Sx
set_option maxRecDepth 100000
abbrev bl (t:ByteArray):List UInt8:=t.data.toList
theorem bl_inj {s t:ByteArray} (h:bl s=bl t):s=t:=by
 apply ByteArray.ext
 exact Array.toList_inj.1 h
theorem bl_append (s t:ByteArray):bl (s++t)=bl s++bl t:=by
 show(s++t).data.toList=_
 rw [ByteArray.data_append]; simp
theorem bl_len (t:ByteArray):(bl t).length=t.size:=by
 show t.data.toList.length=t.data.size
 simp
abbrev Dg (c:UInt8):Prop:=48≤c.toNat∧c.toNat≤57
def dvA:List UInt8→Nat→Nat
 | [],a=>a
 | c :: r,a=>dvA r (10*a+(c.toNat-48))
abbrev dv (l:List UInt8):Nat:=dvA l 0
theorem dvA_eq:∀ (l:List UInt8) (a:Nat),dvA l a=a*10 ^ l.length+dv l
 | [],a=>by simp [dvA]
 | c :: r,a=>by
  rw [dvA,dvA_eq r,show dv (c :: r)=dvA r (10*0+(c.toNat-48)) from rfl,dvA_eq r (10*0+(c.toNat-48)),List.length_cons,Nat.pow_succ,Nat.add_mul,Nat.mul_zero,Nat.zero_add]
  have:10*a*10 ^ r.length=a*(10 ^ r.length*10):=by ac_rfl
  omega
theorem dv_cons (c:UInt8) (r:List UInt8):dv (c :: r)=(c.toNat-48)*10 ^ r.length+dv r:=by
 rw [show dv (c :: r)=dvA r (10*0+(c.toNat-48)) from rfl,dvA_eq,Nat.mul_zero,Nat.zero_add]
theorem dv_append:∀ (l m:List UInt8),dv (l++m)=dv l*10 ^ m.length+dv m
 | [],m=>by show dv m=0*_+_; omega
 | c :: r,m=>by
  rw [List.cons_append,dv_cons,dv_append r m,dv_cons,List.length_append,Nat.pow_add,Nat.add_mul]
  have:(c.toNat-48)*(10 ^ r.length*10 ^ m.length)=(c.toNat-48)*10 ^ r.length*10 ^ m.length:=(Nat.mul_assoc ..).symm
  omega
theorem dv_lt:∀ {l:List UInt8},(∀ c∈l,Dg c)→dv l<10 ^ l.length
 | [],_=>by decide
 | c :: r,h=>by
  have h1:=dv_lt fun x hx=>h x (List.mem_cons_of_mem _ hx)
  have h2:=h c (List.mem_cons_self ..)
  rw [dv_cons,List.length_cons,Nat.pow_succ]
  have h3:(c.toNat-48)*10 ^ r.length≤9*10 ^ r.length:=Nat.mul_le_mul_right _ (by omega)
  omega
theorem dg_inj {c d:UInt8} (h:Dg c) (k:Dg d) (e:c.toNat-48=d.toNat-48):c=d:=by
 apply UInt8.toNat_inj.1
 omega
theorem dv_inj:∀ {l m:List UInt8},l.length=m.length→(∀ c∈l,Dg c)→(∀ c∈m,Dg c)→dv l=dv m→l=m
 | [],[],_,_,_,_=>rfl
 | [],_ :: _,h,_,_,_=>by simp at h
 | _ :: _,[],h,_,_,_=>by simp at h
 | c :: r,d :: q,hl,h,k,e=>by
  have hl':r.length=q.length:=by simpa using hl
  have h1:=dv_lt fun x hx=>h x (List.mem_cons_of_mem _ hx)
  have h2:=dv_lt fun x hx=>k x (List.mem_cons_of_mem _ hx)
  rw [dv_cons,dv_cons,← hl'] at e
  rw [← hl'] at h2
  have hp:0<10 ^ r.length:=Nat.pow_pos (by decide)
  rw [Nat.mul_comm (c.toNat-48),Nat.mul_comm (d.toNat-48)] at e
  have e1:(10 ^ r.length*(c.toNat-48)+dv r) / 10 ^ r.length=(10 ^ r.length*(d.toNat-48)+dv q) / 10 ^ r.length:=by rw [e]
  have e2:(10 ^ r.length*(c.toNat-48)+dv r) % 10 ^ r.length=(10 ^ r.length*(d.toNat-48)+dv q) % 10 ^ r.length:=by rw [e]
  rw [Nat.mul_add_div hp,Nat.mul_add_div hp,Nat.div_eq_of_lt h1,Nat.div_eq_of_lt h2] at e1
  rw [Nat.mul_add_mod,Nat.mul_add_mod,Nat.mod_eq_of_lt h1,Nat.mod_eq_of_lt h2] at e2
  rw [dg_inj (h c (List.mem_cons_self ..)) (k d (List.mem_cons_self ..)) (by omega),dv_inj hl' (fun x hx=>h x (List.mem_cons_of_mem _ hx)) (fun x hx=>k x (List.mem_cons_of_mem _ hx)) e2]
def NumTx (l:List UInt8):Prop:=l≠[]∧(∀ c∈l,Dg c)∧(1<l.length→l.head?≠some 48)
theorem num_ge {l:List UInt8} (h:NumTx l) (hl:1<l.length):10 ^ (l.length-1)≤dv l:=by
 cases l with
 | nil=>simp at hl
 | cons c r =>
  have h1:=h.2.2 hl
  have h2:=h.2.1 c (List.mem_cons_self ..)
  have h3:c.toNat≠48:=fun e=>h1 (by
   have:c=48:=UInt8.toNat_inj.1 e
   rw [this]; rfl)
  rw [dv_cons,List.length_cons,Nat.add_sub_cancel]
  have:1*10 ^ r.length≤(c.toNat-48)*10 ^ r.length:=Nat.mul_le_mul_right _ (by omega)
  omega
theorem num_len {l m:List UInt8} (h:NumTx l) (k:NumTx m) (e:dv l=dv m):l.length≤m.length:=by
 have hm:=dv_lt k.2.1
 by_cases hl:1<l.length
 ·have h1:=num_ge h hl
  rcases Nat.lt_or_ge m.length l.length with hlt | hge
  ·have:10 ^ m.length≤10 ^ (l.length-1):=Nat.pow_le_pow_right (by decide) (by omega)
   omega
  ·exact hge
 ·have:m.length≠0:=fun h0=>k.1 (List.eq_nil_of_length_eq_zero h0)
  omega
theorem num_inj {l m:List UInt8} (h:NumTx l) (k:NumTx m) (e:dv l=dv m):l=m :=
 dv_inj (Nat.le_antisymm (num_len h k e) (num_len k h e.symm)) h.2.1 k.2.1 e
theorem dig_bl {k:Nat} (h:k≤9):bl (dig k)=[UInt8.ofNat (48+k)]∧(UInt8.ofNat (48+k)).toNat=48+k:=by
 refine⟨rfl,?_⟩
 rw [UInt8.toNat_ofNat']
 exact Nat.mod_eq_of_lt (by omega)
theorem numT_num:∀ (n:Nat) (k:Int),0≤k→k.toNat=n→NumTx (bl (numT k))∧dv (bl (numT k))=n:=by
 intro n
 induction n using Nat.strongRecOn with
 | _ n ih =>
  intro k h0 hk
  by_cases h9:k<10
  ·obtain⟨e1,e2⟩:=dig_bl (k:=k.toNat) (by omega)
   rw [numT_small h0 h9,e1]
   refine⟨⟨by simp,fun c hc=>?_,fun h=>by simp at h⟩,?_⟩
   ·obtain rfl:c=UInt8.ofNat (48+k.toNat):=by simpa using hc
    show 48≤(UInt8.ofNat (48+k.toNat)).toNat∧(UInt8.ofNat (48+k.toNat)).toNat≤57
    omega
   ·rw [dv_cons,e2]
    show(48+k.toNat-48)*10 ^ 0+0=n
    omega
  ·obtain⟨hn,hv⟩:=ih (k / 10).toNat (by omega) (k / 10) (by omega) rfl
   obtain⟨e1,e2⟩:=dig_bl (k:=(k % 10).toNat) (by omega)
   rw [numT_big (by omega),bl_append,e1]
   refine⟨⟨by simp,fun c hc=>?_,fun _=>?_⟩,?_⟩
   ·rcases List.mem_append.1 hc with h | h
    ·exact hn.2.1 c h
    ·obtain rfl:c=UInt8.ofNat (48+(k % 10).toNat):=by simpa using h
     show 48≤(UInt8.ofNat (48+(k % 10).toNat)).toNat∧(UInt8.ofNat (48+(k % 10).toNat)).toNat≤57
     omega
   ·cases hq:bl (numT (k / 10)) with
    | nil=>exact absurd hq hn.1
    | cons c r =>
     rw [hq] at hn hv
     rw [List.cons_append,List.head?_cons]
     intro hc
     obtain rfl:c=48:=by simpa using hc
     by_cases hr:1<(48 :: r:List UInt8).length
     ·exact hn.2.2 hr rfl
     ·have:r=[]:=List.eq_nil_of_length_eq_zero (by rw [List.length_cons] at hr; omega)
      subst this
      have:dv [48]=0:=by decide
      omega
   ·rw [dv_append,hv]
    show(k / 10).toNat*10 ^ 1+dv [UInt8.ofNat (48+(k % 10).toNat)]=n
    rw [dv_cons,e2]
    show(k / 10).toNat*10 ^ 1+((48+(k % 10).toNat-48)*10 ^ 0+0)=n
    omega
theorem zeros_bl (k:Nat):bl (zeros k)=List.replicate k 48:=by
 show(List.replicate k (48:UInt8)).toArray.toList=_
 simp
theorem dv_zeros:∀ (k:Nat) (l:List UInt8),dv (List.replicate k 48++l)=dv l
 | 0,l=>rfl
 | k+1,l=>by
  rw [List.replicate_succ,List.cons_append,dv_cons,dv_zeros k l]
  show(48-48)*_+_=_
  omega
theorem part_num {k:Int} (h0:0≤k) (h1:k<1000000000):(padB (numT k) 9).size=9∧(∀ c∈bl (padB (numT k) 9),Dg c)∧dv (bl (padB (numT k) 9))=k.toNat:=by
 obtain⟨hn,hv⟩:=numT_num k.toNat k h0 rfl
 have hs:(numT k).size≤9:=by
  rw [← bl_len]
  rcases Nat.lt_or_ge 9 (bl (numT k)).length with h | h
  ·have h2:=num_ge hn (by omega)
   have h3:10 ^ 9≤10 ^ ((bl (numT k)).length-1):=Nat.pow_le_pow_right (by decide) (by omega)
   have h4:(10:Nat) ^ 9=1000000000:=by decide
   omega
  ·exact h
 have e:padB (numT k) 9=zeros (9-(numT k).size)++numT k:=by
  unfold padB
  rw [if_neg (by decide),show((9:Int)-((numT k).size:Int)).toNat=9-(numT k).size by omega]
 refine⟨?_,fun c hc=>?_,?_⟩
 ·rw [e,ByteArray.size_append,zeros_size]; omega
 ·rw [e,bl_append,zeros_bl] at hc
  rcases List.mem_append.1 hc with h | h
  ·obtain rfl:=List.eq_of_mem_replicate h
   decide
  ·exact hn.2.1 c h
 ·rw [e,bl_append,zeros_bl,dv_zeros,hv]
theorem pw9 (i:Nat):((10 ^ (9*i):Nat):Int)=1000000000 ^ i:=by
 rw [Nat.pow_mul]
 have:(10:Nat) ^ 9=1000000000:=by decide
 rw [this]
 exact Int.natCast_pow _ _
theorem natGo_num {l:List Lim} (hl:Lims l):∀ (i:Nat) (s:ByteArray),(∀ c∈bl s,Dg c)→bl s≠[] →
  (natGo l i s).size=s.size+9*i∧(∀ c∈bl (natGo l i s),Dg c)∧(bl (natGo l i s)).head?=(bl s).head?∧(dv (bl (natGo l i s)):Int)=(dv (bl s):Int)*1000000000 ^ i+valTo l i
 | 0,s,h,_=>⟨rfl,h,rfl,by rw [natGo]; simp [valTo]⟩
 | i+1,s,h,hne=>by
  obtain⟨p1,p2,p3⟩:=part_num (hl i).1 (hl i).2
  have hd:∀ c∈bl (s++padB (numT (limb l i)) 9),Dg c:=fun c hc=>by
   rw [bl_append] at hc
   exact(List.mem_append.1 hc).elim (h c) (p2 c)
  obtain⟨q1,q2,q3,q4⟩:=natGo_num hl i (s++padB (numT (limb l i)) 9) hd (by rw [bl_append]; simp [hne])
  rw [natGo]
  refine⟨by rw [q1,ByteArray.size_append,p1]; omega,q2,?_,?_⟩
  ·rw [q3,bl_append]
   cases hs:bl s with
   | nil=>exact absurd hs hne
   | cons c r=>rfl
  ·rw [q4,bl_append,dv_append,p3,bl_len,p1,pw_succ]
   show _=_+(valTo l i+limb l i*1000000000 ^ i)
   have h0:=(hl i).1
   have e9:((10 ^ 9:Nat):Int)=1000000000:=by decide
   have ek:((limb l i).toNat:Int)=limb l i:=by omega
   rw [Int.natCast_add,Int.natCast_mul,e9,ek,Int.add_mul,Int.mul_assoc]
   omega
theorem natT_num {l:List Lim} (h:Can l):NumTx (bl (natT l))∧(dv (bl (natT l)):Int)=valN l∧(natT l).size≤9*l.length+1∧(0<l.length→(natT l).size≤9*l.length):=by
 by_cases h0:l.length=0
 ·have e:natT l=⟨#[48]⟩:=by unfold natT; rw [if_pos h0]
  have:l=[]:=List.eq_nil_of_length_eq_zero h0
  subst this
  rw [e]
  exact⟨⟨by decide,by decide,fun h=>absurd h (by decide)⟩,rfl,by decide,fun h=>absurd h (by decide)⟩
 ·have e:natT l=natGo l (l.length-1) (numT (limb l (l.length-1))):=by unfold natT; rw [if_neg h0]
  have hb:=h.1 (l.length-1)
  obtain⟨hn,hv⟩:=numT_num (limb l (l.length-1)).toNat _ hb.1 rfl
  obtain⟨q1,q2,q3,q4⟩:=natGo_num h.1 (l.length-1) _ hn.2.1 hn.1
  have hp:=(part_num hb.1 hb.2).1
  have hs:(numT (limb l (l.length-1))).size≤9:=by
   have:=(padB_size (numT (limb l (l.length-1))) 9).2.2.2
   omega
  have htop:limb l (l.length-1)≠0:=by
   rcases h.2 with h2 | h2
   ·exact absurd h2 h0
   ·exact h2
  have hval:valTo l (l.length-1+1)=valN l:=by rw [show l.length-1+1=l.length by omega]; rfl
  have hval2:valTo l (l.length-1+1)=valTo l (l.length-1)+limb l (l.length-1)*1000000000 ^ (l.length-1):=rfl
  rw [e]
  refine⟨⟨fun hnil=>?_,q2,fun _ hc=>?_⟩,?_,by omega,fun _=>by omega⟩
  ·rw [hnil] at q3
   cases hq:bl (numT (limb l (l.length-1))) with
   | nil=>exact hn.1 hq
   | cons c r=>rw [hq] at q3; cases q3
  ·rw [q3] at hc
   cases hq:bl (numT (limb l (l.length-1))) with
   | nil=>exact hn.1 hq
   | cons c r =>
    rw [hq] at hc hn hv
    obtain rfl:c=48:=by simpa using hc
    by_cases hr:1<(48 :: r:List UInt8).length
    ·exact hn.2.2 hr rfl
    ·have:r=[]:=List.eq_nil_of_length_eq_zero (by rw [List.length_cons] at hr; omega)
     subst this
     have:dv [48]=0:=by decide
     omega
  ·rw [q4,hv,← hval,hval2]
   have:((limb l (l.length-1)).toNat:Int)=limb l (l.length-1):=by omega
   rw [this]
   omega
theorem natT_inj {l m:List Lim} (h:Can l) (k:Can m) (e:natT l=natT m):l=m:=by
 refine can_inj h k ?_
 rw [← (natT_num h).2.1,← (natT_num k).2.1,e]
theorem val_app1 (a:List Lim) (x:Int):valN (a++[(x,())])=valN a+x*1000000000 ^ a.length:=by
 unfold valN
 rw [List.length_append]
 show valTo (a++[(x,())]) a.length+limb (a++[(x,())]) a.length*1000000000 ^ a.length=_
 rw [valTo_snoc (Nat.le_refl _),limb_snoc]
theorem dv_part {s:List UInt8} (hs:∀ c∈s,Dg c) (j n:Nat) (hn:n≤9):dv ((s.drop j).take n)<1000000000:=by
 have h1:=dv_lt (l:=(s.drop j).take n) fun c hc=>hs c (List.mem_of_mem_drop (List.mem_of_mem_take hc))
 have h2:10 ^ ((s.drop j).take n).length≤10 ^ 9:=Nat.pow_le_pow_right (by decide) (by rw [List.length_take]; omega)
 have h3:(10:Nat) ^ 9=1000000000:=by decide
 omega
theorem rd_step {s:List UInt8} (hs:∀ c∈s,Dg c) {a:List Lim} {e j:Nat} (he:e+9*a.length=s.length) (ha:Lims a) (hv:valN a=(dv (s.drop e):Int)) (hj:j≤e) (hj9:e-j≤9) :
  Lims (a++[((dv ((s.drop j).take (e-j)):Int),())])∧valN (a++[((dv ((s.drop j).take (e-j)):Int),())])=(dv (s.drop j):Int):=by
 have hb:=dv_part hs j (e-j) hj9
 refine⟨lims_snoc ha ⟨by show(0:Int)≤(dv _:Int); omega,by show(dv _:Int)<1000000000; omega⟩,?_⟩
 have e1:s.drop j=(s.drop j).take (e-j)++s.drop e:=by
  have:s.drop e=(s.drop j).drop (e-j):=by rw [List.drop_drop]; congr 1; omega
  rw [this,List.take_append_drop]
 have e2:(s.drop e).length=9*a.length:=by rw [List.length_drop]; omega
 rw [val_app1,hv]
 conv=>rhs; rw [e1]
 rw [dv_append,e2,Int.natCast_add,Int.natCast_mul,pw9]
 omega
def NatTx (s:ByteArray):Prop:=NumTx (bl s)∧s.size≤450
theorem natTx_no {s:ByteArray} (h:¬ NatTx s) {q:List Lim} (hq:Can q) (h50:q.length≤50):natT q≠s:=fun e=>by
 obtain⟨h1,_,h3,h4⟩:=natT_num hq
 rw [e] at h1 h3 h4
 exact h ⟨h1,by omega⟩
theorem natTx_yes {s:ByteArray} (h:NatTx s) {a:List Lim} (ha:Lims a) (hv:valN a=(dv (bl s):Int)) (hl:9*a.length≤s.size+8):Can (trimL a)∧(trimL a).length≤50∧natT (trimL a)=s:=by
 obtain⟨c1,c2⟩:=trim_can ha
 have hle:(trimL a).length≤a.length:=by unfold trimL; rw [List.length_take]; exact Nat.min_le_right _ _
 refine⟨c1,by have:=h.2; omega,bl_inj ?_⟩
 obtain⟨n1,n2,_⟩:=natT_num c1
 exact num_inj n1 h.1 (by omega)
end Go.Proofs.YtagkjnpggkmehaaGreatDoor
namespace Go.Proofs.YtagkjnpggkmehaaGreatDoor
open Sx
abbrev rString:Rp [.s] (ByteArray × Unit):=rStr rNil
theorem LR.txt {V:Know} {s:SlV} {l:List (ByteArray × Unit)} {f:List Nat} (h:LR rString V s l f) {i:Nat} (hi:i<l.length) :
  (∃ b o,s.a=some ⟨b,o,none⟩∧loadV V ((⟨b,o,none⟩:Addr).add (i*1)) 1=some [.string l[i].1])∧l[i].1.size≤9223372036854775807:=by
 obtain⟨b1,o1,c1,f1,a1,l1,r1,_⟩:=h.at hi
 have e:c1.1=l[i].1:=r1.1.1
 refine⟨?_,r1.1.2⟩
 rw [← e]
 exact⟨b1,o1,a1,l1⟩
end Go.Proofs.YtagkjnpggkmehaaGreatDoor
