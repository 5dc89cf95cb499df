/-
  Texts of numbers with a sign, and what bytes they have. No program in sight.
-/
import Derived.Test.YtpdfdkccgkieoaaGreatDoorCmdU
import Derived.Test.YtpdfdkccgkieoaaGreatDoorTxt
import Derived.Test.YtpdfdkccgkieoaaGreatDoorWr
namespace Go.Proofs.YtpdfdkccgkieoaaGreatDoor
open Sx Go.RowKit
set_option maxRecDepth 100000
def addB (e:Bool) (t:ByteArray) (l:List Tx):List Tx:=if e=true then l++[(t,())] else l
theorem addB_t {e:Bool} {t:ByteArray} {l:List Tx} (h:e=true):addB e t l=l++[(t,())]:=if_pos h
theorem addB_f {e:Bool} {t:ByteArray} {l:List Tx} (h:e=false):addB e t l=l:=by rw [h]; rfl
theorem addB_len (e:Bool) (t:ByteArray) (l:List Tx):(addB e t l).length≤l.length+1:=by
 unfold addB
 split
 ·simp
 ·omega
def Wd (V1:Know) (l:List Tx) (k:Nat):LShs [.a 9]→Know→Prop:=fun y V'=>V1.le V'∧y.1.1=l.length∧y.1.2=l.map cellT∧l.length≤k
theorem Wd.add {V1 V':Know} {l:List Tx} {k n:Nat} {ys:List Value} {e:Bool} {t:ByteArray} (hle:V1.le V') (hn:n=l.length) (hys:ys=l.map cellT) (hl:l.length≤k) (he:e=true):Wd V1 (addB e t l) (k+1) ((n+1,ys++[.string t]),()) V':=by
 refine⟨hle,?_,?_,?_⟩
 ·rw [addB_t he,hn]; simp
 ·rw [addB_t he,hys,List.map_append]; rfl
 ·have:=addB_len e t l
  omega
theorem Wd.keep {V1 V':Know} {l:List Tx} {k n:Nat} {ys:List Value} {e:Bool} {t:ByteArray} (hle:V1.le V') (hn:n=l.length) (hys:ys=l.map cellT) (hl:l.length≤k) (he:e=false):Wd V1 (addB e t l) (k+1) ((n,ys),()) V':=by
 rw [addB_f he]
 exact⟨hle,hn,hys,by omega⟩
end Go.Proofs.YtpdfdkccgkieoaaGreatDoor
namespace Go.Proofs.YtpdfdkccgkieoaaGreatDoor
open Sx
set_option maxRecDepth 100000
abbrev bl (t:ByteArray):List UInt8:=t.data.toList
theorem bl_inj {s t:ByteArray} (h:bl s=bl t):s=t:=by
 apply ByteArray.ext
 exact Array.toList_inj.1 h
theorem bl_append (s t:ByteArray):bl (s++t)=bl s++bl t:=by
 show(s++t).data.toList=_
 rw [ByteArray.data_append]; simp
theorem bl_len (t:ByteArray):(bl t).length=t.size:=by
 show t.data.toList.length=t.data.size
 simp
abbrev Dg (c:UInt8):Prop:=48≤c.toNat∧c.toNat≤57
def dvA:List UInt8→Nat→Nat
 | [],a=>a
 | c :: r,a=>dvA r (10*a+(c.toNat-48))
abbrev dv (l:List UInt8):Nat:=dvA l 0
theorem dvA_eq:∀ (l:List UInt8) (a:Nat),dvA l a=a*10 ^ l.length+dv l
 | [],a=>by simp [dvA]
 | c :: r,a=>by
  rw [dvA,dvA_eq r,show dv (c :: r)=dvA r (10*0+(c.toNat-48)) from rfl,dvA_eq r (10*0+(c.toNat-48)),List.length_cons,Nat.pow_succ,Nat.add_mul,Nat.mul_zero,Nat.zero_add]
  have:10*a*10 ^ r.length=a*(10 ^ r.length*10):=by ac_rfl
  omega
theorem dv_cons (c:UInt8) (r:List UInt8):dv (c :: r)=(c.toNat-48)*10 ^ r.length+dv r:=by
 rw [show dv (c :: r)=dvA r (10*0+(c.toNat-48)) from rfl,dvA_eq,Nat.mul_zero,Nat.zero_add]
theorem dv_append:∀ (l m:List UInt8),dv (l++m)=dv l*10 ^ m.length+dv m
 | [],m=>by show dv m=0*_+_; omega
 | c :: r,m=>by
  rw [List.cons_append,dv_cons,dv_append r m,dv_cons,List.length_append,Nat.pow_add,Nat.add_mul]
  have:(c.toNat-48)*(10 ^ r.length*10 ^ m.length)=(c.toNat-48)*10 ^ r.length*10 ^ m.length:=(Nat.mul_assoc ..).symm
  omega
theorem dv_lt:∀ {l:List UInt8},(∀ c∈l,Dg c)→dv l<10 ^ l.length
 | [],_=>by decide
 | c :: r,h=>by
  have h1:=dv_lt fun x hx=>h x (List.mem_cons_of_mem _ hx)
  have h2:=h c (List.mem_cons_self ..)
  rw [dv_cons,List.length_cons,Nat.pow_succ]
  have h3:(c.toNat-48)*10 ^ r.length≤9*10 ^ r.length:=Nat.mul_le_mul_right _ (by omega)
  omega
theorem dg_inj {c d:UInt8} (h:Dg c) (k:Dg d) (e:c.toNat-48=d.toNat-48):c=d:=by
 apply UInt8.toNat_inj.1
 omega
theorem dv_inj:∀ {l m:List UInt8},l.length=m.length→(∀ c∈l,Dg c)→(∀ c∈m,Dg c)→dv l=dv m→l=m
 | [],[],_,_,_,_=>rfl
 | [],_ :: _,h,_,_,_=>by simp at h
 | _ :: _,[],h,_,_,_=>by simp at h
 | c :: r,d :: q,hl,h,k,e=>by
  have hl':r.length=q.length:=by simpa using hl
  have h1:=dv_lt fun x hx=>h x (List.mem_cons_of_mem _ hx)
  have h2:=dv_lt fun x hx=>k x (List.mem_cons_of_mem _ hx)
  rw [dv_cons,dv_cons,← hl'] at e
  rw [← hl'] at h2
  have hp:0<10 ^ r.length:=Nat.pow_pos (by decide)
  rw [Nat.mul_comm (c.toNat-48),Nat.mul_comm (d.toNat-48)] at e
  have e1:(10 ^ r.length*(c.toNat-48)+dv r) / 10 ^ r.length=(10 ^ r.length*(d.toNat-48)+dv q) / 10 ^ r.length:=by rw [e]
  have e2:(10 ^ r.length*(c.toNat-48)+dv r) % 10 ^ r.length=(10 ^ r.length*(d.toNat-48)+dv q) % 10 ^ r.length:=by rw [e]
  rw [Nat.mul_add_div hp,Nat.mul_add_div hp,Nat.div_eq_of_lt h1,Nat.div_eq_of_lt h2] at e1
  rw [Nat.mul_add_mod,Nat.mul_add_mod,Nat.mod_eq_of_lt h1,Nat.mod_eq_of_lt h2] at e2
  rw [dg_inj (h c (List.mem_cons_self ..)) (k d (List.mem_cons_self ..)) (by omega),dv_inj hl' (fun x hx=>h x (List.mem_cons_of_mem _ hx)) (fun x hx=>k x (List.mem_cons_of_mem _ hx)) e2]
def NumTx (l:List UInt8):Prop:=l≠[]∧(∀ c∈l,Dg c)∧(1<l.length→l.head?≠some 48)
theorem num_ge {l:List UInt8} (h:NumTx l) (hl:1<l.length):10 ^ (l.length-1)≤dv l:=by
 cases l with
 | nil=>simp at hl
 | cons c r =>
  have h1:=h.2.2 hl
  have h2:=h.2.1 c (List.mem_cons_self ..)
  have h3:c.toNat≠48:=fun e=>h1 (by
   have:c=48:=UInt8.toNat_inj.1 e
   rw [this]; rfl)
  rw [dv_cons,List.length_cons,Nat.add_sub_cancel]
  have:1*10 ^ r.length≤(c.toNat-48)*10 ^ r.length:=Nat.mul_le_mul_right _ (by omega)
  omega
theorem num_len {l m:List UInt8} (h:NumTx l) (k:NumTx m) (e:dv l=dv m):l.length≤m.length:=by
 have hm:=dv_lt k.2.1
 by_cases hl:1<l.length
 ·have h1:=num_ge h hl
  rcases Nat.lt_or_ge m.length l.length with hlt | hge
  ·have:10 ^ m.length≤10 ^ (l.length-1):=Nat.pow_le_pow_right (by decide) (by omega)
   omega
  ·exact hge
 ·have:m.length≠0:=fun h0=>k.1 (List.eq_nil_of_length_eq_zero h0)
  omega
theorem num_inj {l m:List UInt8} (h:NumTx l) (k:NumTx m) (e:dv l=dv m):l=m :=
 dv_inj (Nat.le_antisymm (num_len h k e) (num_len k h e.symm)) h.2.1 k.2.1 e
theorem dig_bl {k:Nat} (h:k≤9):bl (dig k)=[UInt8.ofNat (48+k)]∧(UInt8.ofNat (48+k)).toNat=48+k:=by
 refine⟨rfl,?_⟩
 rw [UInt8.toNat_ofNat']
 exact Nat.mod_eq_of_lt (by omega)
theorem numT_num:∀ (n:Nat) (k:Int),0≤k→k.toNat=n→NumTx (bl (numT k))∧dv (bl (numT k))=n:=by
 intro n
 induction n using Nat.strongRecOn with
 | _ n ih =>
  intro k h0 hk
  by_cases h9:k<10
  ·obtain⟨e1,e2⟩:=dig_bl (k:=k.toNat) (by omega)
   rw [numT_small h0 h9,e1]
   refine⟨⟨by simp,fun c hc=>?_,fun h=>by simp at h⟩,?_⟩
   ·obtain rfl:c=UInt8.ofNat (48+k.toNat):=by simpa using hc
    show 48≤(UInt8.ofNat (48+k.toNat)).toNat∧(UInt8.ofNat (48+k.toNat)).toNat≤57
    omega
   ·rw [dv_cons,e2]
    show(48+k.toNat-48)*10 ^ 0+0=n
    omega
  ·obtain⟨hn,hv⟩:=ih (k / 10).toNat (by omega) (k / 10) (by omega) rfl
   obtain⟨e1,e2⟩:=dig_bl (k:=(k % 10).toNat) (by omega)
   rw [numT_big (by omega),bl_append,e1]
   refine⟨⟨by simp,fun c hc=>?_,fun _=>?_⟩,?_⟩
   ·rcases List.mem_append.1 hc with h | h
    ·exact hn.2.1 c h
    ·obtain rfl:c=UInt8.ofNat (48+(k % 10).toNat):=by simpa using h
     show 48≤(UInt8.ofNat (48+(k % 10).toNat)).toNat∧(UInt8.ofNat (48+(k % 10).toNat)).toNat≤57
     omega
   ·cases hq:bl (numT (k / 10)) with
    | nil=>exact absurd hq hn.1
    | cons c r =>
     rw [hq] at hn hv
     rw [List.cons_append,List.head?_cons]
     intro hc
     obtain rfl:c=48:=by simpa using hc
     by_cases hr:1<(48 :: r:List UInt8).length
     ·exact hn.2.2 hr rfl
     ·have:r=[]:=List.eq_nil_of_length_eq_zero (by rw [List.length_cons] at hr; omega)
      subst this
      have:dv [48]=0:=by decide
      omega
   ·rw [dv_append,hv]
    show(k / 10).toNat*10 ^ 1+dv [UInt8.ofNat (48+(k % 10).toNat)]=n
    rw [dv_cons,e2]
    show(k / 10).toNat*10 ^ 1+((48+(k % 10).toNat-48)*10 ^ 0+0)=n
    omega
theorem zeros_bl (k:Nat):bl (zeros k)=List.replicate k 48:=by
 show(List.replicate k (48:UInt8)).toArray.toList=_
 simp
theorem dv_zeros:∀ (k:Nat) (l:List UInt8),dv (List.replicate k 48++l)=dv l
 | 0,l=>rfl
 | k+1,l=>by
  rw [List.replicate_succ,List.cons_append,dv_cons,dv_zeros k l]
  show(48-48)*_+_=_
  omega
theorem part_num {k:Int} (h0:0≤k) (h1:k<1000000000):(padB (numT k) 9).size=9∧(∀ c∈bl (padB (numT k) 9),Dg c)∧dv (bl (padB (numT k) 9))=k.toNat:=by
 obtain⟨hn,hv⟩:=numT_num k.toNat k h0 rfl
 have hs:(numT k).size≤9:=by
  rw [← bl_len]
  rcases Nat.lt_or_ge 9 (bl (numT k)).length with h | h
  ·have h2:=num_ge hn (by omega)
   have h3:10 ^ 9≤10 ^ ((bl (numT k)).length-1):=Nat.pow_le_pow_right (by decide) (by omega)
   have h4:(10:Nat) ^ 9=1000000000:=by decide
   omega
  ·exact h
 have e:padB (numT k) 9=zeros (9-(numT k).size)++numT k:=by
  unfold padB
  rw [if_neg (by decide),show((9:Int)-((numT k).size:Int)).toNat=9-(numT k).size by omega]
 refine⟨?_,fun c hc=>?_,?_⟩
 ·rw [e,ByteArray.size_append,zeros_size]; omega
 ·rw [e,bl_append,zeros_bl] at hc
  rcases List.mem_append.1 hc with h | h
  ·obtain rfl:=List.eq_of_mem_replicate h
   decide
  ·exact hn.2.1 c h
 ·rw [e,bl_append,zeros_bl,dv_zeros,hv]
theorem pw9 (i:Nat):((10 ^ (9*i):Nat):Int)=1000000000 ^ i:=by
 rw [Nat.pow_mul]
 have:(10:Nat) ^ 9=1000000000:=by decide
 rw [this]
 exact Int.natCast_pow _ _
theorem natGo_num {l:List Lim} (hl:Lims l):∀ (i:Nat) (s:ByteArray),(∀ c∈bl s,Dg c)→bl s≠[] →
  (natGo l i s).size=s.size+9*i∧(∀ c∈bl (natGo l i s),Dg c)∧(bl (natGo l i s)).head?=(bl s).head?∧(dv (bl (natGo l i s)):Int)=(dv (bl s):Int)*1000000000 ^ i+valTo l i
 | 0,s,h,_=>⟨rfl,h,rfl,by rw [natGo]; simp [valTo]⟩
 | i+1,s,h,hne=>by
  obtain⟨p1,p2,p3⟩:=part_num (hl i).1 (hl i).2
  have hd:∀ c∈bl (s++padB (numT (limb l i)) 9),Dg c:=fun c hc=>by
   rw [bl_append] at hc
   exact(List.mem_append.1 hc).elim (h c) (p2 c)
  obtain⟨q1,q2,q3,q4⟩:=natGo_num hl i (s++padB (numT (limb l i)) 9) hd (by rw [bl_append]; simp [hne])
  rw [natGo]
  refine⟨by rw [q1,ByteArray.size_append,p1]; omega,q2,?_,?_⟩
  ·rw [q3,bl_append]
   cases hs:bl s with
   | nil=>exact absurd hs hne
   | cons c r=>rfl
  ·rw [q4,bl_append,dv_append,p3,bl_len,p1,pw_succ]
   show _=_+(valTo l i+limb l i*1000000000 ^ i)
   have h0:=(hl i).1
   have e9:((10 ^ 9:Nat):Int)=1000000000:=by decide
   have ek:((limb l i).toNat:Int)=limb l i:=by omega
   rw [Int.natCast_add,Int.natCast_mul,e9,ek,Int.add_mul,Int.mul_assoc]
   omega
theorem natT_num {l:List Lim} (h:Can l):NumTx (bl (natT l))∧(dv (bl (natT l)):Int)=valN l∧(natT l).size≤9*l.length+1∧(0<l.length→(natT l).size≤9*l.length):=by
 by_cases h0:l.length=0
 ·have e:natT l=⟨#[48]⟩:=by unfold natT; rw [if_pos h0]
  have:l=[]:=List.eq_nil_of_length_eq_zero h0
  subst this
  rw [e]
  exact⟨⟨by decide,by decide,fun h=>absurd h (by decide)⟩,rfl,by decide,fun h=>absurd h (by decide)⟩
 ·have e:natT l=natGo l (l.length-1) (numT (limb l (l.length-1))):=by unfold natT; rw [if_neg h0]
  have hb:=h.1 (l.length-1)
  obtain⟨hn,hv⟩:=numT_num (limb l (l.length-1)).toNat _ hb.1 rfl
  obtain⟨q1,q2,q3,q4⟩:=natGo_num h.1 (l.length-1) _ hn.2.1 hn.1
  have hp:=(part_num hb.1 hb.2).1
  have hs:(numT (limb l (l.length-1))).size≤9:=by
   have:=(padB_size (numT (limb l (l.length-1))) 9).2.2.2
   omega
  have htop:limb l (l.length-1)≠0:=by
   rcases h.2 with h2 | h2
   ·exact absurd h2 h0
   ·exact h2
  have hval:valTo l (l.length-1+1)=valN l:=by rw [show l.length-1+1=l.length by omega]; rfl
  have hval2:valTo l (l.length-1+1)=valTo l (l.length-1)+limb l (l.length-1)*1000000000 ^ (l.length-1):=rfl
  rw [e]
  refine⟨⟨fun hnil=>?_,q2,fun _ hc=>?_⟩,?_,by omega,fun _=>by omega⟩
  ·rw [hnil] at q3
   cases hq:bl (numT (limb l (l.length-1))) with
   | nil=>exact hn.1 hq
   | cons c r=>rw [hq] at q3; cases q3
  ·rw [q3] at hc
   cases hq:bl (numT (limb l (l.length-1))) with
   | nil=>exact hn.1 hq
   | cons c r =>
    rw [hq] at hc hn hv
    obtain rfl:c=48:=by simpa using hc
    by_cases hr:1<(48 :: r:List UInt8).length
    ·exact hn.2.2 hr rfl
    ·have:r=[]:=List.eq_nil_of_length_eq_zero (by rw [List.length_cons] at hr; omega)
     subst this
     have:dv [48]=0:=by decide
     omega
  ·rw [q4,hv,← hval,hval2]
   have:((limb l (l.length-1)).toNat:Int)=limb l (l.length-1):=by omega
   rw [this]
   omega
theorem natT_inj {l m:List Lim} (h:Can l) (k:Can m) (e:natT l=natT m):l=m:=by
 refine can_inj h k ?_
 rw [← (natT_num h).2.1,← (natT_num k).2.1,e]
theorem val_app1 (a:List Lim) (x:Int):valN (a++[(x,())])=valN a+x*1000000000 ^ a.length:=by
 unfold valN
 rw [List.length_append]
 show valTo (a++[(x,())]) a.length+limb (a++[(x,())]) a.length*1000000000 ^ a.length=_
 rw [valTo_snoc (Nat.le_refl _),limb_snoc]
theorem dv_part {s:List UInt8} (hs:∀ c∈s,Dg c) (j n:Nat) (hn:n≤9):dv ((s.drop j).take n)<1000000000:=by
 have h1:=dv_lt (l:=(s.drop j).take n) fun c hc=>hs c (List.mem_of_mem_drop (List.mem_of_mem_take hc))
 have h2:10 ^ ((s.drop j).take n).length≤10 ^ 9:=Nat.pow_le_pow_right (by decide) (by rw [List.length_take]; omega)
 have h3:(10:Nat) ^ 9=1000000000:=by decide
 omega
theorem rd_step {s:List UInt8} (hs:∀ c∈s,Dg c) {a:List Lim} {e j:Nat} (he:e+9*a.length=s.length) (ha:Lims a) (hv:valN a=(dv (s.drop e):Int)) (hj:j≤e) (hj9:e-j≤9) :
  Lims (a++[((dv ((s.drop j).take (e-j)):Int),())])∧valN (a++[((dv ((s.drop j).take (e-j)):Int),())])=(dv (s.drop j):Int):=by
 have hb:=dv_part hs j (e-j) hj9
 refine⟨lims_snoc ha ⟨by show(0:Int)≤(dv _:Int); omega,by show(dv _:Int)<1000000000; omega⟩,?_⟩
 have e1:s.drop j=(s.drop j).take (e-j)++s.drop e:=by
  have:s.drop e=(s.drop j).drop (e-j):=by rw [List.drop_drop]; congr 1; omega
  rw [this,List.take_append_drop]
 have e2:(s.drop e).length=9*a.length:=by rw [List.length_drop]; omega
 rw [val_app1,hv]
 conv=>rhs; rw [e1]
 rw [dv_append,e2,Int.natCast_add,Int.natCast_mul,pw9]
 omega
def NatTx (s:ByteArray):Prop:=NumTx (bl s)∧s.size≤450
theorem natTx_no {s:ByteArray} (h:¬ NatTx s) {q:List Lim} (hq:Can q) (h50:q.length≤50):natT q≠s:=fun e=>by
 obtain⟨h1,_,h3,h4⟩:=natT_num hq
 rw [e] at h1 h3 h4
 exact h ⟨h1,by omega⟩
theorem natTx_yes {s:ByteArray} (h:NatTx s) {a:List Lim} (ha:Lims a) (hv:valN a=(dv (bl s):Int)) (hl:9*a.length≤s.size+8):Can (trimL a)∧(trimL a).length≤50∧natT (trimL a)=s:=by
 obtain⟨c1,c2⟩:=trim_can ha
 have hle:(trimL a).length≤a.length:=by unfold trimL; rw [List.length_take]; exact Nat.min_le_right _ _
 refine⟨c1,by have:=h.2; omega,bl_inj ?_⟩
 obtain⟨n1,n2,_⟩:=natT_num c1
 exact num_inj n1 h.1 (by omega)
end Go.Proofs.YtpdfdkccgkieoaaGreatDoor
namespace Go.Proofs.YtpdfdkccgkieoaaGreatDoor
open Sx
set_option maxRecDepth 100000
def cutA (c:UInt8):List UInt8→List UInt8→List (List UInt8)
 | p,[]=>[p]
 | p,x :: r=>if x=c then p :: cutA c [] r else cutA c (p++[x]) r
theorem cutA_ne (c:UInt8):∀ (p l:List UInt8),cutA c p l≠[]
 | p,[]=>by simp [cutA]
 | p,x :: r=>by
  rw [cutA]
  split
  ·simp
  ·exact cutA_ne c _ r
theorem cutA_none {c:UInt8}:∀ {p a:List UInt8},c ∉ a→cutA c p a=[p++a]
 | p,[],_=>by simp [cutA]
 | p,x :: r,h=>by
  have h1:x≠c:=fun e=>h (by simp [e])
  rw [cutA,if_neg h1,cutA_none fun k=>h (List.mem_cons_of_mem _ k)]
  simp
theorem cutA_app {c:UInt8} {b:List UInt8}:∀ {p a:List UInt8},c ∉ a→cutA c p (a++c :: b)=(p++a) :: cutA c [] b
 | p,[],_=>by simp [cutA]
 | p,x :: r,h=>by
  have h1:x≠c:=fun e=>h (by simp [e])
  rw [List.cons_append,cutA,if_neg h1,cutA_app fun k=>h (List.mem_cons_of_mem _ k)]
  simp
def joinC (c:UInt8):List (List UInt8)→List UInt8
 | []=>[]
 | [x]=>x
 | x :: y :: r=>x++c :: joinC c (y :: r)
theorem joinC_cons {c:UInt8} {x:List UInt8} {l:List (List UInt8)} (h:l≠[]):joinC c (x :: l)=x++c :: joinC c l:=by
 cases l with
 | nil=>exact absurd rfl h
 | cons y r=>rfl
theorem joinC_cut (c:UInt8):∀ (p l:List UInt8),joinC c (cutA c p l)=p++l
 | p,[]=>by simp [cutA,joinC]
 | p,x :: r=>by
  rw [cutA]
  split
  ·rename_i e
   rw [joinC_cons (cutA_ne c [] r),joinC_cut c [] r,e]; rfl
  ·rw [joinC_cut c _ r]; simp
theorem cutA_size {c:UInt8}:∀ {p l:List UInt8},∀ x∈cutA c p l,x.length≤p.length+l.length
 | p,[],x,hx=>by
  obtain rfl:x=p:=by simpa [cutA] using hx
  omega
 | p,y :: r,x,hx=>by
  rw [cutA] at hx
  split at hx
  ·rcases List.mem_cons.1 hx with rfl | hx
   ·omega
   ·have:=cutA_size x hx
    simp only [List.length_cons,List.length_nil] at this ⊢; omega
  ·have:=cutA_size x hx
   simp only [List.length_append,List.length_cons,List.length_nil] at this ⊢; omega
theorem cut_join {c:UInt8}:∀ {l:List (List UInt8)},l≠[]→(∀ x∈l,c ∉ x)→cutA c [] (joinC c l)=l
 | [],h,_=>absurd rfl h
 | [x],_,h=>by rw [joinC,cutA_none (h x (by simp))]; simp
 | x :: y :: r,_,h=>by
  rw [joinC,cutA_app (h x (by simp)),cut_join (by simp) fun z hz=>h z (List.mem_cons_of_mem _ hz)]; simp
theorem take_drop_snoc {α:Type} {l:List α} {i f:Nat} (hi:i<l.length) (hf:f≤i):(l.take (i+1)).drop f=(l.take i).drop f++[l[i]]:=by
 rw [List.take_succ_eq_append_getElem hi,List.drop_append_of_le_length (by rw [List.length_take]; omega)]
theorem take_drop_self {α:Type} (l:List α) (i:Nat):(l.take i).drop i=[]:=List.drop_of_length_le (by rw [List.length_take]; omega)
theorem bl_extract (s:ByteArray) (i j:Nat):bl (s.extract i j)=((bl s).take j).drop i:=by
 show(s.extract i j).data.toList=_
 rw [ByteArray.data_extract,Array.toList_extract,List.extract_eq_take_drop,List.take_drop]
 by_cases h:i≤j
 ·rw [show i+(j-i)=j by omega]
 ·rw [List.drop_of_length_le (by rw [List.length_take]; omega),List.drop_of_length_le (by rw [List.length_take]; omega)]
abbrev ofL (l:List UInt8):ByteArray:=⟨l.toArray⟩
theorem bl_of (l:List UInt8):bl (ofL l)=l:=by simp [bl]
theorem of_bl (t:ByteArray):ofL (bl t)=t:=bl_inj (bl_of _)
def cutB (c:UInt8) (s:ByteArray):List Tx:=(cutA c [] (bl s)).map fun l=>(ofL l,())
theorem cutB_pos (c:UInt8) (s:ByteArray):0<(cutB c s).length:=by
 unfold cutB
 rw [List.length_map]
 exact List.length_pos_iff.2 (cutA_ne c [] (bl s))
theorem of_size (l:List UInt8):(ofL l).size=l.length:=by
 rw [← bl_len,bl_of]
theorem cutB_size {c:UInt8} {s:ByteArray} {x:Tx} (h:x∈cutB c s):x.1.size≤s.size:=by
 obtain⟨l,hl,rfl⟩:=List.mem_map.1 h
 have:=cutA_size l hl
 rw [bl_len] at this
 rw [of_size]
 simpa using this
theorem cutB_eq {c:UInt8} {s:ByteArray} {l:List Tx} (h:bl s=joinC c (l.map fun x=>bl x.1)) (h0:l≠[]) (hc:∀ x∈l,c ∉ bl x.1):cutB c s=l:=by
 unfold cutB
 rw [h,cut_join (by simpa using h0) (fun y hy=>by
  obtain⟨x,hx,rfl⟩:=List.mem_map.1 hy
  exact hc x hx),List.map_map]
 refine(List.map_congr_left fun x _=>?_).trans (List.map_id _)
 show(ofL (bl x.1),())=x
 rw [of_bl]
theorem cutB_join (c:UInt8) (s:ByteArray):bl s=joinC c ((cutB c s).map fun x=>bl x.1):=by
 unfold cutB
 rw [List.map_map]
 have:(cutA c [] (bl s)).map ((fun x:Tx=>bl x.1) ∘ fun l=>(ofL l,()))=cutA c [] (bl s):=by
  refine(List.map_congr_left fun x _=>?_).trans (List.map_id _)
  exact bl_of x
 rw [this,joinC_cut]; rfl
end Go.Proofs.YtpdfdkccgkieoaaGreatDoor
namespace Go.Proofs.YtpdfdkccgkieoaaGreatDoor
open Sx
set_option maxRecDepth 100000
theorem natT_head {o:List Lim} (h:Can o):∃ c r,bl (natT o)=c :: r∧Dg c:=by
 obtain⟨h1,_⟩:=natT_num h
 cases hq:bl (natT o) with
 | nil=>exact absurd hq h1.1
 | cons c r =>
  rw [hq] at h1
  exact⟨c,r,rfl,h1.2.1 c (List.mem_cons_self ..)⟩
theorem bl_tail (s:ByteArray):bl (s.extract 1 s.size)=(bl s).tail:=by
 rw [bl_extract,← bl_len,List.take_length,List.drop_one]
end Go.Proofs.YtpdfdkccgkieoaaGreatDoor
