/-
  Lists that grow at their end, in known memory.
-/
import Derived.Test.YtfiakghfncempaaGreatDoorMath
namespace Go.Proofs.YtfiakghfncempaaGreatDoor
open Sx
set_option maxRecDepth 100000
namespace Srt
variable {α:Type}
def Upd (a b:Nat) (Z Z':List α):Prop:=Z'.Perm Z∧Z'.take a=Z.take a∧Z'.drop b=Z.drop b
theorem Upd.rf {a b:Nat} {Z:List α}:Upd a b Z Z:=⟨.refl _,rfl,rfl⟩
theorem Upd.tr {a b:Nat} {Z Y X:List α} (h:Upd a b Z Y) (k:Upd a b Y X):Upd a b Z X:=⟨k.1.trans h.1,k.2.1.trans h.2.1,k.2.2.trans h.2.2⟩
theorem Upd.len {a b:Nat} {Z Y:List α} (h:Upd a b Z Y):Y.length=Z.length:=h.1.length_eq
theorem Upd.lo {a b k:Nat} {Z Y:List α} (h:Upd a b Z Y) (hk:k<a):Y[k]?=Z[k]?:=by
 have:=congrArg (fun l:List α=>l[k]?) h.2.1
 simpa [List.getElem?_take,hk] using this
theorem Upd.hi {a b k:Nat} {Z Y:List α} (h:Upd a b Z Y) (hk:b≤k):Y[k]?=Z[k]?:=by
 have:=congrArg (fun l:List α=>l[k-b]?) h.2.2
 simpa [List.getElem?_drop,show b+(k-b)=k by omega] using this
theorem Upd.mk {a b:Nat} {Z Y:List α} (p:Y.Perm Z) (h1:∀ k,k<a→Y[k]?=Z[k]?) (h2:∀ k,b≤k→Y[k]?=Z[k]?):Upd a b Z Y:=by
 refine⟨p,List.ext_getElem? fun k=>?_,List.ext_getElem? fun k=>?_⟩
 ·rw [List.getElem?_take,List.getElem?_take]
  split
  ·exact h1 k (by assumption)
  ·rfl
 ·rw [List.getElem?_drop,List.getElem?_drop]
  exact h2 _ (by omega)
theorem Upd.mono {a b a' b':Nat} {Z Y:List α} (h:Upd a b Z Y) (ha:a'≤a) (hb:b≤b'):Upd a' b' Z Y :=
 .mk h.1 (fun _ hk=>h.lo (by omega)) fun _ hk=>h.hi (by omega)
def Mem (a b:Nat) (Z:List α) (x:α):Prop:=∃ k,a≤k∧k<b∧Z[k]?=some x
theorem seg_mem {a b:Nat} {Z:List α} {x:α}:x∈(Z.take b).drop a↔Mem a b Z x:=by
 rw [List.mem_iff_getElem?]
 constructor
 ·rintro⟨i,hi⟩
  rw [List.getElem?_drop,List.getElem?_take] at hi
  split at hi
  ·exact⟨a+i,by omega,by assumption,hi⟩
  ·cases hi
 ·rintro⟨k,h1,h2,h3⟩
  refine⟨k-a,?_⟩
  rw [List.getElem?_drop,List.getElem?_take,show a+(k-a)=k by omega,if_pos h2,h3]
theorem seg_split {a b:Nat} (Z:List α) (h:a≤b):Z.take a++((Z.take b).drop a++Z.drop b)=Z:=by
 rw [← List.append_assoc]
 have:Z.take a++(Z.take b).drop a=Z.take b:=by
  have e:(Z.take b).take a=Z.take a:=by rw [List.take_take,Nat.min_eq_left h]
  rw [← e]; exact List.take_append_drop a (Z.take b)
 rw [this,List.take_append_drop]
theorem Upd.mem {a b:Nat} {Z Y:List α} (hab:a≤b) (h:Upd a b Z Y) {x:α}:Mem a b Y x↔Mem a b Z x:=by
 rw [← seg_mem,← seg_mem]
 have p:(Y.take a++((Y.take b).drop a++Y.drop b)).Perm (Z.take a++((Z.take b).drop a++Z.drop b)):=by rw [seg_split Y hab,seg_split Z hab]; exact h.1
 rw [h.2.1,h.2.2] at p
 exact((List.perm_append_right_iff _).1 ((List.perm_append_left_iff _).1 p)).mem_iff
def swp (i j:Nat) (Z:List α):List α:=match Z[i]?,Z[j]? with
 | some x,some y=>(Z.set i y).set j x
 | _,_=>Z
theorem swp_eq {i j:Nat} {Z:List α} (hi:i<Z.length) (hj:j<Z.length):swp i j Z=(Z.set i Z[j]).set j Z[i]:=by
 unfold swp
 rw [List.getElem?_eq_getElem hi,List.getElem?_eq_getElem hj]
theorem swp_at {i j k:Nat} {Z:List α} (hi:i<Z.length) (hj:j<Z.length):(swp i j Z)[k]?=if k=j then Z[i]? else if k=i then Z[j]? else Z[k]?:=by
 rw [swp_eq hi hj,List.getElem?_set,List.getElem?_set,List.length_set,List.getElem?_eq_getElem hi,List.getElem?_eq_getElem hj]
 by_cases h1:k=j
 ·subst h1; simp [hj]
 ·by_cases h2:k=i
  ·subst h2; simp [h1,Ne.symm h1,hi]
  ·simp [h1,h2,Ne.symm h1,Ne.symm h2]
theorem swp_upd {a b i j:Nat} {Z:List α} (hi:i<Z.length) (hj:j<Z.length) (h1:a≤i) (h2:i<b) (h3:a≤j) (h4:j<b):Upd a b Z (swp i j Z) :=
 .mk (by rw [swp_eq hi hj]; exact List.set_set_perm hi hj) (fun k hk=>by rw [swp_at hi hj,if_neg (by omega),if_neg (by omega)]) fun k hk=>by rw [swp_at hi hj,if_neg (by omega),if_neg (by omega)]
variable {lt:α→α→Prop}
def Sr (lt:α→α→Prop) (a b:Nat) (Z:List α):Prop:=∀ i j x y,a≤i→i<j→j<b→Z[i]?=some x→Z[j]?=some y→lt x y
def Lin (lt:α→α→Prop) (Z:List α):Prop:=Z.Pairwise fun x y=>lt x y∨lt y x
theorem Lin.upd {a b:Nat} {Z Y:List α} (h:Lin lt Z) (k:Upd a b Z Y):Lin lt Y:=k.1.symm.pairwise h fun h=>h.symm
theorem Lin.at {Z:List α} (h:Lin lt Z) {i j:Nat} {x y:α} (hij:i≠j) (hx:Z[i]?=some x) (hy:Z[j]?=some y):lt x y∨lt y x:=by
 obtain⟨h1,rfl⟩:=List.getElem?_eq_some_iff.1 hx
 obtain⟨h2,rfl⟩:=List.getElem?_eq_some_iff.1 hy
 have hp:=List.pairwise_iff_getElem.1 h
 rcases Nat.lt_or_gt_of_ne hij with k | k
 ·exact hp i j h1 h2 k
 ·exact(hp j i h2 h1 k).symm
theorem at_ex {Z:List α} {k:Nat} (h:k<Z.length):∃ x,Z[k]?=some x:=⟨_,List.getElem?_eq_getElem h⟩
theorem Sr.one {a:Nat} {Z:List α}:Sr lt a (a+1) Z:=fun i j _ _ _ _ _=>by omega
theorem Sr.nil {a b:Nat} {Z:List α} (h:b≤a):Sr lt a b Z:=fun i j _ _ _ _ _=>by omega
theorem Sr.congr {a b:Nat} {Z Y:List α} (h:Sr lt a b Z) (k:∀ i,a≤i→i<b→Y[i]?=Z[i]?):Sr lt a b Y:=fun i j x y h1 h2 h3 hx hy =>
 h i j x y h1 h2 h3 (by rw [← k i (by omega) (by omega)]; exact hx) (by rw [← k j (by omega) (by omega)]; exact hy)
theorem Sr.join {a m b:Nat} {Z:List α} (h1:Sr lt a m Z) (h2:Sr lt m b Z) (h3:∀ x y,Mem a m Z x→Mem m b Z y→lt x y):Sr lt a b Z:=fun i j x y k1 k2 k3 hx hy=>by
 by_cases hj:j<m
 ·exact h1 i j x y k1 k2 hj hx hy
 ·by_cases hi:i<m
  ·exact h3 x y ⟨i,k1,hi,hx⟩ ⟨j,by omega,k3,hy⟩
  ·exact h2 i j x y (by omega) k2 k3 hx hy
def InsP (lt:α→α→Prop) (a i j:Nat) (Z:List α):Prop:=Sr lt a j Z∧Sr lt j (i+1) Z∧∀ p q x y,a≤p→p<j→j<q→q<i+1→Z[p]?=some x→Z[q]?=some y→lt x y
theorem InsP.start {a i:Nat} {Z:List α} (h:Sr lt a i Z):InsP lt a i i Z:=⟨h,Sr.one,fun p q x y _ _ _ _=>by omega⟩
theorem InsP.step {a i j:Nat} {Z:List α} (h:InsP lt a i j Z) (hj:a<j) (hi:j≤i) (hl:i<Z.length) {x y:α} (hx:Z[j]?=some x) (hy:Z[j-1]?=some y) (hlt:lt x y):InsP lt a i (j-1) (swp j (j-1) Z):=by
 obtain⟨h1,h2,h3⟩:=h
 have at':∀ k,(swp j (j-1) Z)[k]?=if k=j-1 then Z[j]? else if k=j then Z[j-1]? else Z[k]?:=fun k=>swp_at (by omega) (by omega)
 refine⟨fun p q u v k1 k2 k3 hu hv=>?_,fun p q u v k1 k2 k3 hu hv=>?_,fun p q u v k1 k2 k3 k4 hu hv=>?_⟩
 ·rw [at',if_neg (by omega),if_neg (by omega)] at hu hv
  exact h1 p q u v k1 k2 (by omega) hu hv
 ·rw [at'] at hu hv
  rw [if_neg (show ¬ q=j-1 by omega)] at hv
  by_cases e1:p=j-1
  ·rw [if_pos e1,hx] at hu
   cases hu
   by_cases e2:q=j
   ·rw [if_pos e2,hy] at hv
    cases hv; exact hlt
   ·rw [if_neg e2] at hv
    exact h2 j q x v (Nat.le_refl _) (by omega) k3 hx hv
  ·rw [if_neg e1] at hu
   by_cases e2:p=j
   ·rw [if_pos e2,hy] at hu
    cases hu
    rw [if_neg (by omega)] at hv
    exact h3 (j-1) q y v (by omega) (by omega) (by omega) k3 hy hv
   ·rw [if_neg e2] at hu
    rw [if_neg (by omega)] at hv
    exact h2 p q u v (by omega) k2 k3 hu hv
 ·rw [at',if_neg (by omega),if_neg (by omega)] at hu
  rw [at',if_neg (by omega)] at hv
  by_cases e2:q=j
  ·rw [if_pos e2,hy] at hv
   cases hv
   exact h1 p (j-1) u y k1 k2 (by omega) hu hy
  ·rw [if_neg e2] at hv
   exact h3 p q u v k1 (by omega) (by omega) k4 hu hv
theorem InsP.done {a i j:Nat} {Z:List α} (tr:∀ x y z,lt x y→lt y z→lt x z) (lin:Lin lt Z) (h:InsP lt a i j Z) (hi:j≤i) (hl:i<Z.length) (hd:j≤a∨∀ x y,Z[j]?=some x→Z[j-1]?=some y→¬ lt x y):Sr lt a (i+1) Z:=by
 obtain⟨h1,h2,h3⟩:=h
 intro p q u v k1 k2 k3 hu hv
 by_cases hp:p<j
 ·by_cases hq:q<j
  ·exact h1 p q u v k1 k2 hq hu hv
  ·by_cases e:q=j
   ·subst e
    rcases hd with hd | hd
    ·omega
    ·obtain⟨y,hy⟩:=at_ex (Z:=Z) (k:=q-1) (by omega)
     have n:=hd v y hv hy
     have hl2:lt y v:=by
      rcases lin.at (show q-1≠q by omega) hy hv with k | k
      ·exact k
      ·exact absurd k n
     by_cases e2:p=q-1
     ·subst e2
      rw [hy] at hu; cases hu; exact hl2
     ·exact tr _ _ _ (h1 p (q-1) u y k1 (by omega) (by omega) hu hy) hl2
   ·exact h3 p q u v k1 hp (by omega) k3 hu hv
 ·exact h2 p q u v (by omega) k2 k3 hu hv
def MvR (a k:Nat) (Z Y:List α):Prop:=∀ q,Y[q]?=if a≤q∧q<k then Z[q+1]? else if q=k then Z[a]? else Z[q]?
theorem MvR.start {a:Nat} {Z:List α}:MvR a a Z Z:=fun q=>by
 rw [if_neg (by omega)]
 split
 ·subst_vars; rfl
 ·rfl
theorem MvR.step {a k:Nat} {Z Y:List α} (h:MvR a k Z Y) (ha:a≤k) (hk:k+1<Y.length):MvR a (k+1) Z (swp k (k+1) Y):=fun q=>by
 rw [swp_at (by omega) hk]
 by_cases e1:q=k+1
 ·subst e1
  rw [if_pos rfl,if_neg (by omega),if_pos rfl,h k,if_neg (by omega),if_pos rfl]
 ·rw [if_neg e1]
  by_cases e2:q=k
  ·subst e2
   rw [if_pos rfl,if_pos (by omega),h (q+1),if_neg (by omega),if_neg (by omega)]
  ·rw [if_neg e2,if_neg e1,h q,if_neg e2]
   by_cases e3:a≤q∧q<k
   ·rw [if_pos e3,if_pos (by omega)]
   ·rw [if_neg e3,if_neg (by omega)]
def MvL (m k:Nat) (Z Y:List α):Prop:=∀ q,Y[q]?=if k<q∧q≤m then Z[q-1]? else if q=k then Z[m]? else Z[q]?
theorem MvL.start {m:Nat} {Z:List α}:MvL m m Z Z:=fun q=>by
 rw [if_neg (by omega)]
 split
 ·subst_vars; rfl
 ·rfl
theorem MvL.step {m k:Nat} {Z Y:List α} (h:MvL m k Z Y) (h0:0<k) (hk:k≤m) (hl:k<Y.length):MvL m (k-1) Z (swp k (k-1) Y):=fun q=>by
 rw [swp_at hl (by omega)]
 by_cases e1:q=k-1
 ·subst e1
  rw [if_pos rfl,if_neg (by omega),if_pos rfl,h k,if_neg (by omega),if_pos rfl]
 ·rw [if_neg e1]
  by_cases e2:q=k
  ·subst e2
   rw [if_pos rfl,if_pos (by omega),h (q-1),if_neg (by omega),if_neg (by omega)]
  ·rw [if_neg e2,if_neg e1,h q,if_neg e2]
   by_cases e3:k<q∧q≤m
   ·rw [if_pos e3,if_pos (by omega)]
   ·rw [if_neg e3,if_neg (by omega)]
theorem ins_right {a m b i:Nat} {Z Y:List α} (_:∀ x y z,lt x y→lt y z→lt x z) (lin:Lin lt Z) (ham:m=a+1) (hs:Sr lt m b Z) (hi1:m≤i) (hi2:i≤b) (_:b≤Z.length) {x:α} (hx:Z[a]?=some x)
  (hlo:∀ k y,m≤k→k<i→Z[k]?=some y→lt y x) (hhi:∀ k y,i≤k→k<b→Z[k]?=some y→¬ lt y x) (h:MvR a (i-1) Z Y):Sr lt a b Y:=by
 intro p q u v k1 k2 k3 hu hv
 rw [h] at hu hv
 have up:∀ k y,i≤k→k<b→Z[k]?=some y→lt x y:=fun k y h1 h2 h3=>by
  rcases lin.at (show a≠k by omega) hx h3 with g | g
  ·exact g
  ·exact absurd g (hhi k y h1 h2 h3)
 by_cases c1:p<i-1
 ·rw [if_pos ⟨k1,c1⟩] at hu
  by_cases c2:q<i-1
  ·rw [if_pos ⟨by omega,c2⟩] at hv
   exact hs (p+1) (q+1) u v (by omega) (by omega) (by omega) hu hv
  ·rw [if_neg (by omega)] at hv
   by_cases c3:q=i-1
   ·rw [if_pos c3,hx] at hv
    cases hv
    exact hlo (p+1) u (by omega) (by omega) hu
   ·rw [if_neg c3] at hv
    exact hs (p+1) q u v (by omega) (by omega) k3 hu hv
 ·rw [if_neg (by omega)] at hu
  rw [if_neg (by omega),if_neg (by omega)] at hv
  by_cases c3:p=i-1
  ·rw [if_pos c3,hx] at hu
   cases hu
   exact up q v (by omega) k3 hv
  ·rw [if_neg c3] at hu
   exact hs p q u v (by omega) k2 k3 hu hv
theorem ins_left {a m b i:Nat} {Z Y:List α} (_:∀ x y z,lt x y→lt y z→lt x z) (lin:Lin lt Z) (hb:b=m+1) (hs:Sr lt a m Z) (hi1:a≤i) (hi2:i≤m) (_:b≤Z.length) {x:α} (hx:Z[m]?=some x)
  (hlo:∀ k y,a≤k→k<i→Z[k]?=some y→¬ lt x y) (hhi:∀ k y,i≤k→k<m→Z[k]?=some y→lt x y) (h:MvL m i Z Y):Sr lt a b Y:=by
 intro p q u v k1 k2 k3 hu hv
 rw [h] at hu hv
 have dn:∀ k y,a≤k→k<i→Z[k]?=some y→lt y x:=fun k y h1 h2 h3=>by
  rcases lin.at (show k≠m by omega) h3 hx with g | g
  ·exact g
  ·exact absurd g (hlo k y h1 h2 h3)
 by_cases c1:p<i
 ·rw [if_neg (by omega),if_neg (by omega)] at hu
  by_cases c2:q<i
  ·rw [if_neg (by omega),if_neg (by omega)] at hv
   exact hs p q u v k1 k2 (by omega) hu hv
  ·by_cases c3:q=i
   ·rw [if_neg (by omega),if_pos c3,hx] at hv
    cases hv
    exact dn p u k1 c1 hu
   ·rw [if_pos (by omega)] at hv
    exact hs p (q-1) u v k1 (by omega) (by omega) hu hv
 ·rw [if_pos (show i<q∧q≤m by omega)] at hv
  by_cases c3:p=i
  ·rw [if_neg (by omega),if_pos c3,hx] at hu
   cases hu
   exact hhi (q-1) v (by omega) (by omega) hv
  ·rw [if_pos (by omega)] at hu
   exact hs (p-1) (q-1) u v (by omega) (by omega) (by omega) hu hv
def rt {β:Type} (s m e:Nat) (f:Nat→β) (q:Nat):β:=if s≤q∧q<s+(e-m) then f (q+(m-s)) else if s+(e-m)≤q∧q<e then f (q-(e-m)) else f q
def sw {β:Type} (a b i:Nat) (f:Nat→β) (q:Nat):β:=if a≤q∧q<a+i then f (q+(b-a)) else if b≤q∧q<b+i then f (q-(b-a)) else f q
abbrev gt (Z:List α):Nat→Option α:=fun k=>Z[k]?
theorem sw_zero {β:Type} {a b:Nat} {f:Nat→β}:sw a b 0 f=f:=funext fun q=>by
 unfold sw; rw [if_neg (by omega),if_neg (by omega)]
theorem sw_step {a b i n:Nat} {Z Y:List α} (hab:a+n≤b) (hi:i<n) (hb:b+n≤Y.length) (h:gt Y=sw a b i (gt Z)):gt (swp (a+i) (b+i) Y)=sw a b (i+1) (gt Z):=funext fun q=>by
 show(swp (a+i) (b+i) Y)[q]?=_
 have h':∀ k,Y[k]?=sw a b i (gt Z) k:=fun k=>congrFun h k
 rw [swp_at (by omega) (by omega),h',h',h']
 unfold sw
 by_cases e1:q=b+i
 ·subst e1
  rw [if_pos rfl,if_neg (by omega),if_neg (by omega),if_neg (by omega),if_pos (by omega)]
  congr 1; omega
 ·rw [if_neg e1]
  by_cases e2:q=a+i
  ·subst e2
   rw [if_pos rfl,if_neg (by omega),if_neg (by omega),if_pos (by omega)]
   congr 1; omega
  ·rw [if_neg e2]
   by_cases e3:a≤q∧q<a+i
   ·rw [if_pos e3,if_pos (by omega)]
   ·rw [if_neg e3,if_neg (show ¬ (a≤q∧q<a+(i+1)) by omega)]
    by_cases e4:b≤q∧q<b+i
    ·rw [if_pos e4,if_pos (by omega)]
    ·rw [if_neg e4,if_neg (by omega)]
theorem rt_hi {β:Type} {m i j:Nat} {f:Nat→β} (h:j<i) (hi:i≤m) (hj:0<j):rt (m-(i-j)) m (m+j) (sw (m-i) m j f)=rt (m-i) m (m+j) f:=funext fun q=>by
 unfold rt
 rw [show m-(m-(i-j))=i-j by omega,show m+j-m=j by omega,show m-(m-i)=i by omega]
 unfold sw
 rw [show m-(m-i)=i by omega]
 by_cases c1:q<m-i
 ·rw [if_neg (by omega),if_neg (by omega),if_neg (by omega),if_neg (by omega),if_neg (by omega),if_neg (by omega)]
 by_cases c2:q<m-i+j
 ·rw [if_neg (by omega),if_neg (by omega),if_pos (by omega),if_pos (by omega)]
 by_cases c3:q<m-i+j+j
 ·by_cases c4:m+j≤q
  ·omega
  rw [if_pos (by omega)]
  by_cases c5:m≤q+(i-j)
  ·rw [if_neg (by omega),if_pos (by omega),if_neg (by omega),if_pos (by omega)]
   congr 1; omega
  ·omega
 by_cases c4:q<m+j
 ·rw [if_neg (by omega),if_pos (by omega)]
  rw [if_neg (by omega),if_neg (by omega),if_neg (by omega),if_pos (by omega)]
 ·rw [if_neg (by omega),if_neg (by omega),if_neg (by omega),if_neg (by omega),if_neg (by omega),if_neg (by omega)]
theorem rt_lo {β:Type} {m i j:Nat} {f:Nat→β} (h:i<j) (hi:i≤m) (hi0:0<i):rt (m-i) m (m+(j-i)) (sw (m-i) (m+j-i) i f)=rt (m-i) m (m+j) f:=funext fun q=>by
 unfold rt
 rw [show m-(m-i)=i by omega,show m+(j-i)-m=j-i by omega,show m+j-m=j by omega]
 unfold sw
 rw [show m+j-i-(m-i)=j by omega]
 by_cases c1:q<m-i
 ·rw [if_neg (by omega),if_neg (by omega),if_neg (by omega),if_neg (by omega),if_neg (by omega),if_neg (by omega)]
 by_cases c2:q<m-i+(j-i)
 ·rw [if_pos (by omega),if_neg (by omega),if_neg (by omega),if_pos (by omega)]
 by_cases c3:q<m+(j-i)
 ·rw [if_neg (by omega),if_pos (by omega),if_pos (by omega),if_pos (by omega)]
  congr 1; omega
 by_cases c4:q<m+j
 ·rw [if_neg (by omega),if_neg (by omega),if_neg (by omega),if_pos (by omega),if_neg (by omega),if_pos (by omega)]
 ·rw [if_neg (by omega),if_neg (by omega),if_neg (by omega),if_neg (by omega),if_neg (by omega),if_neg (by omega)]
theorem rt_eq {β:Type} {m i:Nat} {f:Nat→β} (hi:i≤m):sw (m-i) m i f=rt (m-i) m (m+i) f:=funext fun q=>by
 unfold rt sw
 rw [show m-(m-i)=i by omega,show m+i-m=i by omega,show m-i+i=m by omega]
theorem halves {a s m e b:Nat} {Z Y:List α} (tr:∀ x y z,lt x y→lt y z→lt x z) (h1:Sr lt a m Z) (h2:Sr lt m b Z) (has:a≤s) (hsm:s≤m) (hme:m≤e) (heb:e≤b)
  (hL:∀ x y,a<s→e<b→Z[s-1]?=some x→Z[e]?=some y→lt x y) (hR:∀ x y,s<m→m<e→Z[e-1]?=some x→Z[s]?=some y→lt x y) (hb:b≤Z.length) (h:gt Y=rt s m e (gt Z)) :
  Sr lt a s Y∧Sr lt s (s+(e-m)) Y∧Sr lt (s+(e-m)) e Y∧Sr lt e b Y∧∀ x y,Mem a (s+(e-m)) Y x→Mem (s+(e-m)) b Y y→lt x y:=by
 have g:∀ k,Y[k]?=rt s m e (gt Z) k:=fun k=>congrFun h k
 have gl:∀ k,k<s→Y[k]?=Z[k]?:=fun k hk=>by rw [g]; unfold rt; rw [if_neg (by omega),if_neg (by omega)]
 have g1:∀ k,s≤k→k<s+(e-m)→Y[k]?=Z[k+(m-s)]?:=fun k h1 h2=>by rw [g]; unfold rt; rw [if_pos ⟨h1,h2⟩]
 have g2:∀ k,s+(e-m)≤k→k<e→Y[k]?=Z[k-(e-m)]?:=fun k h1 h2=>by rw [g]; unfold rt; rw [if_neg (by omega),if_pos ⟨h1,h2⟩]
 have gh:∀ k,e≤k→Y[k]?=Z[k]?:=fun k hk=>by rw [g]; unfold rt; rw [if_neg (by omega),if_neg (by omega)]
 -- left of the search,right of it
 have lr:∀ i j x y,a≤i→i<s→e≤j→j<b→Z[i]?=some x→Z[j]?=some y→lt x y:=fun i j x y k1 k2 k3 k4 hx hy=>by
  obtain⟨u,hu⟩:=at_ex (Z:=Z) (k:=s-1) (by omega)
  obtain⟨v,hv⟩:=at_ex (Z:=Z) (k:=e) (by omega)
  have c:=hL u v (by omega) (by omega) hu hv
  have c1:i=s-1∧x=u∨lt x u:=by
   by_cases q:i=s-1
   ·subst q; rw [hu] at hx; cases hx; exact .inl ⟨rfl,rfl⟩
   ·exact .inr (h1 i (s-1) x u k1 (by omega) (by omega) hx hu)
  have c2:y=v∨lt v y:=by
   by_cases q:j=e
   ·subst q; rw [hv] at hy; cases hy; exact .inl rfl
   ·exact .inr (h2 e j v y (by omega) (by omega) k4 hv hy)
  have c3:lt x v:=by
   rcases c1 with ⟨_,rfl⟩ | c1
   ·exact c
   ·exact tr _ _ _ c1 c
  rcases c2 with rfl | c2
  ·exact c3
  ·exact tr _ _ _ c3 c2
 have rl:∀ i j x y,m≤i→i<e→s≤j→j<m→Z[i]?=some x→Z[j]?=some y→lt x y:=fun i j x y k1 k2 k3 k4 hx hy=>by
  obtain⟨u,hu⟩:=at_ex (Z:=Z) (k:=e-1) (by omega)
  obtain⟨v,hv⟩:=at_ex (Z:=Z) (k:=s) (by omega)
  have c:=hR u v (by omega) (by omega) hu hv
  have c1:x=u∨lt x u:=by
   by_cases q:i=e-1
   ·subst q; rw [hu] at hx; cases hx; exact .inl rfl
   ·exact .inr (h2 i (e-1) x u k1 (by omega) (by omega) hx hu)
  have c2:y=v∨lt v y:=by
   by_cases q:j=s
   ·subst q; rw [hv] at hy; cases hy; exact .inl rfl
   ·exact .inr (h1 s j v y has (by omega) k4 hv hy)
  have c3:lt x v:=by
   rcases c1 with rfl | c1
   ·exact c
   ·exact tr _ _ _ c1 c
  rcases c2 with rfl | c2
  ·exact c3
  ·exact tr _ _ _ c3 c2
 refine⟨fun i j x y k1 k2 k3 hx hy=>?_,fun i j x y k1 k2 k3 hx hy=>?_,fun i j x y k1 k2 k3 hx hy=>?_,fun i j x y k1 k2 k3 hx hy=>?_,?_⟩
 ·rw [gl _ (by omega)] at hx hy
  exact h1 i j x y k1 k2 (by omega) hx hy
 ·rw [g1 _ (by omega) (by omega)] at hx hy
  exact h2 _ _ x y (by omega) (by omega) (by omega) hx hy
 ·rw [g2 _ (by omega) (by omega)] at hx hy
  exact h1 _ _ x y (by omega) (by omega) (by omega) hx hy
 ·rw [gh _ (by omega)] at hx hy
  exact h2 i j x y (by omega) k2 k3 hx hy
 ·rintro x y ⟨i,k1,k2,hx⟩ ⟨j,k3,k4,hy⟩
  by_cases c1:i<s
  ·rw [gl _ c1] at hx
   by_cases c2:j<e
   ·rw [g2 _ k3 c2] at hy
    exact h1 i (j-(e-m)) x y k1 (by omega) (by omega) hx hy
   ·rw [gh _ (by omega)] at hy
    exact lr i j x y k1 c1 (by omega) k4 hx hy
  ·rw [g1 _ (by omega) k2] at hx
   by_cases c2:j<e
   ·rw [g2 _ k3 c2] at hy
    exact rl _ _ x y (by omega) (by omega) (by omega) (by omega) hx hy
   ·rw [gh _ (by omega)] at hy
    exact h2 _ j x y (by omega) (by omega) k4 hx hy
end Srt
end Go.Proofs.YtfiakghfncempaaGreatDoor
namespace Go.Proofs.YtfiakghfncempaaGreatDoor
open Sx
set_option maxRecDepth 100000
def Bf (r:Nat→Int) (i j:Nat):Prop:=r j<r i∨(r i=r j∧i<j)
theorem Bf.tr {r:Nat→Int} {i j k:Nat} (h:Bf r i j) (h':Bf r j k):Bf r i k:=by unfold Bf at *; omega
theorem Bf.irr {r:Nat→Int} {i j:Nat} (h:Bf r i j) (h':Bf r j i):False:=by unfold Bf at *; omega
theorem Bf.tot {r:Nat→Int} {i j:Nat} (h:i≠j):Bf r i j∨Bf r j i:=by unfold Bf; omega
def cnt (C:Nat→Bool):Nat→Nat
 | 0=>0
 | n+1=>cnt C n+(if C n=true then 1 else 0)
theorem cnt_congr {C C':Nat→Bool}:∀ {n:Nat},(∀ i,i<n→C i=C' i)→cnt C n=cnt C' n
 | 0,_=>rfl
 | n+1,h=>by
  unfold cnt
  rw [cnt_congr fun i hi=>h i (by omega),h n (by omega)]
theorem cnt_mono {C C':Nat→Bool}:∀ {n:Nat},(∀ i,i<n→C i=true→C' i=true)→cnt C n≤cnt C' n
 | 0,_=>Nat.le_refl _
 | n+1,h=>by
  have h1:=cnt_mono (n:=n) fun i hi=>h i (by omega)
  unfold cnt
  by_cases k:C n=true
  ·rw [if_pos k,if_pos (h n (by omega) k)]; omega
  ·rw [if_neg k]; split <;> omega
theorem cnt_lt {C C':Nat→Bool}:∀ {n:Nat},(∀ i,i<n→C i=true→C' i=true)→(∃ i,i<n∧C i=false∧C' i=true)→cnt C n<cnt C' n
 | 0,_,⟨i,h,_⟩=>absurd h (Nat.not_lt_zero i)
 | n+1,h,⟨i,hi,h1,h2⟩=>by
  unfold cnt
  by_cases k:i=n
  ·subst k
   have:=cnt_mono (n:=i) fun j hj=>h j (by omega)
   rw [h1,h2,if_pos rfl]
   simp only [Bool.false_eq_true,if_false]
   omega
  ·have:=cnt_lt (n:=n) (fun j hj=>h j (by omega)) ⟨i,by omega,h1,h2⟩
   by_cases q:C n=true
   ·rw [if_pos q,if_pos (h n (by omega) q)]; omega
   ·rw [if_neg q]; split <;> omega
def put1 (C:Nat→Bool) (b:Nat):Nat→Bool:=fun i=>if i=b then true else C i
theorem cnt_put {C:Nat→Bool} {b:Nat} (hC:C b=false):∀ {n:Nat},b<n→cnt (put1 C b) n=cnt C n+1
 | 0,h=>absurd h (Nat.not_lt_zero b)
 | n+1,h=>by
  unfold cnt
  by_cases k:b=n
  ·subst k
   have e:cnt (put1 C b) b=cnt C b:=cnt_congr fun i hi=>by unfold put1; rw [if_neg (by omega)]
   have e2:put1 C b b=true:=if_pos rfl
   rw [e,e2,hC,if_pos rfl]
   simp
  ·have e2:put1 C b n=C n:=if_neg (fun e=>k e.symm)
   rw [cnt_put hC (by omega:b<n),e2]
   omega
def Pick (r:Nat→Int) (n k:Nat) (C:Nat→Bool):Prop:=cnt C n=k∧∀ i j,i<n→j<n→C i=true→C j=false→Bf r i j
theorem pick_one {r:Nat→Int} {n k:Nat} {C C':Nat→Bool} (h:Pick r n k C) (h':Pick r n k C'):∀ i,i<n→C i=C' i:=by
 have key:∀ {D D':Nat→Bool},Pick r n k D→Pick r n k D'→∀ i,i<n→D i=true→D' i=true:=fun {D D'} p p' i hi hd=>by
  refine Classical.byContradiction fun hq=>?_
  have hq':D' i=false:=by cases e:D' i with
   | true=>exact absurd e hq
   | false=>rfl
  by_cases hs:∀ j,j<n→D' j=true→D j=true
  ·have:=cnt_lt hs ⟨i,hi,hq',hd⟩
   have e1:=p.1
   have e2:=p'.1
   omega
  ·obtain⟨j,hj⟩:=Classical.not_forall.1 hs
   obtain⟨hj1,hj2⟩:=Classical.not_imp.1 hj
   obtain⟨hj3,hj4⟩:=Classical.not_imp.1 hj2
   have hj5:D j=false:=by cases e:D j with
    | true=>exact absurd e hj4
    | false=>rfl
   exact(p.2 i j hi hj1 hd hj5).irr (p'.2 j i hj1 hi hj3 hq')
 intro i hi
 cases e:C i with
 | true=>exact(key h h' i hi e).symm
 | false =>
  cases e':C' i with
  | true=>rw [key h' h i hi e'] at e; cases e
  | false=>rfl
theorem pick_zero {r:Nat→Int} {n:Nat}:Pick r n 0 (fun _=>false):=by
 refine⟨?_,fun i j _ _ h=>by cases h⟩
 induction n with
 | zero=>rfl
 | succ n ih=>unfold cnt; rw [ih]; rfl
theorem pick_put {r:Nat→Int} {n k b:Nat} {C:Nat→Bool} (h:Pick r n k C) (hb:b<n) (hC:C b=false) (hf:∀ j,j<n→C j=false→j≠b→Bf r b j):Pick r n (k+1) (put1 C b):=by
 refine⟨by rw [cnt_put hC hb,h.1],fun i j hi hj h1 h2=>?_⟩
 unfold put1 at h1 h2
 split at h2
 ·cases h2
 rename_i hjb
 split at h1
 ·rename_i e
  rw [e]
  exact hf j hj h2 hjb
 ·exact h.2 i j hi hj h1 h2
def sm (r:Nat→Int):Nat→Int
 | 0=>0
 | n+1=>sm r n+r n
theorem sm_congr {r r':Nat→Int}:∀ {n:Nat},(∀ i,i<n→r i=r' i)→sm r n=sm r' n
 | 0,_=>rfl
 | n+1,h=>by
  unfold sm
  rw [sm_congr fun i hi=>h i (by omega),h n (by omega)]
theorem sm_add (r r':Nat→Int):∀ n,sm (fun i=>r i+r' i) n=sm r n+sm r' n
 | 0=>rfl
 | n+1=>by
  unfold sm
  rw [sm_add r r' n]
  omega
theorem sm_mul (r:Nat→Int) (d:Int):∀ n,sm (fun i=>d*r i) n=d*sm r n
 | 0=>by simp [sm]
 | n+1=>by
  unfold sm
  rw [sm_mul r d n,Int.mul_add]
theorem sm_nn {r:Nat→Int}:∀ {n:Nat},(∀ i,i<n→0≤r i)→0≤sm r n
 | 0,_=>Int.le_refl _
 | n+1,h=>by
  have h1:=sm_nn (n:=n) fun i hi=>h i (by omega)
  have h2:=h n (by omega)
  unfold sm
  omega
theorem sm_cnt {r:Nat→Int} {C:Nat→Bool} {D:Int} (hD:0<D):∀ {n:Nat},(∀ i,i<n→0≤r i∧r i<D)→(∀ i,i<n→C i=false→r i=0)→sm r n≤D*(cnt C n:Int)∧(sm r n=D*(cnt C n:Int)→cnt C n=0)
 | 0,_,_=>⟨by simp [sm,cnt],fun _=>rfl⟩
 | n+1,h,hz=>by
  obtain⟨h1,h2⟩:=sm_cnt hD (n:=n) (fun i hi=>h i (by omega)) fun i hi=>hz i (by omega)
  have h3:=h n (by omega)
  unfold sm cnt
  cases e:C n with
  | true =>
   rw [if_pos rfl]
   have e2:D*((cnt C n+1:Nat):Int)=D*(cnt C n:Int)+D:=by
    rw [Int.natCast_add,Int.mul_add]; simp
   rw [e2]
   exact⟨by omega,fun k=>by omega⟩
  | false =>
   rw [hz n (by omega) e]
   simp only [Bool.false_eq_true,if_false,Nat.add_zero,Int.add_zero]
   exact⟨h1,h2⟩
theorem pick_left {r:Nat→Int} {n k left:Nat} {C:Nat→Bool} {D:Int} (hD:0<D) (hr:∀ i,i<n→0≤r i∧r i<D) (hs:sm r n=D*(left:Int)) (h:Pick r n k C) (hk:k<left):∃ i,i<n∧C i=false∧0<r i:=by
 refine Classical.byContradiction fun hn=>?_
 have hz:∀ i,i<n→C i=false→r i=0:=fun i hi hc=>by
  have h1:=hr i hi
  refine Classical.byContradiction fun q=>hn ⟨i,hi,hc,by omega⟩
 have h1:=(sm_cnt hD hr hz).1
 rw [hs,h.1] at h1
 have h2:(k:Int)<(left:Int):=by omega
 have h3:=Int.mul_lt_mul_of_pos_left h2 hD
 omega
theorem pick_pos {r:Nat→Int} {n left:Nat} {C:Nat→Bool} {D:Int} (hD:0<D) (hr:∀ i,i<n→0≤r i∧r i<D) (hs:sm r n=D*(left:Int)) (h:Pick r n left C) {i:Nat} (hi:i<n) (hc:C i=true):0<r i:=by
 have h1:=hr i hi
 refine Classical.byContradiction fun q=>?_
 have e0:r i=0:=by omega
 have hz:∀ j,j<n→C j=false→r j=0:=fun j hj hcj=>by
  have h2:=hr j hj
  rcases h.2 i j hi hj hc hcj with k | k <;> omega
 obtain⟨_,h3⟩:=sm_cnt hD hr hz
 have h4:=h3 (by rw [hs,h.1])
 have h5:0<cnt C n:=by
  have hlt:=cnt_lt (C:=fun _=>false) (C':=C) (n:=n) (fun j _ hj=>by cases hj) ⟨i,hi,rfl,hc⟩
  omega
 omega
theorem rest_sum {A D:Int} {w:Nat→Int} {n:Nat} (hD:sm w n=D) (_:0<D):sm (fun i=>A*w i % D) n=D*(A-sm (fun i=>A*w i / D) n):=by
 have h1:sm (fun i=>A*w i) n=A*D:=by rw [sm_mul,hD]
 have h2:sm (fun i=>A*w i) n=sm (fun i=>D*(A*w i / D)) n+sm (fun i=>A*w i % D) n:=by
  rw [← sm_add]
  exact sm_congr fun i _=>(Int.mul_ediv_add_emod (A*w i) D).symm
 rw [h1,sm_mul] at h2
 rw [Int.mul_sub,Int.mul_comm D A]
 omega
end Go.Proofs.YtfiakghfncempaaGreatDoor
namespace Go.Proofs.YtfiakghfncempaaGreatDoor
open Sx
def apD (s:SlV) (sz bytes:Nat) (ys:List Value) (m:Nat) (t:TypeId) (k:SlV→T):T:=.ap s sz bytes ys m t k
theorem ap_d (s:SlV) (sz bytes:Nat) (ys:List Value) (m:Nat) (t:TypeId) (k:SlV→T):T.ap s sz bytes ys m t k=apD s sz bytes ys m t k:=rfl
section
variable {sh:List Sc} {α:Type}
def GR (r:Rp sh α) (t:TypeId) (V:Know) (s:SlV) (l:List α) (f:List Nat):Prop :=
 s.n=l.length∧s.n≤s.c∧((s.a=none∧s.c=0∧l=[]∧f=[]) ∨
  ∃ b fps cs post,s.a=some ⟨b,0,none⟩∧V b=some (cs.flatMap (Scs.vals sh)++post,(t,(0,0)))∧post.length=(s.c-s.n)*sh.length∧Els r V cs l fps∧f=b :: fps)
theorem GR.nil {r:Rp sh α} {t:TypeId} {V:Know}:GR r t V ⟨none,0,0⟩ [] []:=⟨rfl,Nat.le_refl _,.inl ⟨rfl,rfl,rfl,rfl⟩⟩
theorem GR.lr {r:Rp sh α} {t:TypeId} {V:Know} {s:SlV} {l:List α} {f:List Nat} (h:GR r t V s l f) (hn:l.length≤9223372036854775807):LR r V s l f:=by
 obtain⟨h1,h2,h3⟩:=h
 refine⟨h1,h2,by omega,?_⟩
 rcases h3 with ⟨ha,hc,rfl,rfl⟩ | ⟨b,fps,cs,post,ha,hb,hp,he,rfl⟩
 ·exact .inl ⟨h1,fun _=>hc,rfl⟩
 ·exact .inr ⟨b,[],post,_,fps,cs,ha,hb,he,rfl⟩
theorem GR.loc {r:Rp sh α} {t:TypeId} {V V':Know} {s:SlV} {l:List α} {f:List Nat} (h:GR r t V s l f) (hb:∀ b∈f,V' b=V b):GR r t V' s l f:=by
 obtain⟨h1,h2,h3⟩:=h
 refine⟨h1,h2,?_⟩
 rcases h3 with h3 | ⟨b,fps,cs,post,ha,hv,hp,he,rfl⟩
 ·exact .inl h3
 ·exact .inr ⟨b,fps,cs,post,ha,by rw [hb b (by simp),hv],hp,he.loc fun x hx=>hb x (by simp [hx]),rfl⟩
theorem GR.le {r:Rp sh α} {t:TypeId} {V V':Know} {s:SlV} {l:List α} {f:List Nat} (h:GR r t V s l f) (hle:V.le V'):GR r t V' s l f:=by
 obtain⟨h1,h2,h3⟩:=h
 refine⟨h1,h2,?_⟩
 rcases h3 with h3 | ⟨b,fps,cs,post,ha,hb,hp,he,rfl⟩
 ·exact .inl h3
 ·exact .inr ⟨b,fps,cs,post,ha,hle _ _ hb,hp,he.le hle,rfl⟩
theorem ap_row {P:Program} {r:Rp sh α} {t:TypeId} {V0 V Vd:Know} {s:SlV} {l:List α} {f fx:List Nat} {c:Scs sh} {x:α} {bytes:Nat} {k:SlV→T} {K:Know→List Value→Prop} {Ns:List (List LV→Know→Prop)}
  (h:GR r t V s l f) (hx:r.R V c x fx) (hO:Own V0 V (f++fx)) (hle:V0.le V) (hP:P.cellsOf t=sh.length)
  (hb:(l.length+1)*bytes≤140737488355328) (hl:l.length+1≤9223372036854775807)
  (hk:∀ s' V' f',GR r t V' s' (l++[x]) f'→Own V0 V' f'→V0.le V'→(k s').wp P K V' Vd Ns) :
  (T.ap s sh.length bytes (Scs.vals sh c) 1 t k).wp P K V Vd Ns:=by
 obtain⟨h1,h2,h3⟩:=h
 simp only [T.wp]
 refine⟨h2,fun ha=>?_,fun h=>absurd h (by decide),fun _ hroom=>?_,fun _ hroom=>⟨by rw [h1]; exact hb,by rw [h1]; exact hl,?_⟩⟩
 ·rcases h3 with ⟨_,hc,_⟩ | ⟨b,fps,cs,post,ha',_⟩
  ·exact hc
  ·rw [ha] at ha'; cases ha'
 ·rcases h3 with ⟨_,hc,_⟩ | ⟨b,fps,cs,post,ha,hbk,hp,he,rfl⟩
  ·omega
  have hcl:cs.length=l.length:=he.len
  have hfl:(cs.flatMap (Scs.vals sh)).length=s.n*sh.length:=by rw [flat_len,hcl,h1]
  have hpl:sh.length≤post.length:=by
   rw [hp]; exact Nat.le_mul_of_pos_left _ (by omega)
  have hset:setl (cs.flatMap (Scs.vals sh)++post) (s.n*sh.length) (Scs.vals sh c)=(cs++[c]).flatMap (Scs.vals sh)++post.drop sh.length:=by
   rw [setl_mid hfl.symm (by rw [vals_len]; exact hpl),vals_len]
   simp
  have hnd:b ∉ fps∧b ∉ fx:=by
   have:=hO.1
   simp only [List.cons_append,List.nodup_cons,List.mem_append,not_or] at this
   exact this.1
  have hoff:∀ (y:List Value × KTy) (g:List Nat),b ∉ g→∀ b'∈g,kset V b y b'=V b':=fun y g hg b' hb'=>by
   simp only [kset]; rw [if_neg (fun e:b'=b=>hg (by rw [← e]; exact hb'))]
  refine⟨b,_,ha,hbk,?_,?_⟩
  ·rw [List.length_append,hfl,hp,← Nat.add_mul]
   exact Nat.mul_le_mul_right _ (by omega)
  ·rw [hset]
   refine hk _ _ (b :: (fps++fx)) ⟨by simp [h1],by show s.n+1≤s.c; omega,.inr ⟨b,fps++fx,cs++[c],post.drop sh.length,ha,kset_same,?_,?_,rfl⟩⟩ ⟨by simpa using hO.1,by simpa using hO.2.1,?_⟩ ?_
   ·rw [List.length_drop,hp,← Nat.sub_one_mul]
    congr 1
   ·exact(he.loc (hoff _ _ hnd.1)).snoc (r.loc hx (hoff _ _ hnd.2))
   ·intro b' hb'
    rcases List.mem_cons.1 hb' with rfl | hb'
    ·exact⟨_,_,kset_same⟩
    ·have hne:b'≠b:=fun e=>by
      rw [e] at hb'
      rcases List.mem_append.1 hb' with h | h
      ·exact hnd.1 h
      ·exact hnd.2 h
     obtain⟨u,v,huv⟩:=hO.2.2 b' (by simp only [List.cons_append,List.mem_cons]; exact .inr hb')
     exact⟨u,v,by simp only [kset]; rw [if_neg hne]; exact huv⟩
   ·intro b' y hy
    have hne:b'≠b:=fun e=>by
     subst e
     have:=hO.2.1 b' (by simp)
     rw [this] at hy; cases hy
    simp only [kset]; rw [if_neg hne]; exact hle b' y hy
 ·have hgo:∀ (cs:List (Scs sh)) (fps:List Nat),Els r V cs l fps→(∀ b∈fps,b∈f)→fps.Nodup→(∀ b∈fps,b ∉ fx) →
    ∀ b cap spare,V b=none→s.n+1≤cap→spare.length=(cap-(s.n+1))*P.cellsOf t →
    (k ⟨some ⟨b,0,none⟩,s.n+1,cap⟩).wp P K (kset V b ((cs.flatMap (Scs.vals sh)++Scs.vals sh c)++spare,(t,(0,0)))) Vd Ns:=by
   intro cs fps he hsub hnd hdis b cap spare hbn hcap hsp
   have hV:=kset_le (x:=((cs.flatMap (Scs.vals sh)++Scs.vals sh c)++spare,(t,(0,0)))) hbn
   have hin:∀ b'∈fps++fx,b'∈f++fx:=fun b' hb'=>by
    rcases List.mem_append.1 hb' with h | h
    ·exact List.mem_append.2 (.inl (hsub b' h))
    ·exact List.mem_append.2 (.inr h)
   have hn:b ∉ fps++fx:=fun hm=>by
    obtain⟨u,v,huv⟩:=hO.2.2 b (hin b hm)
    rw [hbn] at huv; cases huv
   refine hk _ _ (b :: (fps++fx)) ⟨by simp [h1],hcap,.inr ⟨b,fps++fx,cs++[c],spare,rfl,?_,by rw [hsp,hP],(he.le hV).snoc (r.le hx hV),rfl⟩⟩ ⟨List.nodup_cons.2 ⟨hn,?_⟩,fun b' hb'=>?_,fun b' hb'=>?_⟩ (hle.trans hV)
   ·rw [kset_same]; simp
   ·have:=List.nodup_append.1 hO.1
    exact List.nodup_append.2 ⟨hnd,this.2.1,fun a ha b hb e=>hdis a ha (e ▸ hb)⟩
   ·rcases List.mem_cons.1 hb' with rfl | hb'
    ·exact none_of_le hle hbn
    ·exact hO.2.1 b' (hin b' hb')
   ·rcases List.mem_cons.1 hb' with rfl | hb'
    ·exact⟨_,_,kset_same⟩
    ·obtain⟨u,v,huv⟩:=hO.2.2 b' (hin b' hb')
     exact⟨u,v,hV _ _ huv⟩
  rcases h3 with ⟨ha,hc,rfl,rfl⟩ | ⟨b,fps,cs,post,ha,hbk,hp,he,rfl⟩
  ·exact⟨[],.inl ⟨ha,h1,hc,rfl⟩,rfl,fun b cap spare hb hcap hsp=>by
    have:=hgo [] [] rfl (fun _ h=>by cases h) List.nodup_nil (fun _ h=>by cases h) b cap spare hb hcap hsp
    simpa using this⟩
  ·have hcl:cs.length=l.length:=he.len
   have hfl:(cs.flatMap (Scs.vals sh)).length=s.n*sh.length:=by rw [flat_len,hcl,h1]
   have hnt:∀ cs:List (Scs sh),noTup (cs.flatMap (Scs.vals sh))=true:=fun cs=>by
    induction cs with
    | nil=>rfl
    | cons c cs ih =>
     have hv:=vals_noTup sh c
     unfold noTup at ih hv ⊢
     rw [List.flatMap_cons,List.all_append,hv,ih]; rfl
   refine⟨_,.inr ⟨⟨b,0,none⟩,ha,?_⟩,hnt cs,hgo cs fps he (fun b' hb'=>by simp [hb']) ?_ ?_⟩
   ·simp only [loadV,hbk]
    rw [← hfl]; exact cutv_head
   ·have:=List.nodup_append.1 hO.1
    exact(List.nodup_cons.1 this.1).2
   ·have:=List.nodup_append.1 hO.1
    exact fun b' hb' hx'=>this.2.2 b' (by simp [hb']) b' hx' rfl
def CopyI (e:Rp sh α) (t:TypeId) (V0:Know) (l:List α) (i:Int) (s:SlV) (V:Know):Prop :=
 V0.le V∧∃ (k:Nat) (f:List Nat),i=(k:Int)∧k≤l.length∧GR e t V s (l.take k) f∧Own V0 V f
theorem CopyI.start {e:Rp sh α} {t:TypeId} {V:Know} {l:List α}:CopyI e t V l 0 ⟨none,0,0⟩ V:=⟨Know.le.refl _,0,[],rfl,Nat.zero_le _,by simpa using GR.nil,Own.nil⟩
theorem CopyI.start_made {e:Rp sh α} {t:TypeId} {V0 V:Know} {l:List α} {b cap:Nat} {spare:List Value} (hle:V0.le V) (hb:V b=none) (hs:spare.length=cap*sh.length) :
  CopyI e t V0 l 0 ⟨some ⟨b,0,none⟩,0,cap⟩ (kset V b ([]++spare,(t,(0,0)))):=by
 have hV:=kset_le (x:=([]++spare,(t,(0,0)))) hb
 refine⟨hle.trans hV,0,[b],rfl,Nat.zero_le _,⟨by simp,Nat.zero_le _,.inr ⟨b,[],[],spare,rfl,by rw [kset_same]; simp,by simpa using hs,by simp [Els],rfl⟩⟩,⟨by simp,fun b' hb'=>?_,fun b' hb'=>?_⟩⟩
 ·obtain rfl:b'=b:=by simpa using hb'
  exact none_of_le hle hb
 ·obtain rfl:b'=b:=by simpa using hb'
  exact⟨_,_,kset_same⟩
theorem copy_end {P:Program} {e:Rp sh α} {t:TypeId} {V0 V V2 Vd:Know} {l:List α} {k:Nat} {s:SlV} {c:Scs sh} {fx:List Nat} {bytes:Nat} {kk:SlV→T} {K:Know→List Value→Prop} {Ns:List (List LV→Know→Prop)}
  (h:CopyI e t V0 l (k:Int) s V) (hk:k<l.length) (hle2:V.le V2) (hR:e.R V2 c l[k] fx) (hO:Own V V2 fx) (hP:P.cellsOf t=sh.length)
  (hb:l.length*bytes≤140737488355328) (hl:l.length≤9223372036854775807)
  (hn:∀ s' V3,CopyI e t V0 l ((k+1:Nat):Int) s' V3→(kk s').wp P K V3 Vd Ns) :
  (T.ap s sh.length bytes (Scs.vals sh c) 1 t kk).wp P K V2 Vd Ns:=by
 obtain⟨h1,k',f,he,_,hg,ho⟩:=h
 obtain rfl:k=k':=by omega
 have hlen:(l.take k).length=k:=by simp; omega
 refine ap_row (hg.le hle2) hR (ho.append hO h1 hle2) (h1.trans hle2) hP ?_ (by omega) fun s' V' f' hg' ho' hle'=>hn s' V' ⟨hle',k+1,f',rfl,hk,?_,ho'⟩
 ·rw [hlen]
  exact Nat.le_trans (Nat.mul_le_mul_right _ hk) hb
 ·rw [List.take_succ_eq_append_getElem hk]; exact hg'
theorem CopyI.fin {e:Rp sh α} {t:TypeId} {V0 V:Know} {l:List α} {i:Int} {s:SlV} (h:CopyI e t V0 l i s V) (hl:l.length≤9223372036854775807) (hi:¬ i<(l.length:Int)) :
  V0.le V∧∃ f,LR e V s l f∧Own V0 V f:=by
 obtain⟨h1,k,f,rfl,hk,hg,ho⟩:=h
 obtain rfl:k=l.length:=by omega
 rw [List.take_length] at hg
 exact⟨h1,f,hg.lr hl,ho⟩
theorem CopyI.finG {e:Rp sh α} {t:TypeId} {V0 V:Know} {l:List α} {i:Int} {s:SlV} (h:CopyI e t V0 l i s V) (hi:¬ i<(l.length:Int)) :
  V0.le V∧∃ f,GR e t V s l f∧Own V0 V f:=by
 obtain⟨h1,k,f,rfl,hk,hg,ho⟩:=h
 obtain rfl:k=l.length:=by omega
 rw [List.take_length] at hg
 exact⟨h1,f,hg,ho⟩
end
end Go.Proofs.YtfiakghfncempaaGreatDoor
