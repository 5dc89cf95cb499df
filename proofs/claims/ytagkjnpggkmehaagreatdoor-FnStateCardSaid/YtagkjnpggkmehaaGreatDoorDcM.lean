/-
  Decimals read from their texts: the text's parts, the digits without the noughts ahead. No program in sight.
-/
import Derived.Test.YtagkjnpggkmehaaGreatDoorDecM
import Derived.Test.YtagkjnpggkmehaaGreatDoorLoopT
import Derived.Lib.Join
namespace Go.Proofs.YtagkjnpggkmehaaGreatDoor
open Sx
set_option maxRecDepth 100000
abbrev Tx:Type:=ByteArray × Unit
def bytesL (l:List Tx):List (List UInt8):=l.map fun x=>x.1.data.toList
def joinT (l:List Tx) (by':ByteArray):ByteArray:=⟨(Go.Lib.join (bytesL l) by'.data.toList).toArray⟩
def sumT (l:List Tx):Nat:=Go.Lib.lens (bytesL l)
theorem ba_mk (x:ByteArray):(⟨x.data.toList.toArray⟩:ByteArray)=x:=by simp
theorem joinT_one (x:Tx) (b:ByteArray):joinT [x] b=x.1:=by
 unfold joinT bytesL
 rw [List.map_cons,List.map_nil,Go.Lib.join_one]
theorem joinT_snoc {l:List Tx} (h:l≠[]) (x:Tx) (b:ByteArray):joinT (l++[x]) b=joinT l b++b++x.1:=by
 cases l with
 | nil=>exact absurd rfl h
 | cons a r =>
  have e:Go.Lib.join (bytesL (a :: r++[x])) b.data.toList=Go.Lib.join (bytesL (a :: r)) b.data.toList++b.data.toList++x.1.data.toList:=by
   unfold bytesL
   rw [List.cons_append,List.map_cons,List.map_cons,Go.Lib.join_cons,Go.Lib.join_cons,List.map_append]
   simp [Go.Lib.joinTail]
  unfold joinT
  rw [e,← ba_append,← ba_append,ba_mk,ba_mk]
theorem joinT_size (l:List Tx) (b:ByteArray):(joinT l b).size≤sumT l+l.length*b.size:=by
 cases l with
 | nil=>exact Nat.zero_le _
 | cons a r =>
  have e:(joinT (a :: r) b).size=(Go.Lib.join (bytesL (a :: r)) b.data.toList).length:=by
   show(Go.Lib.join (bytesL (a :: r)) b.data.toList).toArray.size=_
   simp
  rw [e]
  unfold bytesL
  rw [List.map_cons,Go.Lib.join_length,List.length_map,List.length_cons]
  have h1:b.data.toList.length=b.size:=by
   show b.data.toList.length=b.data.size
   simp
  have h2:sumT (a :: r)=Go.Lib.lens (a.1.data.toList :: List.map (fun x=>x.1.data.toList) r):=rfl
  rw [h1,h2,Nat.add_mul,Nat.mul_comm r.length]
  omega
end Go.Proofs.YtagkjnpggkmehaaGreatDoor
namespace Go.Proofs.YtagkjnpggkmehaaGreatDoor
open Sx
set_option maxRecDepth 100000
def cutA (c:UInt8):List UInt8→List UInt8→List (List UInt8)
 | p,[]=>[p]
 | p,x :: r=>if x=c then p :: cutA c [] r else cutA c (p++[x]) r
theorem cutA_ne (c:UInt8):∀ (p l:List UInt8),cutA c p l≠[]
 | p,[]=>by simp [cutA]
 | p,x :: r=>by
  rw [cutA]
  split
  ·simp
  ·exact cutA_ne c _ r
theorem cutA_none {c:UInt8}:∀ {p a:List UInt8},c ∉ a→cutA c p a=[p++a]
 | p,[],_=>by simp [cutA]
 | p,x :: r,h=>by
  have h1:x≠c:=fun e=>h (by simp [e])
  rw [cutA,if_neg h1,cutA_none fun k=>h (List.mem_cons_of_mem _ k)]
  simp
theorem cutA_app {c:UInt8} {b:List UInt8}:∀ {p a:List UInt8},c ∉ a→cutA c p (a++c :: b)=(p++a) :: cutA c [] b
 | p,[],_=>by simp [cutA]
 | p,x :: r,h=>by
  have h1:x≠c:=fun e=>h (by simp [e])
  rw [List.cons_append,cutA,if_neg h1,cutA_app fun k=>h (List.mem_cons_of_mem _ k)]
  simp
def joinC (c:UInt8):List (List UInt8)→List UInt8
 | []=>[]
 | [x]=>x
 | x :: y :: r=>x++c :: joinC c (y :: r)
theorem joinC_cons {c:UInt8} {x:List UInt8} {l:List (List UInt8)} (h:l≠[]):joinC c (x :: l)=x++c :: joinC c l:=by
 cases l with
 | nil=>exact absurd rfl h
 | cons y r=>rfl
theorem joinC_cut (c:UInt8):∀ (p l:List UInt8),joinC c (cutA c p l)=p++l
 | p,[]=>by simp [cutA,joinC]
 | p,x :: r=>by
  rw [cutA]
  split
  ·rename_i e
   rw [joinC_cons (cutA_ne c [] r),joinC_cut c [] r,e]; rfl
  ·rw [joinC_cut c _ r]; simp
theorem cutA_len (c:UInt8):∀ (p l:List UInt8),(cutA c p l).length≤l.length+1
 | p,[]=>by simp [cutA]
 | p,x :: r=>by
  rw [cutA]
  split
  ·have:=cutA_len c [] r
   simp only [List.length_cons]; omega
  ·have:=cutA_len c (p++[x]) r
   simp only [List.length_cons]; omega
theorem cutA_size {c:UInt8}:∀ {p l:List UInt8},∀ x∈cutA c p l,x.length≤p.length+l.length
 | p,[],x,hx=>by
  obtain rfl:x=p:=by simpa [cutA] using hx
  omega
 | p,y :: r,x,hx=>by
  rw [cutA] at hx
  split at hx
  ·rcases List.mem_cons.1 hx with rfl | hx
   ·omega
   ·have:=cutA_size x hx
    simp only [List.length_cons,List.length_nil] at this ⊢; omega
  ·have:=cutA_size x hx
   simp only [List.length_append,List.length_cons,List.length_nil] at this ⊢; omega
theorem cut_join {c:UInt8}:∀ {l:List (List UInt8)},l≠[]→(∀ x∈l,c ∉ x)→cutA c [] (joinC c l)=l
 | [],h,_=>absurd rfl h
 | [x],_,h=>by rw [joinC,cutA_none (h x (by simp))]; simp
 | x :: y :: r,_,h=>by
  rw [joinC,cutA_app (h x (by simp)),cut_join (by simp) fun z hz=>h z (List.mem_cons_of_mem _ hz)]; simp
theorem take_drop_snoc {α:Type} {l:List α} {i f:Nat} (hi:i<l.length) (hf:f≤i):(l.take (i+1)).drop f=(l.take i).drop f++[l[i]]:=by
 rw [List.take_succ_eq_append_getElem hi,List.drop_append_of_le_length (by rw [List.length_take]; omega)]
theorem take_drop_self {α:Type} (l:List α) (i:Nat):(l.take i).drop i=[]:=List.drop_of_length_le (by rw [List.length_take]; omega)
theorem bl_extract (s:ByteArray) (i j:Nat):bl (s.extract i j)=((bl s).take j).drop i:=by
 show(s.extract i j).data.toList=_
 rw [ByteArray.data_extract,Array.toList_extract,List.extract_eq_take_drop,List.take_drop]
 by_cases h:i≤j
 ·rw [show i+(j-i)=j by omega]
 ·rw [List.drop_of_length_le (by rw [List.length_take]; omega),List.drop_of_length_le (by rw [List.length_take]; omega)]
abbrev ofL (l:List UInt8):ByteArray:=⟨l.toArray⟩
theorem bl_of (l:List UInt8):bl (ofL l)=l:=by simp [bl]
theorem of_bl (t:ByteArray):ofL (bl t)=t:=bl_inj (bl_of _)
def cutB (c:UInt8) (s:ByteArray):List Tx:=(cutA c [] (bl s)).map fun l=>(ofL l,())
theorem cutB_len (c:UInt8) (s:ByteArray):(cutB c s).length≤s.size+1:=by
 have:=cutA_len c [] (bl s)
 rw [bl_len] at this
 unfold cutB
 rw [List.length_map]
 exact this
theorem cutB_pos (c:UInt8) (s:ByteArray):0<(cutB c s).length:=by
 unfold cutB
 rw [List.length_map]
 exact List.length_pos_iff.2 (cutA_ne c [] (bl s))
theorem of_size (l:List UInt8):(ofL l).size=l.length:=by
 rw [← bl_len,bl_of]
theorem cutB_size {c:UInt8} {s:ByteArray} {x:Tx} (h:x∈cutB c s):x.1.size≤s.size:=by
 obtain⟨l,hl,rfl⟩:=List.mem_map.1 h
 have:=cutA_size l hl
 rw [bl_len] at this
 rw [of_size]
 simpa using this
theorem cutB_eq {c:UInt8} {s:ByteArray} {l:List Tx} (h:bl s=joinC c (l.map fun x=>bl x.1)) (h0:l≠[]) (hc:∀ x∈l,c ∉ bl x.1):cutB c s=l:=by
 unfold cutB
 rw [h,cut_join (by simpa using h0) (fun y hy=>by
  obtain⟨x,hx,rfl⟩:=List.mem_map.1 hy
  exact hc x hx),List.map_map]
 refine(List.map_congr_left fun x _=>?_).trans (List.map_id _)
 show(ofL (bl x.1),())=x
 rw [of_bl]
theorem cutB_join (c:UInt8) (s:ByteArray):bl s=joinC c ((cutB c s).map fun x=>bl x.1):=by
 unfold cutB
 rw [List.map_map]
 have:(cutA c [] (bl s)).map ((fun x:Tx=>bl x.1) ∘ fun l=>(ofL l,()))=cutA c [] (bl s):=by
  refine(List.map_congr_left fun x _=>?_).trans (List.map_id _)
  exact bl_of x
 rw [this,joinC_cut]; rfl
end Go.Proofs.YtagkjnpggkmehaaGreatDoor
namespace Go.Proofs.YtagkjnpggkmehaaGreatDoor
open Sx
set_option maxRecDepth 100000
theorem natT_dg {o:List Lim} (h:Can o):∀ c∈bl (natT o),Dg c:=(natT_num h).1.2.1
theorem intT_neg (o:List Lim):bl (intT true o)=45 :: bl (natT o):=by
 unfold intT
 rw [if_pos rfl,bl_append]; rfl
theorem intT_pos (o:List Lim):intT false o=natT o:=by
 unfold intT
 rw [if_neg (by simp)]
def NumB (c:UInt8):Prop:=c=45∨Dg c
theorem intT_bytes {e:Bool} {o:List Lim} (h:Can o):∀ c∈bl (intT e o),NumB c:=fun c hc=>by
 cases e with
 | true =>
  rw [intT_neg] at hc
  rcases List.mem_cons.1 hc with k | k
  ·exact .inl k
  ·exact .inr (natT_dg h c k)
 | false =>
  rw [intT_pos] at hc
  exact .inr (natT_dg h c hc)
theorem intT_inj {e e':Bool} {o o':List Lim} (h:Can o) (h':Can o') (k:intT e o=intT e' o'):e=e'∧o=o':=by
 have hb:=congrArg bl k
 have key:∀ {o o':List Lim},Can o'→(45:UInt8) :: bl (natT o)≠bl (natT o'):=fun h' hh=>by
  have:=natT_dg h' 45 (by rw [← hh]; simp)
  revert this; decide
 cases e with
 | true =>
  cases e' with
  | true =>
   rw [intT_neg,intT_neg] at hb
   exact⟨rfl,natT_inj h h' (bl_inj (List.cons.inj hb).2)⟩
  | false =>
   rw [intT_neg,intT_pos] at hb
   exact absurd hb (key h')
 | false =>
  cases e' with
  | true =>
   rw [intT_neg,intT_pos] at hb
   exact absurd hb.symm (key h)
  | false =>
   rw [intT_pos,intT_pos] at hb
   exact⟨rfl,natT_inj h h' (bl_inj hb)⟩
theorem bl_tail (s:ByteArray):bl (s.extract 1 s.size)=(bl s).tail:=by
 rw [bl_extract,← bl_len,List.take_length,List.drop_one]
end Go.Proofs.YtagkjnpggkmehaaGreatDoor
namespace Go.Proofs.YtagkjnpggkmehaaGreatDoor
open Sx
set_option maxRecDepth 100000
theorem natT_len {l:List Lim} (h:Can l):l.length≤(natT l).size:=by
 by_cases h0:l.length=0
 ·omega
 obtain⟨⟨_,hd,_⟩,hv,_⟩:=natT_num h
 have h1:=can_ge h (by omega)
 rw [← hv,← pw9] at h1
 have h2:=dv_lt hd
 rw [bl_len] at h2
 have h3:10 ^ (9*(l.length-1))<10 ^ (natT l).size:=by omega
 have h4:=(Nat.pow_lt_pow_iff_right (by decide:1<10)).1 h3
 omega
abbrev decP (l:List Lim) (sc:Int):ByteArray:=padB (natT l) (sc+1)
theorem decP_bl {l:List Lim} {sc:Int} (h1:sc≤30):∃ k,bl (decP l sc)=List.replicate k 48++bl (natT l):=by
 unfold decP padB
 rw [if_neg (by omega),bl_append,zeros_bl]
 exact⟨_,rfl⟩
theorem decP_dg {l:List Lim} {sc:Int} (h:Can l) (h1:sc≤30):∀ c∈bl (decP l sc),Dg c:=by
 obtain⟨k,e⟩:=decP_bl (l:=l) h1
 intro c hc
 rw [e] at hc
 rcases List.mem_append.1 hc with hc | hc
 ·obtain rfl:=(List.mem_replicate.1 hc).2
  exact⟨by decide,by decide⟩
 ·exact(natT_num h).1.2.1 c hc
theorem decP_size {l:List Lim} {sc:Int} (h:Can l) (h6:l.length≤6) (h0:0≤sc) (h1:sc≤30):sc+1≤(decP l sc).size∧(decP l sc).size≤55:=by
 obtain⟨_,p2,p3,_⟩:=padB_size (natT l) (sc+1)
 obtain⟨_,_,h3,_⟩:=natT_num h
 have:=p2 (by omega)
 show sc+1≤(padB (natT l) (sc+1)).size∧(padB (natT l) (sc+1)).size≤55
 exact⟨this,by omega⟩
abbrev decB (l:List Lim) (sc:Int):ByteArray:=pointT (decP l sc) sc
theorem decT_neg (l:List Lim) (sc:Int):bl (decT true l sc)=45 :: bl (decB l sc):=by
 unfold decT
 rw [if_pos rfl,bl_append]
 rfl
theorem decT_pos (l:List Lim) (sc:Int):decT false l sc=decB l sc:=by
 unfold decT
 rw [if_neg (by decide)]
theorem decB_parts {l:List Lim} {sc:Int} (h:Can l) (h6:l.length≤6) (h0:0≤sc) (h1:sc≤30) :
  (sc=0∧bl (decB l sc)=bl (decP l sc))∨(0<sc∧∃ A B,bl (decB l sc)=A++46 :: B∧bl (decP l sc)=A++B∧B.length=sc.toNat∧A≠[]):=by
 obtain⟨z1,z2⟩:=decP_size h h6 h0 h1
 by_cases hs:sc=0
 ·left
  refine⟨hs,?_⟩
  show bl (pointT (decP l sc) sc)=_
  unfold pointT
  rw [if_neg (by omega)]
 ·right
  refine⟨by omega,(bl (decP l sc)).take ((decP l sc).size-sc.toNat),(bl (decP l sc)).drop ((decP l sc).size-sc.toNat),?_,(List.take_append_drop _ _).symm,?_,?_⟩
  ·show bl (pointT (decP l sc) sc)=_
   unfold pointT
   rw [if_pos (by omega),bl_append,bl_append,bl_extract,bl_extract,List.drop_zero,← bl_len (decP l sc),List.take_length]
   show(_++[46])++_=_
   rw [List.append_assoc]
   rfl
  ·rw [List.length_drop,bl_len]; omega
  ·intro e
   have:=congrArg List.length e
   rw [List.length_take,bl_len] at this
   simp only [List.length_nil] at this
   omega
theorem no_dg {c x:UInt8} (h:Dg c) (k:x.toNat<48):c≠x:=fun e=>by
 subst e
 exact absurd h.1 (by omega)
theorem decB_head {l:List Lim} {sc:Int} (h:Can l) (h6:l.length≤6) (h0:0≤sc) (h1:sc≤30):∃ c r,bl (decB l sc)=c :: r∧Dg c:=by
 obtain⟨z1,z2⟩:=decP_size h h6 h0 h1
 have hd:=decP_dg h h1
 have hl:=bl_len (decP l sc)
 rcases decB_parts h h6 h0 h1 with ⟨_,e⟩ | ⟨_,A,B,e,e2,_,hA⟩
 ·rw [e]
  cases hq:bl (decP l sc) with
  | nil=>rw [hq] at hl; simp only [List.length_nil] at hl; omega
  | cons c r=>exact⟨c,r,rfl,hd c (by rw [hq]; simp)⟩
 ·rw [e]
  cases A with
  | nil=>exact absurd rfl hA
  | cons c r=>exact⟨c,r++46 :: B,rfl,hd c (by rw [e2]; simp)⟩
theorem decB_size {l:List Lim} {sc:Int} (h:Can l) (h6:l.length≤6) (h0:0≤sc) (h1:sc≤30):(decB l sc).size≤56:=by
 have a:=pointT_size (decP l sc) sc
 have b:=(decP_size h h6 h0 h1).2
 exact Nat.le_trans a (by omega)
theorem decB_cut {l:List Lim} {sc:Int} (h:Can l) (h6:l.length≤6) (h0:0≤sc) (h1:sc≤30) :
  (sc=0∧cutB 46 (decB l sc)=[(decP l sc,())])∨(0<sc∧∃ a b:ByteArray,cutB 46 (decB l sc)=[(a,()),(b,())]∧decP l sc=a++b∧(b.size:Int)=sc):=by
 have hd:=decP_dg h h1
 have no:∀ x∈bl (decP l sc),x≠46:=fun x hx=>no_dg (hd x hx) (by decide)
 rcases decB_parts h h6 h0 h1 with ⟨hs,e⟩ | ⟨hs,A,B,e,e2,hB,_⟩
 ·refine .inl ⟨hs,cutB_eq ?_ (by simp) fun x hx=>?_⟩
  ·rw [e]; rfl
  ·obtain rfl:x=(decP l sc,()):=by simpa using hx
   exact fun k=>no 46 k rfl
 ·refine .inr ⟨hs,ofL A,ofL B,cutB_eq ?_ (by simp) fun x hx=>?_,bl_inj ?_,?_⟩
  ·rw [e]
   show _=bl (ofL A)++46 :: bl (ofL B)
   rw [bl_of,bl_of]
  ·rcases List.mem_cons.1 hx with rfl | hx
   ·show(46:UInt8) ∉ bl (ofL A)
    rw [bl_of]
    exact fun k=>no 46 (by rw [e2]; simp [k]) rfl
   ·obtain rfl:x=(ofL B,()):=by simpa using hx
    show(46:UInt8) ∉ bl (ofL B)
    rw [bl_of]
    exact fun k=>no 46 (by rw [e2]; simp [k]) rfl
  ·rw [bl_append,bl_of,bl_of]
   exact e2
  ·rw [of_size B,hB]; omega
def ZNat (s:ByteArray) (l:List Lim):Prop:=∃ k,bl s=List.replicate k 48++bl (natT l)
theorem ZNat.step {s:ByteArray} {l:List Lim} (h:ZNat s l) (hc:Can l) (h1:1<s.size) (h2:(bl s).head?=some 48):ZNat (s.extract 1 s.size) l:=by
 obtain⟨k,e⟩:=h
 cases k with
 | zero =>
  exfalso
  have e:bl s=bl (natT l):=by simpa using e
  obtain⟨hn,_⟩:=natT_num hc
  have hl:=bl_len s
  refine hn.2.2 ?_ ?_
  ·rw [← e]; omega
  ·rw [← e]; exact h2
 | succ k =>
  refine⟨k,?_⟩
  rw [bl_tail,e,List.replicate_succ]
  rfl
theorem ZNat.stop {s:ByteArray} {l:List Lim} (h:ZNat s l) (hc:Can l) (hs:¬ (1<s.size∧(bl s).head?=some 48)):s=natT l:=by
 obtain⟨k,e⟩:=h
 obtain⟨hn,_⟩:=natT_num hc
 have hl:=bl_len s
 cases k with
 | zero=>exact bl_inj (by simpa using e)
 | succ k =>
  exfalso
  refine hs ⟨?_,by rw [e,List.replicate_succ]; rfl⟩
  rw [← hl,e,List.length_append,List.length_replicate]
  have:0<(bl (natT l)).length:=List.length_pos_iff.2 hn.1
  omega
theorem ZNat.start {l:List Lim} {sc:Int} (h1:sc≤30):ZNat (decP l sc) l:=decP_bl h1
end Go.Proofs.YtagkjnpggkmehaaGreatDoor
