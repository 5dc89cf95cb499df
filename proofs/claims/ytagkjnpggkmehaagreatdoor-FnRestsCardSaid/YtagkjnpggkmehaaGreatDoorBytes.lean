/-
  A text turned into bytes: a new block that nobody writes beyond.
-/
import Derived.Test.YtagkjnpggkmehaaGreatDoorTxt
import Derived.Test.YtagkjnpggkmehaaGreatDoorLoopT
import Derived.Lib.Join
import Derived.Lib.ConvBytes
namespace Go.Proofs.YtagkjnpggkmehaaGreatDoor
open Sx
set_option maxRecDepth 100000
abbrev Tx:Type:=ByteArray × Unit
def bytesL (l:List Tx):List (List UInt8):=l.map fun x=>x.1.data.toList
def joinT (l:List Tx) (by':ByteArray):ByteArray:=⟨(Go.Lib.join (bytesL l) by'.data.toList).toArray⟩
def sumT (l:List Tx):Nat:=Go.Lib.lens (bytesL l)
theorem sumT_cons (l:List Tx) (x:Tx):sumT (x :: l)=x.1.size+sumT l:=by
 unfold sumT bytesL Go.Lib.lens
 simp
theorem sumT_le {B:Nat}:∀ (l:List Tx),(∀ x∈l,x.1.size≤B)→sumT l≤B*l.length
 | [],_=>Nat.le_refl _
 | x :: l,h=>by
  have h1:=sumT_le l fun y hy=>h y (by simp [hy])
  have h2:=h x (by simp)
  rw [sumT_cons,List.length_cons,Nat.mul_add]
  omega
theorem joinT_size (l:List Tx) (b:ByteArray):(joinT l b).size≤sumT l+l.length*b.size:=by
 cases l with
 | nil=>exact Nat.zero_le _
 | cons a r =>
  have e:(joinT (a :: r) b).size=(Go.Lib.join (bytesL (a :: r)) b.data.toList).length:=by
   show(Go.Lib.join (bytesL (a :: r)) b.data.toList).toArray.size=_
   simp
  rw [e]
  unfold bytesL
  rw [List.map_cons,Go.Lib.join_length,List.length_map,List.length_cons]
  have h1:b.data.toList.length=b.size:=by
   show b.data.toList.length=b.data.size
   simp
  have h2:sumT (a :: r)=Go.Lib.lens (a.1.data.toList :: List.map (fun x=>x.1.data.toList) r):=rfl
  rw [h1,h2,Nat.add_mul,Nat.mul_comm r.length]
  omega
end Go.Proofs.YtagkjnpggkmehaaGreatDoor
namespace Go.Proofs.YtagkjnpggkmehaaGreatDoor
open Sx
set_option maxRecDepth 100000
def cutA (c:UInt8):List UInt8→List UInt8→List (List UInt8)
 | p,[]=>[p]
 | p,x :: r=>if x=c then p :: cutA c [] r else cutA c (p++[x]) r
theorem cutA_ne (c:UInt8):∀ (p l:List UInt8),cutA c p l≠[]
 | p,[]=>by simp [cutA]
 | p,x :: r=>by
  rw [cutA]
  split
  ·simp
  ·exact cutA_ne c _ r
theorem cutA_none {c:UInt8}:∀ {p a:List UInt8},c ∉ a→cutA c p a=[p++a]
 | p,[],_=>by simp [cutA]
 | p,x :: r,h=>by
  have h1:x≠c:=fun e=>h (by simp [e])
  rw [cutA,if_neg h1,cutA_none fun k=>h (List.mem_cons_of_mem _ k)]
  simp
theorem cutA_app {c:UInt8} {b:List UInt8}:∀ {p a:List UInt8},c ∉ a→cutA c p (a++c :: b)=(p++a) :: cutA c [] b
 | p,[],_=>by simp [cutA]
 | p,x :: r,h=>by
  have h1:x≠c:=fun e=>h (by simp [e])
  rw [List.cons_append,cutA,if_neg h1,cutA_app fun k=>h (List.mem_cons_of_mem _ k)]
  simp
def joinC (c:UInt8):List (List UInt8)→List UInt8
 | []=>[]
 | [x]=>x
 | x :: y :: r=>x++c :: joinC c (y :: r)
theorem joinC_cons {c:UInt8} {x:List UInt8} {l:List (List UInt8)} (h:l≠[]):joinC c (x :: l)=x++c :: joinC c l:=by
 cases l with
 | nil=>exact absurd rfl h
 | cons y r=>rfl
theorem joinC_cut (c:UInt8):∀ (p l:List UInt8),joinC c (cutA c p l)=p++l
 | p,[]=>by simp [cutA,joinC]
 | p,x :: r=>by
  rw [cutA]
  split
  ·rename_i e
   rw [joinC_cons (cutA_ne c [] r),joinC_cut c [] r,e]; rfl
  ·rw [joinC_cut c _ r]; simp
theorem cutA_size {c:UInt8}:∀ {p l:List UInt8},∀ x∈cutA c p l,x.length≤p.length+l.length
 | p,[],x,hx=>by
  obtain rfl:x=p:=by simpa [cutA] using hx
  omega
 | p,y :: r,x,hx=>by
  rw [cutA] at hx
  split at hx
  ·rcases List.mem_cons.1 hx with rfl | hx
   ·omega
   ·have:=cutA_size x hx
    simp only [List.length_cons,List.length_nil] at this ⊢; omega
  ·have:=cutA_size x hx
   simp only [List.length_append,List.length_cons,List.length_nil] at this ⊢; omega
theorem cut_join {c:UInt8}:∀ {l:List (List UInt8)},l≠[]→(∀ x∈l,c ∉ x)→cutA c [] (joinC c l)=l
 | [],h,_=>absurd rfl h
 | [x],_,h=>by rw [joinC,cutA_none (h x (by simp))]; simp
 | x :: y :: r,_,h=>by
  rw [joinC,cutA_app (h x (by simp)),cut_join (by simp) fun z hz=>h z (List.mem_cons_of_mem _ hz)]; simp
theorem take_drop_snoc {α:Type} {l:List α} {i f:Nat} (hi:i<l.length) (hf:f≤i):(l.take (i+1)).drop f=(l.take i).drop f++[l[i]]:=by
 rw [List.take_succ_eq_append_getElem hi,List.drop_append_of_le_length (by rw [List.length_take]; omega)]
theorem take_drop_self {α:Type} (l:List α) (i:Nat):(l.take i).drop i=[]:=List.drop_of_length_le (by rw [List.length_take]; omega)
theorem bl_extract (s:ByteArray) (i j:Nat):bl (s.extract i j)=((bl s).take j).drop i:=by
 show(s.extract i j).data.toList=_
 rw [ByteArray.data_extract,Array.toList_extract,List.extract_eq_take_drop,List.take_drop]
 by_cases h:i≤j
 ·rw [show i+(j-i)=j by omega]
 ·rw [List.drop_of_length_le (by rw [List.length_take]; omega),List.drop_of_length_le (by rw [List.length_take]; omega)]
abbrev ofL (l:List UInt8):ByteArray:=⟨l.toArray⟩
theorem bl_of (l:List UInt8):bl (ofL l)=l:=by simp [bl]
theorem of_bl (t:ByteArray):ofL (bl t)=t:=bl_inj (bl_of _)
def cutB (c:UInt8) (s:ByteArray):List Tx:=(cutA c [] (bl s)).map fun l=>(ofL l,())
theorem cutB_pos (c:UInt8) (s:ByteArray):0<(cutB c s).length:=by
 unfold cutB
 rw [List.length_map]
 exact List.length_pos_iff.2 (cutA_ne c [] (bl s))
theorem of_size (l:List UInt8):(ofL l).size=l.length:=by
 rw [← bl_len,bl_of]
theorem cutB_size {c:UInt8} {s:ByteArray} {x:Tx} (h:x∈cutB c s):x.1.size≤s.size:=by
 obtain⟨l,hl,rfl⟩:=List.mem_map.1 h
 have:=cutA_size l hl
 rw [bl_len] at this
 rw [of_size]
 simpa using this
theorem cutB_eq {c:UInt8} {s:ByteArray} {l:List Tx} (h:bl s=joinC c (l.map fun x=>bl x.1)) (h0:l≠[]) (hc:∀ x∈l,c ∉ bl x.1):cutB c s=l:=by
 unfold cutB
 rw [h,cut_join (by simpa using h0) (fun y hy=>by
  obtain⟨x,hx,rfl⟩:=List.mem_map.1 hy
  exact hc x hx),List.map_map]
 refine(List.map_congr_left fun x _=>?_).trans (List.map_id _)
 show(ofL (bl x.1),())=x
 rw [of_bl]
theorem cutB_join (c:UInt8) (s:ByteArray):bl s=joinC c ((cutB c s).map fun x=>bl x.1):=by
 unfold cutB
 rw [List.map_map]
 have:(cutA c [] (bl s)).map ((fun x:Tx=>bl x.1) ∘ fun l=>(ofL l,()))=cutA c [] (bl s):=by
  refine(List.map_congr_left fun x _=>?_).trans (List.map_id _)
  exact bl_of x
 rw [this,joinC_cut]; rfl
end Go.Proofs.YtagkjnpggkmehaaGreatDoor
namespace Go.Proofs.YtagkjnpggkmehaaGreatDoor
open Sx
set_option maxRecDepth 100000
theorem natT_dg {o:List Lim} (h:Can o):∀ c∈bl (natT o),Dg c:=(natT_num h).1.2.1
theorem intT_neg (o:List Lim):bl (intT true o)=45 :: bl (natT o):=by
 unfold intT
 rw [if_pos rfl,bl_append]; rfl
theorem intT_pos (o:List Lim):intT false o=natT o:=by
 unfold intT
 rw [if_neg (by simp)]
def NumB (c:UInt8):Prop:=c=45∨Dg c
theorem intT_bytes {e:Bool} {o:List Lim} (h:Can o):∀ c∈bl (intT e o),NumB c:=fun c hc=>by
 cases e with
 | true =>
  rw [intT_neg] at hc
  rcases List.mem_cons.1 hc with k | k
  ·exact .inl k
  ·exact .inr (natT_dg h c k)
 | false =>
  rw [intT_pos] at hc
  exact .inr (natT_dg h c hc)
theorem intT_inj {e e':Bool} {o o':List Lim} (h:Can o) (h':Can o') (k:intT e o=intT e' o'):e=e'∧o=o':=by
 have hb:=congrArg bl k
 have key:∀ {o o':List Lim},Can o'→(45:UInt8) :: bl (natT o)≠bl (natT o'):=fun h' hh=>by
  have:=natT_dg h' 45 (by rw [← hh]; simp)
  revert this; decide
 cases e with
 | true =>
  cases e' with
  | true =>
   rw [intT_neg,intT_neg] at hb
   exact⟨rfl,natT_inj h h' (bl_inj (List.cons.inj hb).2)⟩
  | false =>
   rw [intT_neg,intT_pos] at hb
   exact absurd hb (key h')
 | false =>
  cases e' with
  | true =>
   rw [intT_neg,intT_pos] at hb
   exact absurd hb.symm (key h)
  | false =>
   rw [intT_pos,intT_pos] at hb
   exact⟨rfl,natT_inj h h' (bl_inj hb)⟩
theorem bl_tail (s:ByteArray):bl (s.extract 1 s.size)=(bl s).tail:=by
 rw [bl_extract,← bl_len,List.take_length,List.drop_one]
end Go.Proofs.YtagkjnpggkmehaaGreatDoor
namespace Go.Proofs.YtagkjnpggkmehaaGreatDoor
open Sx
set_option maxRecDepth 100000
abbrev bv (l:List UInt8):List Value:=l.map fun b=>Value.int .u8 b.toNat
theorem semx_bytes {P:Program} {V:Know} {src dst e:TypeId} {s:ByteArray} {K:Know→Value→Prop} (hs:P.underlying src=some .string) (hd:P.underlying dst=some (.slice e)) (he:P.underlying e=some (.int .u8))
  (h:∀ b cap spare,V b=none→s.size≤cap→K (kset V b (bv (bl s)++spare,(e,(cap,cap+1)))) (.slice (some ⟨b,0,none⟩) s.size cap)):SemX P V (MOp.cv src dst (.string s)).sem K:=by
 intro w hw
 have hc:s.size≤Go.grownCap w s.size 0 e:=Go.grownCap_ge w s.size 0 e
 refine⟨_,_,kset V w.heap.size (bv (bl s)++List.replicate (Go.grownCap w s.size 0 e-s.size) (.int .u8 0),(e,(Go.grownCap w s.size 0 e,Go.grownCap w s.size 0 e+1))),Go.Lib.run_convert_string_bytes w src dst e s hs hd he,⟨rfl,rfl,rfl,by rw [Go.Lib.bytesWorld_size]; omega,fun b hb _=>Go.Lib.bytesWorld_at_old w e s b hb,fun b hb hn=>?_⟩,fun b c u hb=>?_,h _ _ _ hw.size_none hc⟩
 ·rw [kset_other (by omega)]; exact hn
 ·by_cases hbe:b=w.heap.size
  ·subst hbe
   rw [kset_same] at hb
   simp only [Option.some.injEq,Prod.mk.injEq] at hb
   obtain⟨rfl,rfl⟩:=hb
   rw [Go.Lib.bytesWorld_at_new]
   have e1:Go.Lib.bytesCells w e s=(bv (bl s)++List.replicate (Go.grownCap w s.size 0 e-s.size) (Value.int .u8 0)).toArray:=by
    unfold Go.Lib.bytesCells
    simp [bv,bl]
   have e2:(Go.Lib.bytesCells w e s).size=Go.grownCap w s.size 0 e:=by
    unfold Go.Lib.bytesCells
    have:s.data.size=s.size:=rfl
    simp only [Array.size_append,Array.size_map,Array.size_replicate]
    omega
   have e3:noTup (bv (bl s)++List.replicate (Go.grownCap w s.size 0 e-s.size) (Value.int .u8 0))=true:=by
    refine List.all_eq_true.2 fun x hx=>?_
    rcases List.mem_append.1 hx with k | k
    ·obtain⟨y,_,rfl⟩:=List.mem_map.1 k
     rfl
    ·rw [List.eq_of_mem_replicate k]
   rw [e2,e1,objOf_cells e3]
  ·rw [kset_other hbe] at hb
   have:=hw b c u hb
   rw [Go.Lib.bytesWorld_at_old w e s b (Array.getElem?_eq_some_iff.1 this).1]; exact this
end Go.Proofs.YtagkjnpggkmehaaGreatDoor
