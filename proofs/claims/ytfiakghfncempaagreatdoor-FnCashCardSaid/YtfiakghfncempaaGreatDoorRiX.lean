/-
  A remainder added to a list of remainders, in the program: through a map, in the order of the codes.
-/
import Derived.Test.YtfiakghfncempaaGreatDoorBkX
import Derived.Test.YtfiakghfncempaaGreatDoorShelf
import Derived.Sort.KeysCollected
namespace Go.Proofs.YtfiakghfncempaaGreatDoor
open Sx
set_option maxRecDepth 100000
theorem find_fil {α:Type} {p q:α→Bool} {l:List α} (h:∀ x∈l,q x=true→p x=true):(l.filter p).find? q=l.find? q:=by
 rw [List.find?_filter]
 induction l with
 | nil=>rfl
 | cons a l ih =>
  rw [List.find?_cons,List.find?_cons,ih fun x hx=>h x (by simp [hx])]
  cases hq:q a with
  | true=>simp [h a (by simp) hq]
  | false=>simp
theorem find_no {α:Type} {q:α→Bool} {l:List α} (h:∀ x∈l,q x=false):l.find? q=none:=List.find?_eq_none.2 fun x hx=>by rw [h x hx]; decide
theorem addR_at {cur:ByteArray} {y:DRat} {l:List DRest}:(addR cur y l).find? (keyB cur)=if zeroQ y=true then none else some (cur,y):=by
 unfold addR
 rw [List.find?_append,List.find?_append,find_no (l:=l.filter _) fun x hx=>?_,find_no (l:=l.filter (fun x=>lesB cur x.1)) fun x hx=>?_]
 ·split
  ·rfl
  ·simp [keyB]
 ·have:=(List.mem_filter.1 hx).2
  exact decide_eq_false fun e=>by
   have e:x.1=cur:=e
   rw [e] at this
   exact LessP.irr this
 ·have:=(List.mem_filter.1 hx).2
  exact decide_eq_false fun e=>by
   have e:x.1=cur:=e
   rw [e] at this
   exact LessP.irr this
theorem addR_else {cur k:ByteArray} {y:DRat} {l:List DRest} (hk:k≠cur):(addR cur y l).find? (keyB k)=l.find? (keyB k):=by
 have e2:(if zeroQ y=true then [] else [((cur,y):DRest)]).find? (keyB k)=none:=find_no fun x hx=>by
  split at hx
  ·cases hx
  ·rcases List.mem_singleton.1 hx with rfl
   exact decide_eq_false fun e=>hk e.symm
 unfold addR
 rw [List.find?_append,List.find?_append,e2]
 by_cases g:LessP k cur
 ·rw [find_fil (l:=l) (p:=fun x=>lesB x.1 cur) fun x _ hq=>by
   have e:x.1=k:=of_decide_eq_true hq
   show lesB x.1 cur=true
   rw [e]; exact g]
  rw [find_no (q:=keyB k) (l:=l.filter (fun x=>lesB cur x.1)) fun x hx=>decide_eq_false fun e=>by
   have e:x.1=k:=e
   have h2:LessP cur x.1:=(List.mem_filter.1 hx).2
   rw [e] at h2
   exact LessP.irr (h2.trans g)]
  simp
 ·have g':LessP cur k:=LessP.tot g hk
  rw [find_no (q:=keyB k) (l:=l.filter (fun x=>lesB x.1 cur)) fun x hx=>decide_eq_false fun e=>by
   have e:x.1=k:=e
   have h2:LessP x.1 cur:=(List.mem_filter.1 hx).2
   rw [e] at h2
   exact g h2]
  rw [find_fil (l:=l) (p:=fun x=>lesB cur x.1) fun x _ hq=>by
   have e:x.1=k:=of_decide_eq_true hq
   show lesB cur x.1=true
   rw [e]; exact g']
  simp
theorem fmap_congr {α β:Type} {f g:α→Option β}:∀ {l:List α},(∀ a∈l,f a=g a)→l.filterMap f=l.filterMap g
 | [],_=>rfl
 | a :: l,h=>by rw [List.filterMap_cons,List.filterMap_cons,h a (by simp),fmap_congr fun b hb=>h b (by simp [hb])]
theorem pick_self:∀ {K:List ByteArray} {L:List DRest},K.Pairwise LessP→Up L→(∀ x∈L,x.1∈K)→K.filterMap (fun k=>L.find? (keyB k))=L
 | [],L,_,_,h=>by
  cases L with
  | nil=>rfl
  | cons x L=>exact absurd (h x (by simp)) (by simp)
 | k :: K,[],_,_,_=>by
  rw [List.filterMap_eq_nil_iff]
  intro a _; rfl
 | k :: K,x :: L,hK,hL,h=>by
  obtain⟨k1,k2⟩:=List.pairwise_cons.1 hK
  obtain⟨l1,l2⟩:=List.pairwise_cons.1 hL
  have mem:∀ z∈L,LessP x.1 z.1:=l1
  rcases List.mem_cons.1 (h x (by simp)) with e | hx
  ·have hf:(x :: L).find? (keyB k)=some x:=by rw [List.find?_cons_of_pos (by simp [keyB,e])]
   rw [List.filterMap_cons_some (f:=fun k=>(x :: L).find? (keyB k)) hf]
   have ih:=pick_self k2 l2 (fun z hz=>by
    rcases List.mem_cons.1 (h z (by simp [hz])) with q | q
    ·exact absurd ((l1 z hz)) (by rw [q,e]; exact LessP.irr)
    ·exact q)
   congr 1
   refine Eq.trans (fmap_congr fun a ha=>?_) ih
   rw [List.find?_cons_of_neg]
   have:LessP k a:=k1 a ha
   have hne:x.1≠a:=by rw [e]; exact les_ne this
   simp [keyB,hne]
  ·have kx:LessP k x.1:=k1 x.1 hx
   have hf:(x :: L).find? (keyB k)=none:=find_no fun z hz=>decide_eq_false fun e=>by
    have e:z.1=k:=e
    rcases List.mem_cons.1 hz with rfl | hz
    ·rw [e] at kx; exact LessP.irr kx
    ·have:=kx.trans (l1 z hz)
     rw [e] at this; exact LessP.irr this
   rw [List.filterMap_cons_none (f:=fun k=>(x :: L).find? (keyB k)) hf]
   exact pick_self k2 hL fun z hz=>by
    rcases List.mem_cons.1 (h z hz) with q | q
    ·rcases List.mem_cons.1 hz with rfl | hz
     ·rw [q] at kx; exact absurd kx LessP.irr
     ·have:=kx.trans (l1 z hz)
      rw [q] at this; exact absurd this LessP.irr
    ·exact q
def insB (x:ByteArray):List ByteArray→List ByteArray
 | []=>[x]
 | y :: l=>if lesB x y=true then x :: y :: l else y :: insB x l
def codesK:List ByteArray:=(curI.map (·.1)).foldr insB []
theorem codes_up:codesK.Pairwise LessP:=by
 show codesK.Pairwise (fun a b=>Op.bytesLess a.toList b.toList=true)
 decide +kernel
theorem codes_known {k:ByteArray} (h:known k=true):k∈codesK:=by
 have h1:∀ x∈curI.map (·.1.toList),x∈codesK.map (·.toList):=by decide +kernel
 obtain⟨r,hr,e⟩:=List.mem_map.1 (known_mem h)
 obtain⟨y,hy,e2⟩:=List.mem_map.1 (h1 _ (List.mem_map_of_mem hr))
 have:y=k:=by rw [← e]; exact toList_inj.1 e2
 rw [← this]; exact hy
theorem codes_sort:(curI.map (·.1.toList)).mergeSort (fun x y=>decide (x≤y))=codesK.map (·.toList):=by
 have h1:(curI.map (·.1.toList)).Perm (codesK.map (·.toList)):=by decide +kernel
 have h2:(codesK.map (·.toList)).Pairwise (fun x y=>decide (x≤y)=true):=by decide +kernel
 rw [mergeSort_of_perm h1]
 exact List.mergeSort_of_pairwise h2
theorem pick_addR {l:List DRest} (h:RestsOkP l) {cur:ByteArray} (hc:known cur=true) {y:DRat} {F:ByteArray→Option DRest}
  (h1:F cur=if zeroQ y=true then none else some (cur,y)) (h2:∀ k,k≠cur→F k=l.find? (keyB k)):codesK.filterMap F=addR cur y l:=by
 have e:=pick_self (K:=codesK) (L:=addR cur y l) codes_up (addR_up (up_rests h)) fun x hx=>codes_known (by
  rcases addR_mem hx with hx | ⟨rfl,_⟩
  ·exact(rests_mem h hx).1
  ·exact hc)
 rw [← e]
 refine fmap_congr fun k _=>?_
 by_cases q:k=cur
 ·rw [q,h1,addR_at]
 ·rw [h2 k q,addR_else q]
section
variable {sh:List Sc} {α:Type}
theorem GV.own {r:Rp sh α} {t:TypeId} {Vb V0 V:Know} {s:SlV} {cs:List (Scs sh)} {l:List α} {fps:List Nat} (h:GV r t V0 V s cs l fps) (hl:l.length≤9223372036854775807) (le:Vb.le V0) (O:Own Vb V0 fps):∃ f,LR r V s l f∧Own Vb V f:=by
 obtain⟨b,hb,hw,hL⟩:=h.lr hl
 have le3:=h.2.2.1
 refine⟨_,hL,List.nodup_cons.2 ⟨fun hm=>?_,O.1⟩,fun y hy=>?_,fun y hy=>?_⟩
 ·obtain⟨c,u,k⟩:=O.2.2 b hm
  rw [hb] at k; cases k
 ·rcases List.mem_cons.1 hy with rfl | hy
  ·exact none_of_le le hb
  ·exact O.2.1 y hy
 ·rcases List.mem_cons.1 hy with rfl | hy
  ·exact hw
  ·exact(O.post le3).2.2 y hy
end
abbrev strV (l:List ByteArray):List Value:=l.map Value.string
theorem str_get {l:List ByteArray} {j:Nat} (h:j<l.length):(l.map (·.toList)).toArray[j]! = l[j].toList:=by
 rw [getElem!_pos _ j (by simpa using h)]
 simp
theorem enc_str (b:ByteArray):encStr b.toList=Value.string b:=by
 show Value.string ⟨b.toList.toArray⟩=_
 rw [toList_data]
theorem cI_sortStrings {V:Know} {b n cap:Nat} {l l':List ByteArray} {post:List Value} {t:TypeId} (hn:n=l.length) (hl:l.length≤1000000) (hb:V b=some (strV l++post,(t,(0,0))))
  (hs:(l.map (·.toList)).mergeSort (fun x y=>decide (x≤y))=l'.map (·.toList)) :
  CallX Tryz.prog V 278 [.slice (some ⟨b,0,none⟩) n cap] (fun V' r=>V'=kset V b (strV l'++post,(t,(0,0)))∧r=.tuple #[]):=by
 refine⟨⟨_,Tryz.func278,by kernel_rfl,by kernel_rfl⟩,fun w hw=>?_⟩
 have hk:w.heap[b]?=some (.cells (strV l++post).toArray t (0,0)):=by rw [hw b _ _ hb,objOf_rw]
 have hlt:=(Array.getElem?_eq_some_iff.1 hk).1
 have hH:Go.Sort.Holds encStr w b 0 (l.map (·.toList)).toArray:=fun j hj=>by
  have hj':j<l.length:=by simpa using hj
  refine⟨?_,by simp [World.frozen?,hk]⟩
  rw [str_get hj',enc_str,Nat.zero_add]
  simp only [World.cell?,hk]
  show(strV l++post).toArray[j]?=_
  rw [List.getElem?_toArray,List.getElem?_append_left (by simpa using hj'),List.getElem?_map,List.getElem?_eq_getElem hj']
  rfl
 have hlen:l'.length=l.length:=by
  have:=congrArg List.length hs
  rw [List.length_mergeSort] at this
  simpa using this.symm
 have key:=Tryz.sort_Strings b 0 cap (l.map (·.toList)) w hH hlt (by simp; omega)
 rw [List.length_map,← hn] at key
 refine key.mono ?_
 rintro e w' ⟨rfl,m,os,rfl⟩
 rw [hs]
 have hcells:Go.Sort.putCells encStr 0 (l'.map (·.toList)).toArray (strV l++post).toArray=(strV l'++post).toArray:=by
  apply Array.ext_getElem?
  intro k
  simp only [Go.Sort.putCells,Array.getElem?_mapIdx,List.getElem?_toArray,Nat.zero_le,true_and,Nat.zero_add,List.size_toArray,List.length_map,Nat.sub_zero]
  by_cases hk':k<l'.length
  ·have hk2:k<l.length:=by omega
   rw [List.getElem?_append_left (by simpa using hk2),List.getElem?_append_left (by simpa using hk'),List.getElem?_map,List.getElem?_map,List.getElem?_eq_getElem hk2,List.getElem?_eq_getElem hk']
   simp only [Option.map_some,hk',if_true]
   rw [str_get hk',enc_str]
  ·rw [List.getElem?_append_right (by simp; omega),List.getElem?_append_right (by simp; omega)]
   have hk2:¬ k<l.length:=by omega
   simp only [List.length_map,hlen,hk2,if_false]
   cases post[k-l.length]? <;> rfl
 have hb':(Go.Sort.putRow encStr (Go.Sort.ahead w m) b 0 (l'.map (·.toList)).toArray).heap[b]?=some (.cells (strV l'++post).toArray t (0,0)):=by
  simp only [Go.Sort.putRow,Go.Sort.mapBlock]
  show(w.heap.modify b _)[b]?=_
  rw [Array.getElem?_modify,if_pos rfl,hk]
  simp only [Option.map_some,Go.Sort.onCells,hcells]
 have ho:∀ k,k≠b→(Go.Sort.putRow encStr (Go.Sort.ahead w m) b 0 (l'.map (·.toList)).toArray).heap[k]?=w.heap[k]?:=fun k hne=>by
  simp only [Go.Sort.putRow,Go.Sort.mapBlock]
  show(w.heap.modify b _)[k]?=_
  rw [Array.getElem?_modify,if_neg (fun e=>hne e.symm)]
 have hsz:(Go.Sort.putRow encStr (Go.Sort.ahead w m) b 0 (l'.map (·.toList)).toArray).heap.size=w.heap.size:=by
  simp [Go.Sort.putRow,Go.Sort.mapBlock,Go.Sort.ahead]
 have hg:∀ k,k<w.heap.size→(Go.Sort.grow (Go.Sort.putRow encStr (Go.Sort.ahead w m) b 0 (l'.map (·.toList)).toArray) os).heap[k]?=(Go.Sort.putRow encStr (Go.Sort.ahead w m) b 0 (l'.map (·.toList)).toArray).heap[k]?:=fun k hk=>by
  simp only [Go.Sort.grow]
  exact Array.getElem?_append_left (by rw [hsz]; exact hk)
 refine⟨_,_,rfl,⟨rfl,rfl,rfl,?_,fun k hkw hkn=>?_,fun k hkw hkn=>?_⟩,fun k c u hku=>?_,rfl,rfl⟩
 ·simp only [Go.Sort.grow,Array.size_append,hsz]
  omega
 ·have hne:k≠b:=fun e=>by rw [e,hb] at hkn; cases hkn
  rw [hg k hkw,ho k hne]
 ·have hne:k≠b:=fun e=>by rw [e,hb] at hkn; cases hkn
  rw [kset_other hne]; exact hkn
 ·by_cases e:k=b
  ·subst e
   rw [kset_same] at hku
   cases hku
   rw [hg k hlt,hb',objOf_rw]
  ·rw [kset_other e] at hku
   have h:=hw k c u hku
   rw [hg k (Array.getElem?_eq_some_iff.1 h).1,ho k e]; exact h
theorem cI_Curs {V:Know} (hV:HcI V):CallX Tryz.prog V 270 [] (fun V' r=>V.le V'∧∃ b c post t,V b=none∧20≤c∧V' b=some (strV codesK++post,(t,(0,0)))∧r=.slice (some ⟨b,0,none⟩) 20 c):=by
 have hV':=hV
 obtain⟨t,hV⟩:=hV
 refine CallX.of_fits Tryz.mix fI_Curs fun _=>?_
 simp only [tI_Curs,T.wp]
 refine⟨curY,by simp only [loadV,hV,Bool.false_eq_true,if_false]; exact by kernel_rfl,?_⟩
 refine⟨fun y V'=>V'=V∧∃ n:Nat,y.2.1=(n:Int)∧n≤20∧y.1.1=n∧y.1.2=strV ((curI.take n).map (·.1)),fun y=>(20-(y.2.1:Int)).toNat,
  ⟨((0,[]),(0:Int),()),rfl,rfl,0,rfl,by omega,rfl,rfl⟩,?_⟩
 rintro⟨⟨m,xs⟩,(i:Int),u⟩ V' ⟨rfl,n,hi,hn,hm,hx⟩
 replace hi:i=(n:Int):=hi
 replace hm:m=n:=hm
 replace hx:xs=strV ((curI.take n).map (·.1)):=hx
 subst hi hm hx
 have hlen:curI.length=20:=rfl
 refine⟨fun h=>?_,fun h=>?_⟩
 ·have hb1:m<curI.length:=by (have:(m:Int)<20:=(by simpa using h); omega)
  refine⟨⟨(by omega:(0:Int)≤(m:Int)),(by omega:(m:Int)<20)⟩,curI[m],?_,rfl,⟨rfl,(by show(m+1)*16≤140737488355328; omega),(by show m+1≤9223372036854775807; omega)⟩,?_⟩
  ·simp only [Int.toNat_natCast]
   exact cur_at' hb1
  ·have hw:IntKind.i64.wrap ((m:Int)+1)=((m+1:Nat):Int):=by rw [wrap_i64 (by omega)]; omega
   refine⟨_,rfl,((m+1,strV ((curI.take m).map (·.1))++[Value.string curI[m].1]),((m+1:Nat):Int),()),by rw [hw]; rfl,⟨rfl,m+1,rfl,by omega,rfl,?_⟩,?_⟩
   ·show strV ((curI.take m).map (·.1))++[Value.string curI[m].1]=strV ((curI.take (m+1)).map (·.1))
    rw [List.take_succ_eq_append_getElem hb1,List.map_append]
    show _=List.map Value.string _
    rw [List.map_append]
    rfl
   ·show(20-((m+1:Nat):Int)).toNat<(20-(m:Int)).toNat
    omega
 ·have hn20:m=20:=by (have:¬ (m:Int)<20:=(by simpa using h); omega)
  subst hn20
  intro b c sp hb hc _
  have e20:strV ((curI.take 20).map (·.1))=strV (curI.map (·.1)):=rfl
  refine(cI_sortStrings (l:=curI.map (·.1)) (l':=codesK) (post:=sp) (t:=9) rfl (by decide) ?_ ?_).mono ?_
  ·rw [kset_same]; rfl
  ·rw [← codes_sort,List.map_map]; rfl
  rintro V2 _ ⟨rfl,rfl⟩
  refine⟨nofun,(),rfl,kset_le2 (kset_le hb) hb,b,c,sp,_,hb,hc,kset_same,rfl⟩
theorem codes_len:codesK.length=20:=by decide +kernel
abbrev RaI (V:Know) (l:List DRest) (c:ByteArray) (r:DRat):Know→Value→Prop:=fun V' v=>V.le V'∧∃ t l' f e,v=.tuple #[Sc.val .l t,.bool e]∧LR rRest V' t l' f∧Own V V' f∧KeepQ l c r l' e
abbrev RaSh:List Sc:=[.b,.l,.l]
abbrev Ent:Type:=ByteArray × Scs RaSh × DRat × List Nat
def entV (e:Ent):ByteArray × Value:=(e.1,qv1 e.2.1)
def entD (e:Ent):DRest:=(e.1,e.2.2.1)
def EntsOk (V V':Know) (m:Nat) (E:List Ent):Prop:=(∀ e∈E,rRat.R V' e.2.1 e.2.2.1 e.2.2.2∧Own V V' e.2.2.2∧m ∉ e.2.2.2∧e.1.size≤9223372036854775807)∧E.Pairwise fun a b=>a.1≠b.1∧∀ x∈a.2.2.2,x ∉ b.2.2.2
theorem EntsOk.le {V V' V2:Know} {m:Nat} {E:List Ent} (h:EntsOk V V' m E) (le:V'.le V2):EntsOk V V2 m E :=
 ⟨fun e he=>let ⟨a,b,c,d⟩:=h.1 e he; ⟨rRat.le a le,b.post le,c,d⟩,h.2⟩
theorem EntsOk.kset {V V':Know} {m:Nat} {E:List Ent} (h:EntsOk V V' m E) (x:List Value × KTy):EntsOk V (kset V' m x) m E :=
 ⟨fun e he=>by
  obtain⟨a,b,c,d⟩:=h.1 e he
  have ho:∀ y∈e.2.2.2,Sx.kset V' m x y=V' y:=fun y hy=>kset_other (fun q=>c (q ▸ hy))
  refine⟨rRat.loc a ho,⟨b.1,b.2.1,fun y hy=>?_⟩,c,d⟩
  obtain⟨u,t,k⟩:=b.2.2 y hy
  exact⟨u,t,by rw [ho y hy]; exact k⟩,h.2⟩
theorem ents_apart {E:List Ent} (h:E.Pairwise fun a b=>a.1≠b.1∧∀ x∈a.2.2.2,x ∉ b.2.2.2) {a b:Ent} (ha:a∈E) (hb:b∈E) (hn:a.1≠b.1):∀ x∈a.2.2.2,x ∉ b.2.2.2:=by
 obtain⟨i,hi,rfl⟩:=List.mem_iff_getElem.1 ha
 obtain⟨j,hj,rfl⟩:=List.mem_iff_getElem.1 hb
 have k:=List.pairwise_iff_getElem.1 h
 rcases Nat.lt_trichotomy i j with q | q | q
 ·exact(k i j hi hj q).2
 ·subst q; exact absurd rfl hn
 ·exact fun x h1 h2=>(k j i hj hi q).2 x h2 h1
theorem lk_ent {k:ByteArray}:∀ {E:List Ent} {j:Nat},((lkT k (E.map entV) j).map (·.2))=(E.find? fun e=>decide (e.1=k)).map fun e=>qv1 e.2.1
 | [],_=>rfl
 | e :: E,j=>by
  rw [List.map_cons,lkT]
  by_cases h:e.1=k
  ·rw [if_pos (show k=(entV e).1 from h.symm),List.find?_cons_of_pos (by simp [h])]; rfl
  ·rw [if_neg (fun q=>h (show(entV e).1=k from q.symm)),List.find?_cons_of_neg (by simp [h]),lk_ent]
theorem lk_none {k:ByteArray} {E:List Ent} {j:Nat} (h:(E.find? fun e=>decide (e.1=k))=none):lkT k (E.map entV) j=none:=by
 have:=lk_ent (k:=k) (E:=E) (j:=j)
 rw [h] at this
 simpa using this
theorem lk_some {k:ByteArray} {E:List Ent} {j:Nat} {e:Ent} (h:(E.find? fun e=>decide (e.1=k))=some e):∃ i,lkT k (E.map entV) j=some (i,qv1 e.2.1):=by
 have:=lk_ent (k:=k) (E:=E) (j:=j)
 rw [h] at this
 cases hl:lkT k (E.map entV) j with
 | none=>rw [hl] at this; cases this
 | some p =>
  obtain⟨i,v⟩:=p
  rw [hl] at this
  simp at this
  exact⟨i,by rw [this]⟩
def FOf (E:List Ent) (k:ByteArray):Option DRest:=(E.find? fun e=>decide (e.1=k)).map entD
theorem fOf_data {E:List Ent} {D:List DRest} (h:E.map entD=D) (k:ByteArray):FOf E k=D.find? (keyB k):=by
 rw [← h,List.find?_map]; rfl
abbrev dataD (c:ByteArray) (y:DRat) (l:List DRest):List DRest:=(if zeroQ y=true then [] else [(c,y)])++l.filter fun x=>decide (x.1≠c)
theorem fOf_cur {E:List Ent} {c:ByteArray} {y:DRat} {l:List DRest} (h:E.map entD=dataD c y l):FOf E c=if zeroQ y=true then none else some (c,y):=by
 rw [fOf_data h,List.find?_append,find_no (l:=l.filter _) fun x hx=>by
  have:=(List.mem_filter.1 hx).2
  simpa [keyB] using this]
 split
 ·rfl
 ·simp [keyB]
theorem fOf_else {E:List Ent} {c k:ByteArray} {y:DRat} {l:List DRest} (h:E.map entD=dataD c y l) (hk:k≠c):FOf E k=l.find? (keyB k):=by
 rw [fOf_data h,List.find?_append,find_no (l:=if zeroQ y=true then [] else [(c,y)]) fun x hx=>?_,Option.none_or]
 ·exact find_fil fun x _ hq=>by
   have e:x.1=k:=of_decide_eq_true hq
   exact decide_eq_true (by rw [e]; exact hk)
 ·split at hx
  ·cases hx
  ·rcases List.mem_singleton.1 hx with rfl
   exact decide_eq_false fun e=>hk e.symm
abbrev mapRT:TypeId:=291
abbrev zRat:Scs RaSh:=(false,⟨none,0,0⟩,⟨none,0,0⟩,())
theorem rat_zero:∀ w,(zeroValue 50).run Tryz.prog w=.ok (qv1 zRat) w:=fun w=>prun_run (by kernel_rfl) w
theorem mapR_und:Tryz.prog.underlying mapRT=some (.map 9 50):=by kernel_rfl
theorem str_und:Tryz.prog.underlying 9=some .string:=by kernel_rfl
theorem strV_flat:∀ l:List ByteArray,strV l=l.flatMap fun s=>[Value.string s]
 | []=>rfl
 | a :: l=>by
  rw [List.flatMap_cons,← strV_flat l]; rfl
theorem str_at {V:Know} {b k:Nat} {l:List ByteArray} {post:List Value} {t:KTy} (h:V b=some (strV l++post,t)) (hk:k<l.length):loadV V ((⟨b,0,none⟩:Addr).add (k*1)) 1=some [.string l[k]]:=by
 simp only [addr_add_eq,loadV,h,Nat.zero_add]
 rw [strV_flat]
 exact cutv_flat (f:=fun s:ByteArray=>[Value.string s]) (fun _=>rfl) hk post
theorem cI_RestAdd {V:Know} (hV:HcI V) (s:SlV) (l:List DRest) (f:List Nat) (h:LR rRest V s l f) (hl:RestsOkP l) (c:ByteArray) (kc:known c=true) (d:Scs [.b,.l,.l]) (r:DRat) (g:List Nat) (hr:rRat.R V d r g) (ok:RatP r) :
  CallX Tryz.prog V 267 [Sc.val .l s,.string c,qv1 d] (RaI V l c r):=by
 refine CallX.of_fits Tryz.mix (fI_RestAdd _ _ _) fun _=>?_
 have h20:=rests_len hl
 have n0:=h.1
 simp only [tI_RestAdd,ap_d,T.wp]
 obtain⟨s2,s2',g2,g2',rfl,A2,B2,_⟩:=rat_elim hr
 refine(cI_RestsOk hV s l f h).mono ?_
 rintro V1 _ ⟨le1,e1,rfl,he1⟩
 obtain rfl:e1=true:=he1.2 hl
 refine⟨nofun,true,rfl,nofun,fun _=>(cI_RatOk V1 _ s2 s2' _ _ _ _ (A2.le le1) (B2.le le1)).mono ?_⟩
 rintro V2 _ ⟨le2,e2,rfl,he2⟩
 obtain rfl:e2=true:=he2.2 ok
 have l2:=le1.trans le2
 refine⟨nofun,true,rfl,nofun,fun _=>(kI_CurKnown (hV.le l2) c).mono ?_⟩
 rintro V3 _ ⟨le3,rfl⟩
 have l3:=l2.trans le3
 refine⟨nofun,_,rfl,fun hf=>?_,fun _=>(cI_RestOf V3 s l f (h.le l3) (rests_rat hl) c).mono ?_⟩
 ·rw [kc] at hf; cases hf
 rintro V4 _ ⟨le4,c4,f4,rfl,R4⟩
 rw [restOf_at] at R4
 obtain⟨s1,s1',g1,g1',rfl,A1,B1,_⟩:=rat_elim R4
 have l4:=l3.trans le4
 refine⟨fun _=>le4,_,rfl,(cI_RatAdd V4 _ s1 s1' _ s2 s2' _ _ _ _ _ _ _ _ A1 B1 (A2.le l4) (B2.le l4) (atR_ok hl c) ok).mono ?_⟩
 rintro V5 _ ⟨le5,c5,y,e,f5,rfl,R5,O5,hy⟩
 have l5:=l4.trans le5
 refine⟨nofun,(c5,e,()),rfl,fun hf=>?_,fun ht=>?_⟩
 ·obtain rfl:e=false:=by simpa using hf
  exact⟨l5,⟨none,0,0⟩,[],[],false,rfl,lrNil,Own.nil,.inr ⟨rfl,rfl,y,hy⟩⟩
 obtain rfl:e=true:=by simpa using ht
 have yok:=redS_ok (Int.mul_pos (ratP_pos (atR_ok hl c)) (ratP_pos ok)) hy rfl
 refine semx_mk.mono ?_
 rintro V6 _ ⟨m,hm5,rfl,rfl⟩
 have hm:V m=none:=none_of_le l5 hm5
 have O5':Own V V5 f5:=O5.pre l4
 have hmf:m ∉ f5:=fun hx=>by
  obtain⟨u,t,k⟩:=O5'.2.2 m hx
  rw [hm5] at k; cases k
 have l6:V.le (kset V5 m (mapC [],(0,(1,0)))):=kset_le2 l5 hm
 refine⟨⟨.map (some m),rfl⟩,rfl,?_⟩
 refine(semx_upText (l:=[]) (i:=0) (c:=0) mapR_und str_und (kset_same (x:=(mapC [],(0,(1,0))))) rfl c (qv1 c5) (fun p hp=>by cases hp)).mono ?_
 rintro V7 _ ⟨rfl,rfl⟩
 have E1:EntsOk V (kset (kset V5 m (mapC [],(0,(1,0)))) m (mapC (entsT 0 ([]++[(c,qv1 c5)])),(0+([]++[(c,qv1 c5)]).length,(1,0)))) m [(c,c5,y,f5)] :=
  EntsOk.kset (EntsOk.kset ⟨fun e he=>by
   rcases List.mem_singleton.1 he with rfl
   exact⟨R5,O5',hmf,known_len kc⟩,List.pairwise_singleton ..⟩ _) _
 refine⟨(),rfl,?_⟩
 refine⟨fun z V'=>V.le V'∧∃ (k:Nat) (E:List Ent),z.1=(k:Int)∧k≤l.length∧V' m=some (mapC (entsT 0 (((c,c5,y,f5) :: E).map entV)),(0+(((c,c5,y,f5) :: E).map entV).length,(1,0)))∧EntsOk V V' m ((c,c5,y,f5) :: E)∧E.map entD=(l.take k).filter fun x=>decide (x.1≠c),fun z _=>((l.length:Int)-(z.1:Int)).toNat,
  ⟨((0:Int),()),rfl,kset_le2 l6 hm,0,[],rfl,Nat.zero_le _,kset_same,E1,rfl⟩,?_⟩
 rintro⟨(i:Int),u⟩ V8 ⟨l8,k,E,hk,hkl,hmap,hE,hD⟩
 replace hk:i=(k:Int):=hk
 subst hk
 refine⟨fun hlt=>?_,fun hge=>?_⟩
 ·have hi:k<l.length:=by
   have:(k:Int)<(s.n:Int):=of_decide_eq_true hlt
   omega
  obtain⟨b1,o1,⟨c0,cr⟩,fc,a1,l1,hR,_⟩:=(h.le l8).at hi
  have e0:(k:Int).toNat=k:=by omega
  have ename:c0=l[k].1:=hR.1.1
  subst ename
  have hmm:((l.length:Int)-((k+1:Nat):Int)).toNat<((l.length:Int)-(k:Int)).toNat:=by omega
  have htk:=List.take_succ_eq_append_getElem hi
  dsimp only
  rw [e0]
  refine⟨_,a1,by omega,by omega,(l[k].1,cr),l1,fun hne=>?_,fun heq=>?_⟩
  ·have nc:l[k].1≠c:=fun e=>by
    have h1:(!(l[k].1.toList == c.toList))=true:=hne
    rw [text_eq.2 e] at h1; cases h1
   have htx:=totE_mem rRest hi
   have hts:=rests_tot hl
   refine(kI_ratCopy V8 cr l[k].2 fc hR.2 (by have:l[k].1.size+rRat.tot l[k].2=rRest.tot l[k]:=rfl; omega)).mono ?_
   rintro V9 _ ⟨le9,c9,f9,rfl,R9,O9⟩
   have hm9:=le9 _ _ hmap
   have hmf9:m ∉ f9:=fun hx=>by
    rw [O9.2.1 m hx] at hmap; cases hmap
   have hkeys:∀ p∈((c,c5,y,f5) :: E).map entV,l[k].1≠p.1:=fun p hp=>by
    obtain⟨e,he,rfl⟩:=List.mem_map.1 hp
    rcases List.mem_cons.1 he with rfl | he
    ·exact nc
    ·have q:entD e∈E.map entD:=List.mem_map_of_mem he
     rw [hD] at q
     obtain⟨j,hj,e2⟩:=List.mem_iff_getElem.1 (List.mem_filter.1 q).1
     rw [List.getElem_take] at e2
     have hjk:j<k:=by
      have:=hj
      rw [List.length_take] at this
      omega
     have:l[j].1=e.1:=congrArg Prod.fst e2
     show l[k].1≠e.1
     rw [← this]
     exact(les_ne ((rests_sorted hl).lt hi hjk)).symm
   refine⟨fun _=>le9,c9,rfl,(semx_upText mapR_und str_und hm9 rfl l[k].1 (qv1 c9) hkeys).mono ?_⟩
   rintro V10 _ ⟨rfl,rfl⟩
   have l9:=l8.trans le9
   have hE9:EntsOk V V9 m (((c,c5,y,f5) :: E)++[(l[k].1,c9,l[k].2,f9)]):=⟨fun e he=>by
    rcases List.mem_append.1 he with he | he
    ·exact(hE.le le9).1 e he
    ·rcases List.mem_singleton.1 he with rfl
     exact⟨R9,O9.pre l8,hmf9,hR.1.2⟩,List.pairwise_append.2 ⟨hE.2,List.pairwise_singleton ..,fun a ha b hb=>by
      rcases List.mem_singleton.1 hb with rfl
      refine⟨fun q=>hkeys _ (List.mem_map_of_mem ha) q.symm,fun x hx hx2=>?_⟩
      obtain⟨u,t,q⟩:=(hE.1 a ha).2.1.2.2 x hx
      rw [O9.2.1 x hx2] at q; cases q⟩⟩
   refine⟨(),rfl,_,rfl,(((k+1:Nat):Int),()),by rw [nxt hi (by omega)]; rfl,⟨kset_le2 l9 hm,k+1,E++[(l[k].1,c9,l[k].2,f9)],rfl,hi,?_,EntsOk.kset hE9 _,?_⟩,hmm⟩
   ·have em:List.map entV ((c,c5,y,f5) :: (E++[(l[k].1,c9,l[k].2,f9)]))=List.map entV ((c,c5,y,f5) :: E)++[(l[k].1,qv1 c9)]:=by simp [entV]
    rw [kset_same,em]
   ·rw [List.map_append,hD,htk,List.filter_append,List.filter_cons_of_pos (by simpa using nc)]; rfl
  ·have ec:l[k].1=c:=by
    have h1:(!(l[k].1.toList == c.toList))=false:=heq
    exact text_eq.1 (by simpa using h1)
   refine⟨_,rfl,(((k+1:Nat):Int),()),by rw [nxt hi (by omega)]; rfl,⟨l8,k+1,E,rfl,hi,hmap,hE,?_⟩,hmm⟩
   rw [hD,htk,List.filter_append,List.filter_cons_of_neg (by simp [ec])]; simp
 have hi:k=l.length:=by
  have:¬ (k:Int)<(s.n:Int):=of_decide_eq_false hge
  omega
 subst hi
 rw [List.take_length] at hD
 refine⟨fun _ V'=>V.le V'∧∃ (j clk:Nat) (E:List Ent),V' m=some (mapC (entsT j (E.map entV)),(clk,(1,0)))∧EntsOk V V' m E∧E.map entD=dataD c y l,?_,?_⟩
 ·have R8:=(hE.1 (c,c5,y,f5) (by simp)).1
  obtain⟨sy,sy',gy,gy',ec5,Ay,By,_⟩:=rat_elim R8
  replace ec5:c5=(y.1,sy,sy',()):=ec5
  refine CallX.mono (K:=fun V'' v=>V8.le V''∧v=.int .i64 (sgn (rS y))) ?_ ?_
  ·rw [ec5]
   exact cI_RatSign V8 _ sy sy' _ _ _ _ Ay By yok
  rintro V9 _ ⟨le9,rfl⟩
  have l9:=l8.trans le9
  have hm9:=le9 _ _ hmap
  refine⟨nofun,_,rfl,fun hz=>?_,fun hz=>?_⟩
  ·have hz':zeroQ y=true:=hz
   refine(semx_delText (i:=0) mapR_und str_und hm9 rfl).mono ?_
   rintro V10 _ ⟨rfl,rfl⟩
   refine⟨(),rfl,_,rfl,(),rfl,kset_le2 l9 hm,1,_,E,kset_same,EntsOk.kset ⟨fun e he=>(hE.le le9).1 e (by simp [he]),(List.pairwise_cons.1 hE.2).2⟩ _,?_⟩
   rw [hD,dataD,if_pos hz']; rfl
  ·have hz':zeroQ y=false:=hz
   refine⟨_,rfl,(),rfl,l9,0,_,(c,c5,y,f5) :: E,hm9,hE.le le9,?_⟩
   rw [List.map_cons,hD,dataD,if_neg (by rw [hz']; decide)]; rfl
 ·rintro _ V9 ⟨l9,j,clk,E9,hm9,hE9,hD9⟩
  refine(cI_Curs (hV.le l9)).mono ?_
  rintro V10 _ ⟨le10,b,cp,post,t,hb,hcp,hcur,rfl⟩
  have l10:=l9.trans le10
  have hm10:=le10 _ _ hm9
  have hE10:=hE9.le le10
  refine⟨nofun,⟨some ⟨b,0,none⟩,20,cp⟩,rfl,fun b11 c11 sp hb11 _ hsp=>?_⟩
  refine⟨fun z V'=>∃ (k:Nat) (cs:List (Scs ReSh)) (fps:List Nat),z.2.1=(k:Int)∧k≤20∧GV rRest reT V10 V' z.1 cs ((codesK.take k).filterMap (FOf E9)) fps∧fps.Nodup∧∀ x∈fps,∃ e∈E9,e.1∈codesK.take k∧x∈e.2.2.2,fun z _=>((20:Int)-(z.2.1:Int)).toNat,
   ⟨(⟨some ⟨b11,0,none⟩,0,c11⟩,(0:Int),()),rfl,0,[],[],rfl,Nat.zero_le _,GV.start hb11 (by rw [hsp]; rfl),List.nodup_nil,fun x hx=>by cases hx⟩,?_⟩
  rintro⟨s7,(i:Int),u⟩ V11 ⟨k,cs,fps,hk,hkl,G,nd,hf⟩
  replace hk:i=(k:Int):=hk
  subst hk
  replace G:GV rRest reT V10 V11 s7 cs ((codesK.take k).filterMap (FOf E9)) fps:=G
  have le11:=G.2.2.1
  have hlen:=codes_len
  have hout:((codesK.take k).filterMap (FOf E9)).length≤20:=by
   refine Nat.le_trans (List.length_filterMap_le ..) ?_
   rw [List.length_take]; omega
  refine⟨fun hlt=>?_,fun hge=>?_⟩
  ·have hi:k<codesK.length:=by
    have:(k:Int)<((20:Nat):Int):=of_decide_eq_true hlt
    omega
   have e0:(k:Int).toNat=k:=by omega
   have htk:=List.take_succ_eq_append_getElem hi
   have hmm:((20:Int)-((k+1:Nat):Int)).toNat<((20:Int)-(k:Int)).toNat:=by omega
   have nx:IntKind.i64.wrap ((k:Int)+1)=((k+1:Nat):Int):=nxt hi (by omega)
   dsimp only
   rw [e0]
   refine⟨_,rfl,(by omega:(0:Int)≤(k:Int)),(by omega:(k:Int)<((20:Nat):Int)),codesK[k],str_at (le11 _ _ hcur) hi,?_⟩
   refine(semx_lkText mapR_und str_und (le11 _ _ hm10) rat_zero codesK[k]).mono ?_
   rintro V12 _ ⟨rfl,rfl⟩
   cases hfe:E9.find? fun e=>decide (e.1=codesK[k]) with
   | none =>
    rw [lk_none hfe]
    have hF:FOf E9 codesK[k]=none:=by rw [FOf,hfe]; rfl
    refine⟨(zRat,false,()),rfl,nofun,fun _=>⟨_,rfl,(s7,((k+1:Nat):Int),()),by rw [nx]; rfl,⟨k+1,cs,fps,rfl,by omega,?_,nd,fun x hx=>?_⟩,hmm⟩⟩
    ·rw [htk,List.filterMap_append,List.filterMap_cons_none hF,List.filterMap_nil,List.append_nil]; exact G
    ·obtain⟨e,he,h1,h2⟩:=hf x hx
     exact⟨e,he,by rw [htk]; exact List.mem_append_left _ h1,h2⟩
   | some e =>
    obtain⟨j2,hlk⟩:=lk_some (j:=0) hfe
    rw [hlk]
    have he:=List.mem_of_find?_eq_some hfe
    have hek:e.1=codesK[k]:=by
     have hp:=List.find?_some hfe
     simpa using hp
    have hF:FOf E9 codesK[k]=some (entD e):=by rw [FOf,hfe]; rfl
    obtain⟨Re,Oe,_,ze⟩:=hE10.1 e he
    have rowE:rRest.R V10 ((codesK[k],e.2.1):Scs ReSh) (entD e) e.2.2.2:=⟨⟨hek.symm,ze⟩,Re⟩
    refine⟨(e.2.1,true,()),rfl,fun _=>⟨rfl,rfl,ap_rowV (sh:=ReSh) (c:=(codesK[k],e.2.1)) G rowE (by kernel_rfl) (by omega) (by omega) fun s9 V13 G9=>?_⟩,nofun⟩
    refine⟨_,rfl,(s9,((k+1:Nat):Int),()),by rw [nx]; rfl,⟨k+1,cs++[(codesK[k],e.2.1)],fps++e.2.2.2,rfl,by omega,?_,?_,fun x hx=>?_⟩,hmm⟩
    ·rw [htk,List.filterMap_append,List.filterMap_cons_some hF,List.filterMap_nil]; exact G9
    ·refine List.nodup_append.2 ⟨nd,Oe.1,fun a ha b hb2 hab=>?_⟩
     subst hab
     obtain⟨e2,he2,h1,h2⟩:=hf a ha
     have hne:e2.1≠e.1:=fun q=>by
      rw [hek] at q
      obtain⟨j3,hj3,e3⟩:=List.mem_iff_getElem.1 h1
      rw [List.getElem_take] at e3
      have hjk:j3<k:=by
       have:=hj3
       rw [List.length_take] at this
       omega
      exact les_ne (List.pairwise_iff_getElem.1 codes_up j3 k (by omega) hi hjk) (e3.trans q)
     exact ents_apart hE9.2 he2 he hne a h2 hb2
    ·rcases List.mem_append.1 hx with hx | hx
     ·obtain⟨e2,he2,h1,h2⟩:=hf x hx
      exact⟨e2,he2,by rw [htk]; exact List.mem_append_left _ h1,h2⟩
     ·exact⟨e,he,by rw [htk,hek]; exact List.mem_append_right _ (List.mem_singleton.2 rfl),hx⟩
  ·have hi:k=20:=by
    have:¬ (k:Int)<((20:Nat):Int):=of_decide_eq_false hge
    omega
   subst hi
   have hall:codesK.take 20=codesK:=List.take_of_length_le (by omega)
   rw [hall,pick_addR hl kc (fOf_cur hD9) (fun k hk=>fOf_else hD9 hk)] at G
   have hOwn:Own V V10 fps:=⟨nd,fun x hx=>by
    obtain⟨e,he,_,h2⟩:=hf x hx
    exact(hE10.1 e he).2.1.2.1 x h2,fun x hx=>by
    obtain⟨e,he,_,h2⟩:=hf x hx
    exact(hE10.1 e he).2.1.2.2 x h2⟩
   obtain⟨ff,hL,hO⟩:=G.own (by have:=rests_len (addR_ok (y:=y) hl kc yok); omega) l10 hOwn
   exact⟨l10.trans le11,s7,_,ff,true,rfl,hL,hO,.inl ⟨rfl,y,hy,rfl⟩⟩
end Go.Proofs.YtfiakghfncempaaGreatDoor
