/-
  What the law on TextRests asks besides: remainders that are read are few.
-/
import Derived.Test.YtagkjnpggkmehaaGreatDoorRdG
namespace Go.Proofs.YtagkjnpggkmehaaGreatDoor
open Sx Go.RowKit
set_option maxRecDepth 100000
def hasMax (V:Know):Prop:=∃ m cs t,V 1=some (.int .i64 m :: cs,t)
theorem hasMax.le {V V':Know} (h:hasMax V) (k:V.le V'):hasMax V':=let ⟨m,cs,t,e⟩:=h; ⟨m,cs,t,k _ _ e⟩
theorem max_of {V:Know} (h:hasMax V) {w:World} (hw:V.on w):∃ m,w.cell? ⟨1,0,none⟩=some (.int .i64 m):=by
 obtain⟨m,cs,t,e⟩:=h
 refine⟨m,?_⟩
 rw [hw.cell e 0 (fun es k=>by cases k) (Nat.zero_lt_succ _)]; rfl
def HrI (V:Know):Prop:=HtI V∧hasMax V
theorem HrI.le {V V':Know} (h:HrI V) (k:V.le V'):HrI V':=⟨h.1.le k,h.2.le k⟩
theorem cX_Cut {V:Know} (hV:hasMax V) (s sep:ByteArray) (hs:s.size≤1048576):CallX Tryz.prog V 94 [.string s,.string sep] (fun V' r=>V'=V∧r=.tuple #[.string (ofL (Go.Lib.cut (bl s) (bl sep)).1),.string (ofL (Go.Lib.cut (bl s) (bl sep)).2.1),.bool (Go.Lib.cut (bl s) (bl sep)).2.2]):=by
 refine CallX.of_calls ⟨_,Tryz.func94,by kernel_rfl,by kernel_rfl⟩ fun w hw=>?_
 obtain⟨m,hm⟩:=max_of hV hw
 refine(Tryz.strings_Cut s sep m w (by omega) hm).mono ?_
 rintro e w' ⟨rfl,n,rfl⟩
 exact⟨rfl,⟨rfl,rfl,rfl,Nat.le_refl _,fun _ _=>rfl⟩⟩
theorem CallX.of_row {P:Program} {V:Know} {g:FuncId} {args:List Value} {vs:List Value} {t:TypeId} (he:Sx.Enters P g)
  (h:∀ w,V.on w→Calls P g args.toArray w fun e w'=>e=.returned (.slice (some ⟨w.heap.size,0,none⟩) vs.length vs.length)∧w'=w.alloc (.cells vs.toArray t)) :
  CallX P V g args (fun V' r=>∃ b,V b=none∧V'=kset V b (vs,(t,(0,0)))∧r=.slice (some ⟨b,0,none⟩) vs.length vs.length) :=
 ⟨he,fun w hw=>(h w hw).mono fun e w' ⟨h1,h2⟩=>by
  subst h1 h2
  refine⟨kset V w.heap.size (vs,(t,(0,0))),_,rfl,⟨rfl,rfl,rfl,by simp,fun b hb _=>heap_alloc_old w _ hb,fun b hb hn=>?_⟩,fun b c u hb=>?_,w.heap.size,hw.size_none,rfl,rfl⟩
  ·rw [kset_other (by omega)]; exact hn
  ·by_cases e:b=w.heap.size
   ·subst e
    rw [kset_same] at hb
    simp only [Option.some.injEq,Prod.mk.injEq] at hb
    obtain⟨rfl,rfl⟩:=hb
    rw [heap_alloc_new,objOf_rw]
   ·rw [kset_other e] at hb
    have:=hw b c u hb
    rw [heap_alloc_old w _ (Array.getElem?_eq_some_iff.1 this).1]; exact this⟩
theorem splitB_size {sep:ByteArray}:∀ (k:Nat) (s:ByteArray),∀ x∈Go.Lib.splitB sep 0 k s,x.size≤s.size
 | 0,s,x,h=>by
  obtain rfl:x=s:=by simpa [Go.Lib.splitB] using h
  exact Nat.le_refl _
 | k+1,s,x,h=>by
  unfold Go.Lib.splitB at h
  split at h
  ·obtain rfl:x=s:=by simpa using h
   exact Nat.le_refl _
  ·rcases List.mem_cons.1 h with rfl | h
   ·rw [ByteArray.size_extract]; omega
   ·have:=splitB_size k _ x h
    rw [ByteArray.size_extract] at this
    omega
theorem splitX_len (s:ByteArray):(splitX s).length=Go.Lib.countB s ⟨#[59,32]⟩+1:=Go.Lib.splitB_all _ (by decide) 0 _ s rfl
theorem cX_Split {V:Know} (hV:hasMax V) (s:ByteArray) (hs:s.size≤1048576):CallX Tryz.prog V 37 [.string s,.string ⟨#[59,32]⟩] (fun V' r=>V.le V'∧∃ t f,r=Sc.val .l t∧LR rString V' t ((splitX s).map fun n=>(n,())) f):=by
 have key:CallX Tryz.prog V 37 [.string s,.string ⟨#[59,32]⟩] (fun V' r=>∃ b,V b=none∧V'=kset V b ((splitX s).map Value.string,(9,(0,0)))∧r=.slice (some ⟨b,0,none⟩) ((splitX s).map Value.string).length ((splitX s).map Value.string).length):=by
  refine CallX.of_row (show Sx.Enters _ _ from⟨_,Tryz.func37,by kernel_rfl,by kernel_rfl⟩) fun w hw=>?_
  obtain⟨m,hm⟩:=max_of hV hw
  refine(Tryz.strings_Split s ⟨#[59,32]⟩ m w (by omega) hm (by decide)).mono ?_
  rintro e w' ⟨rfl,rfl⟩
  refine⟨?_,rfl⟩
  rw [List.length_map,splitX_len]
 refine key.mono ?_
 rintro V' _ ⟨b,hb,rfl,rfl⟩
 have hz:∀ n∈splitX s,n.size≤9223372036854775807:=fun n hn=>by
  have:=splitB_size _ s n hn; omega
 have hl:(splitX s).length≤s.size+1:=by
  have:=Go.Lib.countB_le ⟨#[59,32]⟩ (by decide) _ s (Nat.le_refl _)
  rw [splitX_len]; omega
 refine⟨kset_le hb,⟨some ⟨b,0,none⟩,(splitX s).length,(splitX s).length⟩,[b],by rw [List.length_map]; rfl,lr_texts (post:=[]) (t:=(9,(0,0))) (by rw [kset_same,List.append_nil]) hz (Nat.le_refl _) (by omega)⟩
abbrev txs (l:List DRest):List Tx:=l.map fun x=>(restX x,())
theorem restX_size {x:DRest} (h:ResP x):(restX x).size≤3000:=by
 have h1:=known_size h.1
 have h2:=ratT_size h.2
 show((x.1++(⟨#[32]⟩:ByteArray))++ratX x.2).size≤_
 rw [ByteArray.size_append,ByteArray.size_append]
 show x.1.size+1+(ratT x.2.1 x.2.2.1 x.2.2.2.1).size≤_
 omega
theorem txs_size {l:List DRest} (h:RestsOkP l):sumT (txs l)+(txs l).length*2≤1048576:=by
 have h20:=rests_len h
 have h1:=sumT_le (B:=3000) (txs l) fun x hx=>by
  obtain⟨y,hy,rfl⟩:=List.mem_map.1 hx
  exact restX_size (rests_ok h y hy)
 rw [List.length_map] at *
 omega
theorem txs_take {l:List DRest} {i:Nat} (h:i<l.length):txs (l.take (i+1))=txs (l.take i)++[(restX l[i],())]:=by
 show(l.take (i+1)).map _=(l.take i).map _++_
 rw [List.take_succ_eq_append_getElem h,List.map_append]; rfl
theorem cellT_map (l:List Tx):l.map cellT=(l.map (·.1)).map Value.string:=by rw [List.map_map]; rfl
theorem cI_RestsText {V:Know} (hV:HtI V) (s:SlV) (l:List DRest) (f:List Nat) (h:LR rRest V s l f) (ok:RestsOkP l):CallX Tryz.prog V 15 [Sc.val .l s] (TxPost V (restsX l)):=by
 refine CallX.of_fits Tryz.mix (fI_RestsText _) fun _=>?_
 simp only [tI_RestsText,T.wp]
 have hn:=h.1
 have h20:=rests_len ok
 refine⟨fun y V'=>V.le V'∧∃ i:Nat,y.1.1=i∧y.1.2=(txs (l.take i)).map cellT∧(y.2.1:Int)=(i:Int)∧i≤l.length,fun y _=>((l.length:Int)-(y.2.1:Int)).toNat,
  ⟨((0,[]),(0:Int),()),rfl,Know.le.refl _,0,rfl,rfl,rfl,Nat.zero_le _⟩,?_⟩
 rintro⟨⟨(m:Nat),(ys:List Value)⟩,(q:Int),u⟩ V1 ⟨le1,i,hm,hy,hq,hi⟩
 replace hm:m=i:=hm
 replace hy:ys=(txs (l.take i)).map cellT:=hy
 replace hq:q=(i:Int):=hq
 subst hm hy hq
 refine⟨fun hlt=>?_,fun hge=>?_⟩
 ·have hi':m<l.length:=by
   have:(m:Int)<(s.n:Int):=of_decide_eq_true hlt
   omega
  obtain⟨b1,o1,c1,fc,a1,l1,hR,_⟩:=(h.le le1).at hi'
  have hx:=rests_ok ok _ (List.getElem_mem hi')
  obtain⟨s1,s2,g1,g2,rfl,L1,L2⟩:=rest_elim hR
  dsimp only
  rw [Int.toNat_natCast]
  refine⟨_,a1,(by omega:(0:Int)≤(m:Int)),(by omega:(m:Int)<(s.n:Int)),_,l1,(cI_restText (hV.le le1) l[m] s1 s2 g1 g2 L1 L2 hx.1 hx.2).mono ?_⟩
  rintro V2 _ ⟨le2,rfl⟩
  refine⟨nofun,restX l[m],rfl,rfl,⟨rfl,(by omega:(m+1)*16≤140737488355328),(by omega:m+1≤9223372036854775807)⟩,_,rfl,((m+1,(txs (l.take (m+1))).map cellT),((m+1:Nat):Int),()),?_,⟨le1.trans le2,m+1,rfl,rfl,rfl,hi'⟩,?_⟩
  ·rw [nxt hi' (by omega),txs_take hi',List.map_append]; rfl
  ·show((l.length:Int)-((m+1:Nat):Int)).toNat<((l.length:Int)-(m:Int)).toNat
   omega
 ·have hi':m=l.length:=by
   have:¬ (m:Int)<(s.n:Int):=of_decide_eq_false hge
   omega
  subst hi'
  rw [List.take_length]
  intro b3 c3 sp hb3 hc3 _
  have hc3':l.length≤c3:=hc3
  have le3:=kset_le (x:=((txs l).map cellT++sp,((9:TypeId),((0,0):Nat × Nat)))) hb3
  have hz:∀ n∈(txs l).map (·.1),n.size≤9223372036854775807:=fun n hn=>by
   obtain⟨x,hx,rfl⟩:=List.mem_map.1 hn
   obtain⟨y,hy,rfl⟩:=List.mem_map.1 hx
   have:=restX_size (rests_ok ok y hy)
   show(restX y).size≤_
   omega
  have L:=lr_texts (V:=kset V1 b3 ((txs l).map cellT++sp,(9,(0,0)))) (b:=b3) (cap:=c3) (ns:=(txs l).map (·.1)) (post:=sp) (t:=(9,(0,0))) (by rw [kset_same,cellT_map]) hz (by rw [List.length_map,List.length_map]; exact hc3') (by rw [List.length_map,List.length_map]; omega)
  have e1:(((txs l).map (·.1)).map fun n=>(n,()))=txs l:=by
   rw [List.map_map]
   exact tx_list _
  have e2:((txs l).map (·.1)).length=l.length:=by simp
  rw [e1,e2] at L
  have hts:=txs_size ok
  rw [List.length_map] at hts
  refine(cI_Join _ ⟨some ⟨b3,0,none⟩,l.length,c3⟩ (txs l) [b3] ⟨#[59,32]⟩ L (by rw [List.length_map]; show sumT (txs l)+l.length*2≤_; omega) (by rw [List.length_map]; omega)).mono ?_
  rintro V4 _ ⟨rfl,rfl⟩
  exact⟨nofun,_,rfl,le1.trans le3,rfl⟩
theorem cS_RestsText {V:Know} (_:HtS V) (s:SlV) (l:List DRest) (f:List Nat) (h:LR rRest V s l f) (ok:RestsOkP l):CallX Tryz.prog V 36 [Sc.val .l s] (TxPost V (restsX l)):=by
 refine CallX.of_fits Tryz.mix (fS_RestsText _) fun _=>?_
 simp only [tS_RestsText,T.wp]
 have hn:=h.1
 have h20:=rests_len ok
 refine⟨fun y V'=>V.le V'∧∃ i:Nat,y.1.1=i∧y.1.2=(txs (l.take i)).map cellT∧(y.2.1:Int)=(i:Int)∧i≤l.length,fun y _=>((l.length:Int)-(y.2.1:Int)).toNat,
  ⟨((0,[]),(0:Int),()),rfl,Know.le.refl _,0,rfl,rfl,rfl,Nat.zero_le _⟩,?_⟩
 rintro⟨⟨(m:Nat),(ys:List Value)⟩,(q:Int),u⟩ V1 ⟨le1,i,hm,hy,hq,hi⟩
 replace hm:m=i:=hm
 replace hy:ys=(txs (l.take i)).map cellT:=hy
 replace hq:q=(i:Int):=hq
 subst hm hy hq
 refine⟨fun hlt=>?_,fun hge=>?_⟩
 ·have hi':m<l.length:=by
   have:(m:Int)<(s.n:Int):=of_decide_eq_true hlt
   omega
  obtain⟨b1,o1,c1,fc,a1,l1,hR,_⟩:=(h.le le1).at hi'
  have hx:=rests_ok ok _ (List.getElem_mem hi')
  have hxs:=restX_size hx
  have hks:=known_size hx.1
  obtain⟨s1,s2,g1,g2,rfl,L1,L2⟩:=rest_elim hR
  dsimp only
  rw [Int.toNat_natCast]
  refine⟨_,a1,(by omega:(0:Int)≤(m:Int)),(by omega:(m:Int)<(s.n:Int)),_,l1,(by show l[m].1.size+1≤_; omega),(cS_RatText (V:=V1) trivial l[m].2.1 s1 s2 l[m].2.2.1 l[m].2.2.2.1 g1 g2 L1 L2).mono ?_⟩
  rintro V2 _ ⟨le2,rfl⟩
  rw [okT_pos hx.2]
  refine⟨fun _=>le2,_,rfl,?_,rfl,⟨rfl,(by omega:(m+1)*16≤140737488355328),(by omega:m+1≤9223372036854775807)⟩,_,rfl,((m+1,(txs (l.take (m+1))).map cellT),((m+1:Nat):Int),()),?_,⟨le1.trans le2,m+1,rfl,rfl,rfl,hi'⟩,?_⟩
  ·rw [← ByteArray.size_append]
   exact Nat.le_trans hxs (by decide)
  ·rw [nxt hi' (by omega),txs_take hi',List.map_append]; rfl
  ·show((l.length:Int)-((m+1:Nat):Int)).toNat<((l.length:Int)-(m:Int)).toNat
   omega
 ·have hi':m=l.length:=by
   have:¬ (m:Int)<(s.n:Int):=of_decide_eq_false hge
   omega
  subst hi'
  rw [List.take_length]
  intro b3 c3 sp hb3 hc3 _
  have hc3':l.length≤c3:=hc3
  have le3:=kset_le (x:=((txs l).map cellT++sp,((9:TypeId),((0,0):Nat × Nat)))) hb3
  have hz:∀ n∈(txs l).map (·.1),n.size≤9223372036854775807:=fun n hn=>by
   obtain⟨x,hx,rfl⟩:=List.mem_map.1 hn
   obtain⟨y,hy,rfl⟩:=List.mem_map.1 hx
   have:=restX_size (rests_ok ok y hy)
   show(restX y).size≤_
   omega
  have L:=lr_texts (V:=kset V1 b3 ((txs l).map cellT++sp,(9,(0,0)))) (b:=b3) (cap:=c3) (ns:=(txs l).map (·.1)) (post:=sp) (t:=(9,(0,0))) (by rw [kset_same,cellT_map]) hz (by rw [List.length_map,List.length_map]; exact hc3') (by rw [List.length_map,List.length_map]; omega)
  have e1:(((txs l).map (·.1)).map fun n=>(n,()))=txs l:=by
   rw [List.map_map]
   exact tx_list _
  have e2:((txs l).map (·.1)).length=l.length:=by simp
  rw [e1,e2] at L
  have hts:=txs_size ok
  rw [List.length_map] at hts
  refine(cS_Join _ ⟨some ⟨b3,0,none⟩,l.length,c3⟩ (txs l) [b3] ⟨#[59,32]⟩ L (by rw [List.length_map]; show sumT (txs l)+l.length*2≤_; omega)).mono ?_
  rintro V4 _ ⟨rfl,rfl⟩
  exact⟨nofun,_,rfl,le1.trans le3,rfl⟩
theorem cut_size (s sep:ByteArray):(ofL (Go.Lib.cut (bl s) (bl sep)).1).size≤s.size∧(ofL (Go.Lib.cut (bl s) (bl sep)).2.1).size≤s.size:=by
 rw [of_size (Go.Lib.cut (bl s) (bl sep)).1,of_size (Go.Lib.cut (bl s) (bl sep)).2.1]
 have hl:∀ L:List UInt8,bl s=L→L.length=s.size:=fun L e=>by rw [← e]; exact bl_len s
 generalize hL:bl s=L
 have hl:=hl L hL
 unfold Go.Lib.cut
 split
 ·simp only [List.length_take,List.length_drop]; omega
 ·simp only [List.length_nil]; omega
abbrev ResRd (V:Know) (s:ByteArray):Know→Value→Prop:=fun V' r=>V.le V'∧∃ c x f ok,r=.tuple #[qv2 c,.bool ok]∧rRest.R V' c x f∧Own V V' f∧∀ y:DRest,ResP y→restX y=s→ok=true∧x=y
theorem cI_textRest {V:Know} (hV:HrI V) (s:ByteArray) (hs:s.size≤1048576):CallX Tryz.prog V 38 [.string s] (ResRd V s):=by
 refine CallX.of_fits Tryz.mix (fI_textRest _) fun _=>?_
 simp only [tI_textRest,T.wp]
 obtain⟨z1,z2⟩:=cut_size s ⟨#[32]⟩
 refine(cX_Cut hV.2 s ⟨#[32]⟩ hs).mono ?_
 rintro V1 _ ⟨rfl,rfl⟩
 have hb:bl (⟨#[32]⟩:ByteArray)=[32]:=rfl
 have key:∀ y:DRest,ResP y→restX y=s→Go.Lib.cut (bl s) (bl (⟨#[32]⟩:ByteArray))=(bl y.1,bl (ratX y.2),true):=fun y hy e=>by
  rw [← e,hb,restX_bl]
  exact cut_one (known_space hy.1).1
 revert z1 z2 key
 generalize Go.Lib.cut (bl s) (bl (⟨#[32]⟩:ByteArray))=p
 obtain⟨p1,p2,p3⟩:=p
 intro z1 z2 key
 refine⟨nofun,(ofL p1,ofL p2,p3,()),rfl,(cI_TextRat V1 (ofL p2) (Nat.le_trans z2 hs)).mono ?_⟩
 rintro V2 _ ⟨le2,c,x,f,ok,rfl,R2,O2,k⟩
 have hR:rRest.R V2 ((ofL p1,c):Scs [.s,.b,.l,.l]) ((ofL p1,x):DRest) f:=⟨⟨rfl,by show(ofL p1).size≤_; exact Nat.le_trans z1 (by omega)⟩,R2⟩
 refine⟨nofun,(c,ok,()),rfl,fun hp=>⟨le2,(ofL p1,c),(ofL p1,x),f,ok,rfl,hR,O2,fun y hy e=>?_⟩,fun hp=>⟨le2,(ofL p1,c),(ofL p1,x),f,false,rfl,hR,O2,fun y hy e=>?_⟩⟩
 ·have:=key y hy e
  simp only [Prod.mk.injEq] at this
  obtain⟨rfl,rfl,_⟩:=this
  rw [of_bl] at k
  rcases k with ⟨k1,k2,k3⟩ | ⟨_,_,k3⟩
  ·exact⟨k1,by rw [of_bl,ratX_inj k2 hy.2 (k3.trans (of_bl _))]⟩
  ·exact absurd ⟨y.2,hy.2,(of_bl _).symm⟩ k3
 ·have:=key y hy e
  simp only [Prod.mk.injEq] at this
  have h3:p3=false:=hp
  rw [h3] at this
  cases this.2.2
end Go.Proofs.YtagkjnpggkmehaaGreatDoor
namespace Go.Proofs.YtagkjnpggkmehaaGreatDoor
open Sx Go.RowKit
set_option maxRecDepth 100000
def strip1 (x:Tx):Tx:=if (bl x.1).head?=some 32 then (x.1.extract 1 x.1.size,()) else x
def part19:List Tx→List Tx
 | []=>[]
 | p :: r=>p :: r.map strip1
def stripTo (P:List Tx) (i:Nat) (L:List Tx):Prop:=L.length=P.length∧∀ (j:Nat) (h:j<P.length) (h':j<L.length),L[j]=if 0<j∧j<i then strip1 P[j] else P[j]
theorem part19_of {P L:List Tx} {i:Nat} (h:stripTo P i L) (hi:P.length≤i):L=part19 P:=by
 cases P with
 | nil=>exact List.eq_nil_of_length_eq_zero h.1
 | cons p r =>
  refine List.ext_getElem (by rw [h.1]; simp [part19]) fun j h1 h2=>?_
  rw [h.2 j (by rw [← h.1]; exact h1) h1]
  cases j with
  | zero=>simp [part19]
  | succ j =>
   have h3:j+1<i:=by
    have:=h.1; omega
   rw [if_pos ⟨by omega,h3⟩]
   simp [part19]
theorem strip1_hit {x:Tx} (h:0<x.1.size) (k:at0 x.1 0=32):strip1 x=(x.1.extract 1 x.1.size,()):=by
 have hl:=bl_len x.1
 have h0:0<(bl x.1).length:=by omega
 rw [at0_bl h0] at k
 unfold strip1
 rw [if_pos]
 rw [List.head?_eq_getElem?,List.getElem?_eq_getElem h0]
 congr 1
 apply UInt8.toNat_inj.1
 show(bl x.1)[0].toNat=32
 omega
theorem strip1_miss {x:Tx} (k:¬ (0<x.1.size∧at0 x.1 0=32)):strip1 x=x:=by
 unfold strip1
 rw [if_neg]
 intro e
 cases hq:bl x.1 with
 | nil=>rw [hq] at e; cases e
 | cons c r =>
  rw [hq] at e
  obtain rfl:c=32:=by simpa using e
  have hl:=bl_len x.1
  rw [hq] at hl
  simp only [List.length_cons] at hl
  refine k ⟨by omega,?_⟩
  show(((bl x.1).getD 0 0).toNat:Int)=32
  rw [hq]; rfl
theorem setStep {P L:List Tx} {i:Nat} (h:stripTo P i L) (h0:0<i) (hi:i<P.length):stripTo P (i+1) (L.set i (strip1 P[i])):=by
 refine⟨by rw [List.length_set]; exact h.1,fun j h1 h2=>?_⟩
 rw [List.getElem_set]
 by_cases e:i=j
 ·subst e
  rw [if_pos rfl,if_pos ⟨h0,by omega⟩]
 ·rw [if_neg e,h.2 j h1 (by rw [h.1]; exact h1)]
  by_cases hj:0<j∧j<i
  ·rw [if_pos hj,if_pos ⟨hj.1,by omega⟩]
  ·rw [if_neg hj,if_neg (by omega)]
theorem noStep {P L:List Tx} {i:Nat} (h:stripTo P i L) (h0:0<i) (hi:i<P.length) (k:strip1 P[i]=P[i]):stripTo P (i+1) L:=by
 refine⟨h.1,fun j h1 h2=>?_⟩
 rw [h.2 j h1 h2]
 by_cases e:i=j
 ·subst e
  rw [if_neg (by omega),if_pos ⟨h0,by omega⟩,k]
 ·by_cases hj:0<j∧j<i
  ·rw [if_pos hj,if_pos ⟨hj.1,by omega⟩]
  ·rw [if_neg hj,if_neg (by omega)]
theorem cS_l19Parts (V:Know) (s:ByteArray) (hs:s.size≤1048576):CallX Tryz.prog V 32 [.string s] (fun V' r=>V.le V'∧∃ t f,r=Sc.val .l t∧LR rString V' t (part19 (cutB 59 s)) f):=by
 refine CallX.of_fits Tryz.mix (fS_l19Parts _) fun _=>?_
 simp only [tS_l19Parts,T.wp]
 refine(cS_CutAt V s 59 hs).mono ?_
 rintro V1 _ ⟨le1,t,f1,rfl,L1,O1⟩
 refine⟨nofun,t,rfl,?_⟩
 have hz:∀ x∈cutB 59 s,x.1.size≤1048576:=fun x hx=>Nat.le_trans (cutB_size hx) hs
 have hpos:=cutB_pos 59 s
 have hlen:=cutB_len 59 s
 revert hz hpos hlen L1
 generalize cutB 59 s=P
 intro L1 hz hpos hlen
 have hn:=L1.1
 refine⟨fun y V'=>y.1=t∧V.le V'∧∃ (i:Nat) (L:List Tx) (f:List Nat),(y.2.1:Int)=(i:Int)∧0<i∧LR rString V' t L f∧Own V V' f∧stripTo P i L,fun y _=>((P.length:Int)-(y.2.1:Int)).toNat,
  ⟨(t,(1:Int),()),rfl,rfl,le1,1,P,f1,rfl,by omega,L1,O1,rfl,fun j h1 h2=>by rw [if_neg (by omega)]⟩,?_⟩
 rintro⟨t',(q:Int),u⟩ V2 ⟨ht,le2,i,L,f,hq,h0,L2,O2,inv⟩
 replace ht:t'=t:=ht
 replace hq:q=(i:Int):=hq
 subst ht hq
 have hn2:=L2.1
 have hlL:=inv.1
 refine⟨fun hlt=>?_,fun hge=>?_⟩
 ·have hi:i<P.length:=by
   have:(i:Int)<(t'.n:Int):=of_decide_eq_true hlt
   omega
  have hiL:i<L.length:=by omega
  have eL:L[i]=P[i]:=by rw [inv.2 i hi hiL,if_neg (by omega)]
  have hw:IntKind.i64.wrap ((i:Int)+1)=((i+1:Nat):Int):=by rw [wrap_i64 (by omega)]; omega
  have hm:((P.length:Int)-((i+1:Nat):Int)).toNat<((P.length:Int)-(i:Int)).toNat:=by omega
  have hzi:=hz _ (List.getElem_mem hi)
  obtain⟨⟨b,o,a1,l1⟩,_⟩:=L2.txt hiL
  rw [eL] at l1
  dsimp only
  rw [Int.toNat_natCast]
  have stay:strip1 P[i]=P[i]→∃ y':LShs [.o (.o .l),.o (.o (.i .i64))],[LV.v (Sc.val .l t'),LV.v (.int .i64 (IntKind.i64.wrap ((i:Int)+1)))]=LShs.lvs _ y'∧(y'.1=t'∧V.le V2∧∃ (i:Nat) (L:List Tx) (f:List Nat),(y'.2.1:Int)=(i:Int)∧0<i∧LR rString V2 t' L f∧Own V V2 f∧stripTo P i L)∧((P.length:Int)-(y'.2.1:Int)).toNat<((P.length:Int)-(i:Int)).toNat :=
   fun k=>⟨(t',((i+1:Nat):Int),()),by rw [hw]; rfl,⟨rfl,le2,i+1,L,f,rfl,by omega,L2,O2,noStep inv h0 hi k⟩,hm⟩
  refine⟨_,a1,(by omega:(0:Int)≤(i:Int)),(by omega:(i:Int)<(t'.n:Int)),P[i].1,l1,fun hsz=>?_,fun hsz=>⟨_,rfl,stay (strip1_miss fun k=>?_)⟩⟩
  ·have hsz':0<P[i].1.size:=by
    have:(P[i].1.size:Int) > 0:=of_decide_eq_true hsz
    omega
   refine⟨_,a1,(by omega:(0:Int)≤(i:Int)),(by omega:(i:Int)<(t'.n:Int)),P[i].1,l1,⟨(by omega:(0:Int)≤0),(by omega:(0:Int)<(P[i].1.size:Int))⟩,fun h32=>?_,fun h32=>⟨_,rfl,stay (strip1_miss fun k=>?_)⟩⟩
   ·have h32':at0 P[i].1 0=32:=by simpa using h32
    obtain⟨bb,oo,cs,uu,c,fc,hsa,hbb,hlen',hld,hR,hfc,hset⟩:=L2.putRow O2 hiL
    have eab:(⟨b,o,none⟩:Addr)=⟨bb,oo,none⟩:=by rw [a1] at hsa; exact Option.some.inj hsa
    obtain⟨f',Lf,Of,lef,_⟩:=hset (c':=((P[i].1.extract 1 P[i].1.size,()):Scs [.s])) (x':=strip1 P[i]) (fx:=[]) (k:=0) (vs:=[Value.string (P[i].1.extract 1 P[i].1.size)]) (Know.le.refl _) le2
     (by
      rw [strip1_hit hsz' h32']
      exact⟨⟨rfl,by show(P[i].1.extract 1 P[i].1.size).size≤_; rw [ByteArray.size_extract]; omega⟩,rfl⟩) (by rw [List.append_nil]; exact O2) (by simp) rfl
    refine⟨_,a1,(by omega:(0:Int)≤(i:Int)),(by omega:(i:Int)<(t'.n:Int)),P[i].1,l1,⟨by omega,by omega,Int.le_refl _⟩,_,hsa,(by omega:(0:Int)≤(i:Int)),(by omega:(i:Int)<(t'.n:Int)),cs,uu,?_⟩
    simp only [addr_add_eq]
    rw [show Int.toNat (1:Int)=1 from rfl,Int.toNat_natCast]
    exact⟨trivial,hbb,(by show oo+i*1+1≤cs.length; exact hlen'),_,rfl,(t',((i+1:Nat):Int),()),by rw [hw]; rfl,⟨rfl,lef,i+1,L.set i (strip1 P[i]),f',rfl,by omega,Lf,Of,setStep inv h0 hi⟩,hm⟩
   ·have:at0 P[i].1 (Int.toNat 0)=32:=k.2
    rw [this] at h32; cases h32
  ·have:¬ (P[i].1.size:Int) > 0:=of_decide_eq_false hsz
   have:=k.1
   omega
 ·have hi:P.length≤i:=by
   have:¬ (i:Int)<(t'.n:Int):=of_decide_eq_false hge
   omega
  exact⟨le2,t',f,rfl,by rw [← part19_of inv hi]; exact L2⟩
theorem join_joinC:∀ {a:List UInt8} {r:List (List UInt8)},Go.Lib.join (a :: r) [59,32]=joinC 59 (a :: r.map (32 :: ·))
 | a,[]=>by rw [Go.Lib.join_one]; rfl
 | a,b :: r=>by
  rw [List.map_cons,joinC_cons (by simp)]
  have ih:=join_joinC (a:=b) (r:=r)
  have e1:Go.Lib.join (a :: b :: r) [59,32]=a++59 :: 32 :: Go.Lib.join (b :: r) [59,32]:=by
   rw [Go.Lib.join_cons,Go.Lib.join_cons]
   simp [Go.Lib.joinTail]
  have e2:joinC 59 ((32 :: b) :: r.map (32 :: ·))=32 :: joinC 59 (b :: r.map (32 :: ·)):=by
   cases r with
   | nil=>rfl
   | cons c q=>rfl
  rw [e1,ih,e2]
theorem part19_rests {l:List DRest} (h:RestsOkP l) (h0:l≠[]):part19 (cutB 59 (restsX l))=txs l:=by
 cases l with
 | nil=>exact absurd rfl h0
 | cons x r =>
  have ho:=rests_ok h
  have e:cutB 59 (restsX (x :: r))=(restX x,()) :: r.map fun y=>((⟨#[32]⟩:ByteArray)++restX y,()):=by
   refine cutB_eq ?_ (by simp) fun y hy=>?_
   ·rw [restsX_bl,List.map_cons,join_joinC,List.map_cons,List.map_map,List.map_map]
    congr 2
   ·rcases List.mem_cons.1 hy with rfl | hy
    ·exact(restX_no (ho x (by simp))).1
    ·obtain⟨z,hz,rfl⟩:=List.mem_map.1 hy
     show(59:UInt8) ∉ bl ((⟨#[32]⟩:ByteArray)++restX z)
     rw [bl_append]
     intro k
     rcases List.mem_append.1 k with k | k
     ·exact absurd k (by decide)
     ·exact(restX_no (ho z (by simp [hz]))).1 k
  rw [e,part19,List.map_map]
  show _ :: _=(restX x,()) :: r.map fun x=>(restX x,())
  congr 1
  refine List.map_congr_left fun y _=>?_
  show strip1 ((⟨#[32]⟩:ByteArray)++restX y,())=_
  have hb:bl ((⟨#[32]⟩:ByteArray)++restX y)=32 :: bl (restX y):=by rw [bl_append]; rfl
  unfold strip1
  rw [if_pos (by rw [hb]; rfl)]
  refine Prod.ext (bl_inj ?_) rfl
  show bl (((⟨#[32]⟩:ByteArray)++restX y).extract 1 ((⟨#[32]⟩:ByteArray)++restX y).size)=_
  rw [bl_tail,hb]; rfl
abbrev RsRd (V:Know) (s:ByteArray):Know→Value→Prop:=fun V' r=>V.le V'∧∃ t l f ok,r=.tuple #[Sc.val .l t,.bool ok]∧LR rRest V' t l f∧Own V V' f∧RdRests s l ok
theorem rs_none {V:Know}:LR rRest V ⟨none,0,0⟩ [] []:=⟨rfl,Nat.le_refl _,(by decide:0≤9223372036854775807),.inl ⟨rfl,fun _=>rfl,rfl⟩⟩
theorem rs_no {V V':Know} {s:ByteArray} (le:V.le V') (h:¬ ∃ m,RestsOkP m∧restsX m=s):RsRd V s V' (packed [.slice none 0 0,.bool false]):=⟨le,⟨none,0,0⟩,[],[],false,rfl,rs_none,Own.nil,.inr ⟨rfl,rfl,h⟩⟩
noncomputable def endT (x0:ByteArray) (n:Nat) (ys:List Value) (gOk gTx:Nat):T :=
 .fz n ys 40 fun b3 c3 =>
 .call false gOk [.slice (some { block:=b3,off:=(0:Nat):Go.Addr }) n (c3)] (.v (.o (.b))) fun y4 =>
 .br (!y4) (
  .ret [.slice (none) ((0:Nat)) ((0:Nat)),.bool (false)]) <|
 .call false gTx [.slice (some { block:=b3,off:=(0:Nat):Go.Addr }) n (c3)] (.v (.o (.s))) fun y5 =>
 .br (!y5.toList == x0.toList) (
  .ret [.slice (none) ((0:Nat)) ((0:Nat)),.bool (false)]) <|
 .ret [.slice (some { block:=b3,off:=(0:Nat):Go.Addr }) n (c3),.bool (true)]
theorem endT_wp {V0 V:Know} (le0:V0.le V) {s:ByteArray} {gOk gTx:Nat} {cs:List (Scs [.s,.b,.l,.l])} {out:List DRest} {fps:List Nat} (hE:Els rRest V cs out fps) (hO:Own V0 V fps) (hl:out.length≤9223372036854775807) (hc:∀ l,RestsOkP l→restsX l=s→out=l)
  (hOk:∀ V' t f,V0.le V'→LR rRest V' t out f→CallX Tryz.prog V' gOk [Sc.val .l t] (OkPost V' (RestsOkP out))) (hTx:∀ V' t f,V0.le V'→LR rRest V' t out f→RestsOkP out→CallX Tryz.prog V' gTx [Sc.val .l t] (TxPost V' (restsX out))) {Ns:List (List LV→Know→Prop)} :
  (endT s out.length (cs.flatMap (Scs.vals [.s,.b,.l,.l])) gOk gTx).wp Tryz.prog (fun V' vs=>RsRd V0 s V' (packed vs)) V V Ns:=by
 simp only [endT,T.wp]
 intro b c sp hb hcap _
 have leb:=kset_le (x:=(cs.flatMap (Scs.vals [.s,.b,.l,.l])++sp,((40:TypeId),((0,0):Nat × Nat)))) hb
 have L:=lr_lit (b:=b) (cap:=c) (n:=out.length) (post:=sp) (t:=(40,(0,0))) (hE.le leb) kset_same rfl hcap hl
 have O:Own V0 (kset V b (cs.flatMap (Scs.vals [.s,.b,.l,.l])++sp,(40,(0,0)))) (b :: fps):=Own.perm (hO.append (own_one hb kset_same) le0 leb) (List.perm_append_comm (l₁:=[b]) (l₂:=fps))
 have l1:=le0.trans leb
 refine(hOk _ ⟨some ⟨b,0,none⟩,out.length,c⟩ _ l1 L).mono ?_
 rintro V1 _ ⟨le1,e,rfl,he⟩
 have l2:=l1.trans le1
 refine⟨nofun,e,rfl,fun hf=>rs_no l2 fun⟨m,h1,h2⟩=>?_,fun ht=>(hTx V1 ⟨some ⟨b,0,none⟩,out.length,c⟩ _ l2 (L.le le1) (he.1 (by simpa using ht))).mono ?_⟩
 ·rw [← hc m h1 h2] at h1
  rw [he.2 h1] at hf; cases hf
 rintro V2 _ ⟨le2,rfl⟩
 have l3:=l2.trans le2
 refine⟨nofun,_,rfl,fun hf=>rs_no l3 fun⟨m,h1,h2⟩=>?_,fun ht2=>?_⟩
 ·have e1:=hc m h1 h2
  subst e1
  rw [text_eq.2 h2] at hf; cases hf
 ·exact⟨l3,_,out,b :: fps,true,rfl,(L.le le1).le le2,(O.post le1).post le2,.inl ⟨rfl,he.1 (by simpa using ht),text_eq.1 (by simpa using ht2)⟩⟩
theorem rs_empty {V:Know} {s:ByteArray} (hs:s.size=0) {b c:Nat} {sp:List Value} (hb:V b=none):RsRd V s (kset V b ([]++sp,(40,(0,0)))) (packed [.slice (some ⟨b,0,none⟩) 0 c,.bool true]):=by
 refine⟨kset_le hb,⟨some ⟨b,0,none⟩,0,c⟩,[],[b],true,rfl,lr_lit (r:=rRest) (cs:=[]) (fps:=[]) (post:=sp) (t:=(40,(0,0))) rfl kset_same rfl (Nat.zero_le _) (by decide),own_one hb kset_same,.inl ⟨rfl,fun i hi=>absurd hi (by simp),?_⟩⟩
 exact(text_eq.1 (empty_iff.2 hs)).symm
theorem rests_ne {l:List DRest} {s:ByteArray} (h:RestsOkP l) (e:restsX l=s) (hs:s.size≠0):l≠[]:=fun k=>hs (by rw [← e]; exact(restsX_nil h).2 k)
theorem flat_snoc4 {c:Scs [.s,.b,.l,.l]} {cs:List (Scs [.s,.b,.l,.l])}:(cs++[c]).flatMap (Scs.vals [.s,.b,.l,.l])=cs.flatMap (Scs.vals [.s,.b,.l,.l])++[.string c.1,.bool c.2.1,.slice c.2.2.1.a c.2.2.1.n c.2.2.1.c,.slice c.2.2.2.1.a c.2.2.2.1.n c.2.2.2.1.c]:=by
 rw [List.flatMap_append,List.flatMap_singleton]; rfl
theorem cI_TextRests {V:Know} (hV:HrI V) (s:ByteArray) (hs:s.size≤1048576):CallX Tryz.prog V 8 [.string s] (RsRd V s):=by
 refine CallX.of_fits Tryz.mix (fI_TextRests _) fun _=>?_
 simp only [tI_TextRests,T.wp]
 refine⟨fun he b1 c1 sp hb1 _ _=>rs_empty (empty_iff.1 he) hb1,fun he=>(cX_Split hV.2 s hs).mono ?_⟩
 have hs0:s.size≠0:=fun k=>by rw [empty_iff.2 k] at he; cases he
 rintro V1 _ ⟨le1,t,f1,rfl,L1⟩
 have hz:∀ n∈splitX s,n.size≤1048576:=fun n hn=>Nat.le_trans (splitB_size _ s n hn) hs
 have hP:∀ l,RestsOkP l→restsX l=s→splitX s=l.map restX:=fun l h e=>by rw [← e]; exact splitX_rests h (rests_ne h e hs0)
 revert hz hP L1
 generalize splitX s=P
 intro L1 hz hP
 have hn:=L1.1
 have h63:=L1.2.2.1
 rw [List.length_map] at hn
 rw [hn] at h63
 refine⟨nofun,t,rfl,?_⟩
 refine⟨fun y V'=>V1.le V'∧∃ (i:Nat) (out:List DRest) (cs:List (Scs [.s,.b,.l,.l])) (fps:List Nat),y.1.1=i∧y.1.2=cs.flatMap (Scs.vals [.s,.b,.l,.l])∧(y.2.1:Int)=(i:Int)∧i≤P.length∧i≤20∧out.length=i∧Els rRest V' cs out fps∧Own V V' fps∧∀ l,RestsOkP l→restsX l=s→out=l.take i,fun y _=>((P.length:Int)-(y.2.1:Int)).toNat,
  ⟨((0,[]),(0:Int),()),rfl,Know.le.refl _,0,[],[],[],rfl,rfl,rfl,Nat.zero_le _,by omega,rfl,rfl,Own.nil,fun l _ _=>rfl⟩,?_⟩
 rintro⟨⟨(m:Nat),(ys:List Value)⟩,(q:Int),u⟩ V2 ⟨le2,i,out,cs,fps,hm,hy,hq,hi,h20,ho,hE,hO,hc⟩
 replace hm:m=i:=hm
 replace hy:ys=cs.flatMap (Scs.vals [.s,.b,.l,.l]):=hy
 replace hq:q=(i:Int):=hq
 subst hm hy hq
 have l2:=le1.trans le2
 refine⟨fun hlt=>?_,fun hge=>?_⟩
 ·have hi':m<P.length:=by
   have:(m:Int)<(t.n:Int):=of_decide_eq_true hlt
   omega
  obtain⟨⟨b,o,a1,ld1⟩,_⟩:=(L1.le le2).txt (i:=m) (by rw [List.length_map]; exact hi')
  rw [List.getElem_map] at ld1
  have hzi:=hz _ (List.getElem_mem hi')
  have at_l:∀ l,RestsOkP l→restsX l=s→∃ h:m<l.length,restX l[m]=P[m]:=fun l h e=>by
   have:=hP l h e
   refine⟨by rw [this,List.length_map] at hi'; exact hi',?_⟩
   simp only [this,List.getElem_map]
  dsimp only
  rw [Int.toNat_natCast]
  refine⟨_,a1,(by omega:(0:Int)≤(m:Int)),(by omega:(m:Int)<(t.n:Int)),P[m],ld1,(cI_textRest (hV.le l2) P[m] hzi).mono ?_⟩
  rintro V3 _ ⟨le3,c,x,f,ok,rfl,R3,O3,k3⟩
  have l3:=l2.trans le3
  refine⟨nofun,(c,ok,()),rfl,fun hf=>rs_no l3 fun⟨l,h1,h2⟩=>?_,fun ht=>⟨fun he20=>rs_no l3 fun⟨l,h1,h2⟩=>?_,fun he20=>?_⟩⟩
  ·obtain⟨h3,h4⟩:=at_l l h1 h2
   have:=(k3 _ (rests_ok h1 _ (List.getElem_mem h3)) h4).1
   rw [this] at hf; cases hf
  ·obtain⟨h3,h4⟩:=at_l l h1 h2
   have h5:=rests_len h1
   have:(m:Int)=20:=by simpa using he20
   omega
  ·have hne:¬ (m:Int)=20:=by simpa using he20
   refine⟨rfl,⟨rfl,(by omega:(m+1)*72≤140737488355328),(by omega:m+1≤9223372036854775807)⟩,_,rfl,((m+1,(cs++[c]).flatMap (Scs.vals [.s,.b,.l,.l])),((m+1:Nat):Int),()),?_,⟨le2.trans le3,m+1,out++[x],cs++[c],fps++f,rfl,rfl,rfl,hi',by omega,by rw [List.length_append,ho]; rfl,(hE.le le3).snoc R3,hO.append O3 l2 le3,fun l h1 h2=>?_⟩,?_⟩
   ·rw [nxt hi' (by omega),flat_snoc4]; rfl
   ·obtain⟨h3,h4⟩:=at_l l h1 h2
    rw [hc l h1 h2,(k3 _ (rests_ok h1 _ (List.getElem_mem h3)) h4).2,List.take_succ_eq_append_getElem h3]
   ·show((P.length:Int)-((m+1:Nat):Int)).toNat<((P.length:Int)-(m:Int)).toNat
    omega
 ·have hi':m=P.length:=by
   have:¬ (m:Int)<(t.n:Int):=of_decide_eq_false hge
   omega
  have h9:=endT_wp (s:=s) (gOk:=17) (gTx:=15) (Ns:=[]) l2 hE hO (by omega) (fun l h1 h2=>by
   have:=congrArg List.length (hP l h1 h2)
   rw [List.length_map] at this
   rw [hc l h1 h2,hi',this,List.take_length]) (fun V' t f le L=>cI_RestsOk (hV.le le).1.c t out f L) (fun V' t f le L ok=>cI_RestsText (hV.le le).1 t out f L ok)
  rw [ho] at h9
  simp only [endT,T.wp] at h9
  exact h9
theorem cS_TextRests {V:Know} (_:HtS V) (s:ByteArray) (hs:s.size≤1048576):CallX Tryz.prog V 7 [.string s] (RsRd V s):=by
 refine CallX.of_fits Tryz.mix (fS_TextRests _) fun _=>?_
 simp only [tS_TextRests,T.wp]
 refine⟨fun he b1 c1 sp hb1 _ _=>rs_empty (empty_iff.1 he) hb1,fun he=>(cS_l19Parts V s hs).mono ?_⟩
 have hs0:s.size≠0:=fun k=>by rw [empty_iff.2 k] at he; cases he
 rintro V1 _ ⟨le1,t,f1,rfl,L1⟩
 have hz:∀ n∈part19 (cutB 59 s),n.1.size≤1048576:=fun n hn=>by
  have h1:∀ y∈cutB 59 s,y.1.size≤s.size:=fun y hy=>cutB_size hy
  revert hn h1
  generalize cutB 59 s=Q
  intro hn h1
  cases Q with
  | nil=>cases hn
  | cons p r =>
   rcases List.mem_cons.1 hn with rfl | hn
   ·exact Nat.le_trans (h1 _ (by simp)) hs
   ·obtain⟨y,hy,rfl⟩:=List.mem_map.1 hn
    have:=h1 y (by simp [hy])
    unfold strip1
    split
    ·show(y.1.extract 1 y.1.size).size≤_
     rw [ByteArray.size_extract]; omega
    ·omega
 have hpl:(part19 (cutB 59 s)).length≤s.size+1:=by
  have h1:=cutB_len 59 s
  revert h1
  generalize cutB 59 s=Q
  intro h1
  cases Q with
  | nil=>exact Nat.zero_le _
  | cons p r=>simpa [part19] using h1
 have hP:∀ l,RestsOkP l→restsX l=s→part19 (cutB 59 s)=txs l:=fun l h e=>by rw [← e]; exact part19_rests h (rests_ne h e hs0)
 revert hz hP L1 hpl
 generalize part19 (cutB 59 s)=P
 intro L1 hz hpl hP
 have hn:=L1.1
 refine⟨nofun,t,rfl,?_⟩
 refine⟨fun y V'=>V1.le V'∧∃ (i:Nat) (out:List DRest) (cs:List (Scs [.s,.b,.l,.l])) (fps:List Nat),y.1.1=i∧y.1.2=cs.flatMap (Scs.vals [.s,.b,.l,.l])∧(y.2.1:Int)=(i:Int)∧i≤P.length∧out.length=i∧Els rRest V' cs out fps∧Own V V' fps∧∀ l,RestsOkP l→restsX l=s→out=l.take i,fun y _=>((P.length:Int)-(y.2.1:Int)).toNat,
  ⟨((0,[]),(0:Int),()),rfl,Know.le.refl _,0,[],[],[],rfl,rfl,rfl,Nat.zero_le _,rfl,rfl,Own.nil,fun l _ _=>rfl⟩,?_⟩
 rintro⟨⟨(m:Nat),(ys:List Value)⟩,(q:Int),u⟩ V2 ⟨le2,i,out,cs,fps,hm,hy,hq,hi,ho,hE,hO,hc⟩
 replace hm:m=i:=hm
 replace hy:ys=cs.flatMap (Scs.vals [.s,.b,.l,.l]):=hy
 replace hq:q=(i:Int):=hq
 subst hm hy hq
 have l2:=le1.trans le2
 refine⟨fun hlt=>?_,fun hge=>?_⟩
 ·have hi':m<P.length:=by
   have:(m:Int)<(t.n:Int):=of_decide_eq_true hlt
   omega
  obtain⟨⟨b,o,a1,ld1⟩,_⟩:=(L1.le le2).txt hi'
  have hzi:=hz _ (List.getElem_mem hi')
  have at_l:∀ l,RestsOkP l→restsX l=s→∃ h:m<l.length,restX l[m]=P[m].1:=fun l h e=>by
   have:=hP l h e
   refine⟨by rw [this,List.length_map] at hi'; exact hi',?_⟩
   simp only [this,List.getElem_map]
  have two:∀ l,RestsOkP l→restsX l=s→∃ h:m<l.length,cutB 32 P[m].1=[(l[m].1,()),(ratX l[m].2,())]:=fun l h e=>by
   obtain⟨h3,h4⟩:=at_l l h e
   have hx:=rests_ok h _ (List.getElem_mem h3)
   refine⟨h3,cutB_eq ?_ (by simp) fun y hy=>?_⟩
   ·rw [← h4,restX_bl]; rfl
   ·rcases List.mem_cons.1 hy with rfl | hy
    ·exact(known_space hx.1).1
    ·obtain rfl:y=(ratX l[m].2,()):=by simpa using hy
     exact(ratX_no hx.2).1
  dsimp only
  rw [Int.toNat_natCast]
  refine⟨_,a1,(by omega:(0:Int)≤(m:Int)),(by omega:(m:Int)<(t.n:Int)),P[m].1,ld1,(cS_Cut V2 P[m].1 hzi).mono ?_⟩
  rintro V3 _ ⟨le3,t3,f3,rfl,L3,O3⟩
  have l3:=l2.trans le3
  have hn3:=L3.1
  refine⟨nofun,t3,rfl,fun hne=>rs_no l3 fun⟨l,h1,h2⟩=>?_,fun heq=>?_⟩
  ·obtain⟨h3,h4⟩:=two l h1 h2
   rw [h4] at hn3
   have:((t3.n:Int) != (2:Int))=false:=by rw [hn3]; rfl
   rw [this] at hne; cases hne
  have h2n:t3.n=2:=by
   have:(t3.n:Int)=2:=by simpa using heq
   omega
  obtain⟨p,r,hpr⟩:∃ p r,cutB 32 P[m].1=[p,r]:=by
   match hq:cutB 32 P[m].1 with
   | []=>rw [hq] at hn3; simp at hn3; omega
   | [a]=>rw [hq] at hn3; simp at hn3; omega
   | [a,b]=>exact⟨a,b,rfl⟩
   | _ :: _ :: _ :: _=>rw [hq] at hn3; simp at hn3; omega
  have hzp:p.1.size≤1048576∧r.1.size≤1048576:=⟨Nat.le_trans (cutB_size (x:=p) (by rw [hpr]; simp)) hzi,Nat.le_trans (cutB_size (x:=r) (by rw [hpr]; simp)) hzi⟩
  obtain⟨b1,o1,a1',ld1'⟩:=L3.at1t hpr
  refine⟨_,a1',by omega,by omega,r.1,ld1',(cS_TextRat V3 r.1 hzp.2).mono ?_⟩
  rintro V4 _ ⟨le4,c,x,f,ok,rfl,R4,O4,k4⟩
  have l4:=l3.trans le4
  have get:∀ l,RestsOkP l→restsX l=s→∃ h:m<l.length,ok=true∧(p.1,x)=l[m]:=fun l h e=>by
   obtain⟨h3,h4⟩:=two l h e
   rw [hpr] at h4
   simp only [List.cons.injEq,and_true] at h4
   have hx:=rests_ok h _ (List.getElem_mem h3)
   rcases k4 with ⟨k1,k2,k3⟩ | ⟨_,_,k3⟩
   ·refine⟨h3,k1,Prod.ext (by rw [h4.1]) (ratX_inj k2 hx.2 (by rw [k3,h4.2]))⟩
   ·exact absurd ⟨_,hx.2,by rw [h4.2]⟩ k3
  refine⟨nofun,(c,ok,()),rfl,fun hf=>rs_no l4 fun⟨l,h1,h2⟩=>?_,fun ht=>?_⟩
  ·obtain⟨_,h3,_⟩:=get l h1 h2
   rw [h3] at hf; cases hf
  obtain⟨b2,o2,a2',ld2'⟩:=(L3.le le4).at0t hpr
  have hRow:rRest.R V4 ((p.1,c):Scs [.s,.b,.l,.l]) ((p.1,x):DRest) f:=⟨⟨rfl,Nat.le_trans hzp.1 (by decide)⟩,R4⟩
  refine⟨_,a2',by omega,by omega,p.1,ld2',rfl,⟨rfl,(by omega:(m+1)*72≤140737488355328),(by omega:m+1≤9223372036854775807)⟩,_,rfl,((m+1,(cs++[((p.1,c):Scs [.s,.b,.l,.l])]).flatMap (Scs.vals [.s,.b,.l,.l])),((m+1:Nat):Int),()),?_,⟨(le2.trans le3).trans le4,m+1,out++[((p.1,x):DRest)],cs++[((p.1,c):Scs [.s,.b,.l,.l])],fps++f,rfl,rfl,rfl,hi',by rw [List.length_append,ho]; rfl,(hE.le (le3.trans le4)).snoc hRow,hO.append (O4.pre le3) l2 (le3.trans le4),fun l h1 h2=>?_⟩,?_⟩
  ·rw [nxt hi' (by omega),flat_snoc4]; rfl
  ·obtain⟨h3,_,h4⟩:=get l h1 h2
   rw [hc l h1 h2,h4,List.take_succ_eq_append_getElem h3]
  ·show((P.length:Int)-((m+1:Nat):Int)).toNat<((P.length:Int)-(m:Int)).toNat
   omega
 ·have hi':m=P.length:=by
   have:¬ (m:Int)<(t.n:Int):=of_decide_eq_false hge
   omega
  have h9:=endT_wp (s:=s) (gOk:=35) (gTx:=36) (Ns:=[]) l2 hE hO (by omega) (fun l h1 h2=>by
   have:=congrArg List.length (hP l h1 h2)
   rw [List.length_map] at this
   rw [hc l h1 h2,hi',this,List.take_length]) (fun V' t f le L=>cS_RestsOk trivial t out f L) (fun V' t f le L ok=>cS_RestsText trivial t out f L ok)
  rw [ho] at h9
  simp only [endT,T.wp] at h9
  exact h9
end Go.Proofs.YtagkjnpggkmehaaGreatDoor
namespace Go.Proofs.YtagkjnpggkmehaaGreatDoor
open Sx
set_option maxRecDepth 100000
theorem rdRests_tot {s:ByteArray} {l:List DRest} {ok:Bool} (h:RdRests s l ok):l.length+totE rRest l≤1048576:=by
 rcases h with ⟨_,h,_⟩ | ⟨_,rfl,_⟩
 ·have:=rests_tot h; omega
 ·exact Nat.zero_le _
end Go.Proofs.YtagkjnpggkmehaaGreatDoor
