/-
  Maps whose keys are texts: asked, laid into, struck from.
-/
import Derived.Test.YtagkjnpggkmehaaGreatDoorRdG
import Derived.Test.YtagkjnpggkmehaaGreatDoorLoopT
import Derived.Test.YtagkjnpggkmehaaGreatDoorMap
namespace Go.Proofs.YtagkjnpggkmehaaGreatDoor
open Sx Go.RowKit
set_option maxRecDepth 100000
def hasMax (V:Know):Prop:=∃ m cs t,V 1=some (.int .i64 m :: cs,t)
theorem hasMax.le {V V':Know} (h:hasMax V) (k:V.le V'):hasMax V':=let ⟨m,cs,t,e⟩:=h; ⟨m,cs,t,k _ _ e⟩
theorem max_of {V:Know} (h:hasMax V) {w:World} (hw:V.on w):∃ m,w.cell? ⟨1,0,none⟩=some (.int .i64 m):=by
 obtain⟨m,cs,t,e⟩:=h
 refine⟨m,?_⟩
 rw [hw.cell e 0 (fun es k=>by cases k) (Nat.zero_lt_succ _)]; rfl
def HrI (V:Know):Prop:=HtI V∧hasMax V
theorem HrI.le {V V':Know} (h:HrI V) (k:V.le V'):HrI V':=⟨h.1.le k,h.2.le k⟩
theorem cX_Cut {V:Know} (hV:hasMax V) (s sep:ByteArray) (hs:s.size≤1048576):CallX Tryz.prog V 94 [.string s,.string sep] (fun V' r=>V'=V∧r=.tuple #[.string (ofL (Go.Lib.cut (bl s) (bl sep)).1),.string (ofL (Go.Lib.cut (bl s) (bl sep)).2.1),.bool (Go.Lib.cut (bl s) (bl sep)).2.2]):=by
 refine CallX.of_calls ⟨_,Tryz.func94,by kernel_rfl,by kernel_rfl⟩ fun w hw=>?_
 obtain⟨m,hm⟩:=max_of hV hw
 refine(Tryz.strings_Cut s sep m w (by omega) hm).mono ?_
 rintro e w' ⟨rfl,n,rfl⟩
 exact⟨rfl,⟨rfl,rfl,rfl,Nat.le_refl _,fun _ _=>rfl⟩⟩
theorem CallX.of_row {P:Program} {V:Know} {g:FuncId} {args:List Value} {vs:List Value} {t:TypeId} (he:Sx.Enters P g)
  (h:∀ w,V.on w→Calls P g args.toArray w fun e w'=>e=.returned (.slice (some ⟨w.heap.size,0,none⟩) vs.length vs.length)∧w'=w.alloc (.cells vs.toArray t)) :
  CallX P V g args (fun V' r=>∃ b,V b=none∧V'=kset V b (vs,(t,(0,0)))∧r=.slice (some ⟨b,0,none⟩) vs.length vs.length) :=
 ⟨he,fun w hw=>(h w hw).mono fun e w' ⟨h1,h2⟩=>by
  subst h1 h2
  refine⟨kset V w.heap.size (vs,(t,(0,0))),_,rfl,⟨rfl,rfl,rfl,by simp,fun b hb _=>heap_alloc_old w _ hb,fun b hb hn=>?_⟩,fun b c u hb=>?_,w.heap.size,hw.size_none,rfl,rfl⟩
  ·rw [kset_other (by omega)]; exact hn
  ·by_cases e:b=w.heap.size
   ·subst e
    rw [kset_same] at hb
    simp only [Option.some.injEq,Prod.mk.injEq] at hb
    obtain⟨rfl,rfl⟩:=hb
    rw [heap_alloc_new,objOf_rw]
   ·rw [kset_other e] at hb
    have:=hw b c u hb
    rw [heap_alloc_old w _ (Array.getElem?_eq_some_iff.1 this).1]; exact this⟩
theorem splitB_size {sep:ByteArray}:∀ (k:Nat) (s:ByteArray),∀ x∈Go.Lib.splitB sep 0 k s,x.size≤s.size
 | 0,s,x,h=>by
  obtain rfl:x=s:=by simpa [Go.Lib.splitB] using h
  exact Nat.le_refl _
 | k+1,s,x,h=>by
  unfold Go.Lib.splitB at h
  split at h
  ·obtain rfl:x=s:=by simpa using h
   exact Nat.le_refl _
  ·rcases List.mem_cons.1 h with rfl | h
   ·rw [ByteArray.size_extract]; omega
   ·have:=splitB_size k _ x h
    rw [ByteArray.size_extract] at this
    omega
theorem splitX_len (s:ByteArray):(splitX s).length=Go.Lib.countB s ⟨#[59,32]⟩+1:=Go.Lib.splitB_all _ (by decide) 0 _ s rfl
theorem cX_Split {V:Know} (hV:hasMax V) (s:ByteArray) (hs:s.size≤1048576):CallX Tryz.prog V 37 [.string s,.string ⟨#[59,32]⟩] (fun V' r=>V.le V'∧∃ t f,r=Sc.val .l t∧LR rString V' t ((splitX s).map fun n=>(n,())) f):=by
 have key:CallX Tryz.prog V 37 [.string s,.string ⟨#[59,32]⟩] (fun V' r=>∃ b,V b=none∧V'=kset V b ((splitX s).map Value.string,(9,(0,0)))∧r=.slice (some ⟨b,0,none⟩) ((splitX s).map Value.string).length ((splitX s).map Value.string).length):=by
  refine CallX.of_row (show Sx.Enters _ _ from⟨_,Tryz.func37,by kernel_rfl,by kernel_rfl⟩) fun w hw=>?_
  obtain⟨m,hm⟩:=max_of hV hw
  refine(Tryz.strings_Split s ⟨#[59,32]⟩ m w (by omega) hm (by decide)).mono ?_
  rintro e w' ⟨rfl,rfl⟩
  refine⟨?_,rfl⟩
  rw [List.length_map,splitX_len]
 refine key.mono ?_
 rintro V' _ ⟨b,hb,rfl,rfl⟩
 have hz:∀ n∈splitX s,n.size≤9223372036854775807:=fun n hn=>by
  have:=splitB_size _ s n hn; omega
 have hl:(splitX s).length≤s.size+1:=by
  have:=Go.Lib.countB_le ⟨#[59,32]⟩ (by decide) _ s (Nat.le_refl _)
  rw [splitX_len]; omega
 refine⟨kset_le hb,⟨some ⟨b,0,none⟩,(splitX s).length,(splitX s).length⟩,[b],by rw [List.length_map]; rfl,lr_texts (post:=[]) (t:=(9,(0,0))) (by rw [kset_same,List.append_nil]) hz (Nat.le_refl _) (by omega)⟩
abbrev txs (l:List DRest):List Tx:=l.map fun x=>(restX x,())
theorem restX_size {x:DRest} (h:ResP x):(restX x).size≤3000:=by
 have h1:=known_size h.1
 have h2:=ratT_size h.2
 show((x.1++(⟨#[32]⟩:ByteArray))++ratX x.2).size≤_
 rw [ByteArray.size_append,ByteArray.size_append]
 show x.1.size+1+(ratT x.2.1 x.2.2.1 x.2.2.2.1).size≤_
 omega
theorem txs_size {l:List DRest} (h:RestsOkP l):sumT (txs l)+(txs l).length*2≤1048576:=by
 have h20:=rests_len h
 have h1:=sumT_le (B:=3000) (txs l) fun x hx=>by
  obtain⟨y,hy,rfl⟩:=List.mem_map.1 hx
  exact restX_size (rests_ok h y hy)
 rw [List.length_map] at *
 omega
theorem txs_take {l:List DRest} {i:Nat} (h:i<l.length):txs (l.take (i+1))=txs (l.take i)++[(restX l[i],())]:=by
 show(l.take (i+1)).map _=(l.take i).map _++_
 rw [List.take_succ_eq_append_getElem h,List.map_append]; rfl
theorem cellT_map (l:List Tx):l.map cellT=(l.map (·.1)).map Value.string:=by rw [List.map_map]; rfl
theorem cI_RestsText {V:Know} (hV:HtI V) (s:SlV) (l:List DRest) (f:List Nat) (h:LR rRest V s l f) (ok:RestsOkP l):CallX Tryz.prog V 15 [Sc.val .l s] (TxPost V (restsX l)):=by
 refine CallX.of_fits Tryz.mix (fI_RestsText _) fun _=>?_
 simp only [tI_RestsText,T.wp]
 have hn:=h.1
 have h20:=rests_len ok
 refine⟨fun y V'=>V.le V'∧∃ i:Nat,y.1.1=i∧y.1.2=(txs (l.take i)).map cellT∧(y.2.1:Int)=(i:Int)∧i≤l.length,fun y _=>((l.length:Int)-(y.2.1:Int)).toNat,
  ⟨((0,[]),(0:Int),()),rfl,Know.le.refl _,0,rfl,rfl,rfl,Nat.zero_le _⟩,?_⟩
 rintro⟨⟨(m:Nat),(ys:List Value)⟩,(q:Int),u⟩ V1 ⟨le1,i,hm,hy,hq,hi⟩
 replace hm:m=i:=hm
 replace hy:ys=(txs (l.take i)).map cellT:=hy
 replace hq:q=(i:Int):=hq
 subst hm hy hq
 refine⟨fun hlt=>?_,fun hge=>?_⟩
 ·have hi':m<l.length:=by
   have:(m:Int)<(s.n:Int):=of_decide_eq_true hlt
   omega
  obtain⟨b1,o1,c1,fc,a1,l1,hR,_⟩:=(h.le le1).at hi'
  have hx:=rests_ok ok _ (List.getElem_mem hi')
  obtain⟨s1,s2,g1,g2,rfl,L1,L2⟩:=rest_elim hR
  dsimp only
  rw [Int.toNat_natCast]
  refine⟨_,a1,(by omega:(0:Int)≤(m:Int)),(by omega:(m:Int)<(s.n:Int)),_,l1,(cI_restText (hV.le le1) l[m] s1 s2 g1 g2 L1 L2 hx.1 hx.2).mono ?_⟩
  rintro V2 _ ⟨le2,rfl⟩
  refine⟨nofun,restX l[m],rfl,rfl,⟨rfl,(by omega:(m+1)*16≤140737488355328),(by omega:m+1≤9223372036854775807)⟩,_,rfl,((m+1,(txs (l.take (m+1))).map cellT),((m+1:Nat):Int),()),?_,⟨le1.trans le2,m+1,rfl,rfl,rfl,hi'⟩,?_⟩
  ·rw [nxt hi' (by omega),txs_take hi',List.map_append]; rfl
  ·show((l.length:Int)-((m+1:Nat):Int)).toNat<((l.length:Int)-(m:Int)).toNat
   omega
 ·have hi':m=l.length:=by
   have:¬ (m:Int)<(s.n:Int):=of_decide_eq_false hge
   omega
  subst hi'
  rw [List.take_length]
  intro b3 c3 sp hb3 hc3 _
  have hc3':l.length≤c3:=hc3
  have le3:=kset_le (x:=((txs l).map cellT++sp,((9:TypeId),((0,0):Nat × Nat)))) hb3
  have hz:∀ n∈(txs l).map (·.1),n.size≤9223372036854775807:=fun n hn=>by
   obtain⟨x,hx,rfl⟩:=List.mem_map.1 hn
   obtain⟨y,hy,rfl⟩:=List.mem_map.1 hx
   have:=restX_size (rests_ok ok y hy)
   show(restX y).size≤_
   omega
  have L:=lr_texts (V:=kset V1 b3 ((txs l).map cellT++sp,(9,(0,0)))) (b:=b3) (cap:=c3) (ns:=(txs l).map (·.1)) (post:=sp) (t:=(9,(0,0))) (by rw [kset_same,cellT_map]) hz (by rw [List.length_map,List.length_map]; exact hc3') (by rw [List.length_map,List.length_map]; omega)
  have e1:(((txs l).map (·.1)).map fun n=>(n,()))=txs l:=by
   rw [List.map_map]
   exact tx_list _
  have e2:((txs l).map (·.1)).length=l.length:=by simp
  rw [e1,e2] at L
  have hts:=txs_size ok
  rw [List.length_map] at hts
  refine(cI_Join _ ⟨some ⟨b3,0,none⟩,l.length,c3⟩ (txs l) [b3] ⟨#[59,32]⟩ L (by rw [List.length_map]; show sumT (txs l)+l.length*2≤_; omega) (by rw [List.length_map]; omega)).mono ?_
  rintro V4 _ ⟨rfl,rfl⟩
  exact⟨nofun,_,rfl,le1.trans le3,rfl⟩
theorem cut_size (s sep:ByteArray):(ofL (Go.Lib.cut (bl s) (bl sep)).1).size≤s.size∧(ofL (Go.Lib.cut (bl s) (bl sep)).2.1).size≤s.size:=by
 rw [of_size (Go.Lib.cut (bl s) (bl sep)).1,of_size (Go.Lib.cut (bl s) (bl sep)).2.1]
 have hl:∀ L:List UInt8,bl s=L→L.length=s.size:=fun L e=>by rw [← e]; exact bl_len s
 generalize hL:bl s=L
 have hl:=hl L hL
 unfold Go.Lib.cut
 split
 ·simp only [List.length_take,List.length_drop]; omega
 ·simp only [List.length_nil]; omega
abbrev ResRd (V:Know) (s:ByteArray):Know→Value→Prop:=fun V' r=>V.le V'∧∃ c x f ok,r=.tuple #[qv2 c,.bool ok]∧rRest.R V' c x f∧Own V V' f∧∀ y:DRest,ResP y→restX y=s→ok=true∧x=y
theorem cI_textRest {V:Know} (hV:HrI V) (s:ByteArray) (hs:s.size≤1048576):CallX Tryz.prog V 38 [.string s] (ResRd V s):=by
 refine CallX.of_fits Tryz.mix (fI_textRest _) fun _=>?_
 simp only [tI_textRest,T.wp]
 obtain⟨z1,z2⟩:=cut_size s ⟨#[32]⟩
 refine(cX_Cut hV.2 s ⟨#[32]⟩ hs).mono ?_
 rintro V1 _ ⟨rfl,rfl⟩
 have hb:bl (⟨#[32]⟩:ByteArray)=[32]:=rfl
 have key:∀ y:DRest,ResP y→restX y=s→Go.Lib.cut (bl s) (bl (⟨#[32]⟩:ByteArray))=(bl y.1,bl (ratX y.2),true):=fun y hy e=>by
  rw [← e,hb,restX_bl]
  exact cut_one (known_space hy.1).1
 revert z1 z2 key
 generalize Go.Lib.cut (bl s) (bl (⟨#[32]⟩:ByteArray))=p
 obtain⟨p1,p2,p3⟩:=p
 intro z1 z2 key
 refine⟨nofun,(ofL p1,ofL p2,p3,()),rfl,(cI_TextRat V1 (ofL p2) (Nat.le_trans z2 hs)).mono ?_⟩
 rintro V2 _ ⟨le2,c,x,f,ok,rfl,R2,O2,k⟩
 have hR:rRest.R V2 ((ofL p1,c):Scs [.s,.b,.l,.l]) ((ofL p1,x):DRest) f:=⟨⟨rfl,by show(ofL p1).size≤_; exact Nat.le_trans z1 (by omega)⟩,R2⟩
 refine⟨nofun,(c,ok,()),rfl,fun hp=>⟨le2,(ofL p1,c),(ofL p1,x),f,ok,rfl,hR,O2,fun y hy e=>?_⟩,fun hp=>⟨le2,(ofL p1,c),(ofL p1,x),f,false,rfl,hR,O2,fun y hy e=>?_⟩⟩
 ·have:=key y hy e
  simp only [Prod.mk.injEq] at this
  obtain⟨rfl,rfl,_⟩:=this
  rw [of_bl] at k
  rcases k with ⟨k1,k2,k3⟩ | ⟨_,_,k3⟩
  ·exact⟨k1,by rw [of_bl,ratX_inj k2 hy.2 (k3.trans (of_bl _))]⟩
  ·exact absurd ⟨y.2,hy.2,(of_bl _).symm⟩ k3
 ·have:=key y hy e
  simp only [Prod.mk.injEq] at this
  have h3:p3=false:=hp
  rw [h3] at this
  cases this.2.2
end Go.Proofs.YtagkjnpggkmehaaGreatDoor
namespace Go.Proofs.YtagkjnpggkmehaaGreatDoor
open Sx Go.RowKit
set_option maxRecDepth 100000
abbrev RsRd (V:Know) (s:ByteArray):Know→Value→Prop:=fun V' r=>V.le V'∧∃ t l f ok,r=.tuple #[Sc.val .l t,.bool ok]∧LR rRest V' t l f∧Own V V' f∧RdRests s l ok
theorem rs_none {V:Know}:LR rRest V ⟨none,0,0⟩ [] []:=⟨rfl,Nat.le_refl _,(by decide:0≤9223372036854775807),.inl ⟨rfl,fun _=>rfl,rfl⟩⟩
theorem rs_no {V V':Know} {s:ByteArray} (le:V.le V') (h:¬ ∃ m,RestsOkP m∧restsX m=s):RsRd V s V' (packed [.slice none 0 0,.bool false]):=⟨le,⟨none,0,0⟩,[],[],false,rfl,rs_none,Own.nil,.inr ⟨rfl,rfl,h⟩⟩
noncomputable def endT (x0:ByteArray) (n:Nat) (ys:List Value) (gOk gTx:Nat):T :=
 .fz n ys 40 fun b3 c3 =>
 .call false gOk [.slice (some { block:=b3,off:=(0:Nat):Go.Addr }) n (c3)] (.v (.o (.b))) fun y4 =>
 .br (!y4) (
  .ret [.slice (none) ((0:Nat)) ((0:Nat)),.bool (false)]) <|
 .call false gTx [.slice (some { block:=b3,off:=(0:Nat):Go.Addr }) n (c3)] (.v (.o (.s))) fun y5 =>
 .br (!y5.toList == x0.toList) (
  .ret [.slice (none) ((0:Nat)) ((0:Nat)),.bool (false)]) <|
 .ret [.slice (some { block:=b3,off:=(0:Nat):Go.Addr }) n (c3),.bool (true)]
theorem endT_wp {V0 V:Know} (le0:V0.le V) {s:ByteArray} {gOk gTx:Nat} {cs:List (Scs [.s,.b,.l,.l])} {out:List DRest} {fps:List Nat} (hE:Els rRest V cs out fps) (hO:Own V0 V fps) (hl:out.length≤9223372036854775807) (hc:∀ l,RestsOkP l→restsX l=s→out=l)
  (hOk:∀ V' t f,V0.le V'→LR rRest V' t out f→CallX Tryz.prog V' gOk [Sc.val .l t] (OkPost V' (RestsOkP out))) (hTx:∀ V' t f,V0.le V'→LR rRest V' t out f→RestsOkP out→CallX Tryz.prog V' gTx [Sc.val .l t] (TxPost V' (restsX out))) {Ns:List (List LV→Know→Prop)} :
  (endT s out.length (cs.flatMap (Scs.vals [.s,.b,.l,.l])) gOk gTx).wp Tryz.prog (fun V' vs=>RsRd V0 s V' (packed vs)) V V Ns:=by
 simp only [endT,T.wp]
 intro b c sp hb hcap _
 have leb:=kset_le (x:=(cs.flatMap (Scs.vals [.s,.b,.l,.l])++sp,((40:TypeId),((0,0):Nat × Nat)))) hb
 have L:=lr_lit (b:=b) (cap:=c) (n:=out.length) (post:=sp) (t:=(40,(0,0))) (hE.le leb) kset_same rfl hcap hl
 have O:Own V0 (kset V b (cs.flatMap (Scs.vals [.s,.b,.l,.l])++sp,(40,(0,0)))) (b :: fps):=Own.perm (hO.append (own_one hb kset_same) le0 leb) (List.perm_append_comm (l₁:=[b]) (l₂:=fps))
 have l1:=le0.trans leb
 refine(hOk _ ⟨some ⟨b,0,none⟩,out.length,c⟩ _ l1 L).mono ?_
 rintro V1 _ ⟨le1,e,rfl,he⟩
 have l2:=l1.trans le1
 refine⟨nofun,e,rfl,fun hf=>rs_no l2 fun⟨m,h1,h2⟩=>?_,fun ht=>(hTx V1 ⟨some ⟨b,0,none⟩,out.length,c⟩ _ l2 (L.le le1) (he.1 (by simpa using ht))).mono ?_⟩
 ·rw [← hc m h1 h2] at h1
  rw [he.2 h1] at hf; cases hf
 rintro V2 _ ⟨le2,rfl⟩
 have l3:=l2.trans le2
 refine⟨nofun,_,rfl,fun hf=>rs_no l3 fun⟨m,h1,h2⟩=>?_,fun ht2=>?_⟩
 ·have e1:=hc m h1 h2
  subst e1
  rw [text_eq.2 h2] at hf; cases hf
 ·exact⟨l3,_,out,b :: fps,true,rfl,(L.le le1).le le2,(O.post le1).post le2,.inl ⟨rfl,he.1 (by simpa using ht),text_eq.1 (by simpa using ht2)⟩⟩
theorem rs_empty {V:Know} {s:ByteArray} (hs:s.size=0) {b c:Nat} {sp:List Value} (hb:V b=none):RsRd V s (kset V b ([]++sp,(40,(0,0)))) (packed [.slice (some ⟨b,0,none⟩) 0 c,.bool true]):=by
 refine⟨kset_le hb,⟨some ⟨b,0,none⟩,0,c⟩,[],[b],true,rfl,lr_lit (r:=rRest) (cs:=[]) (fps:=[]) (post:=sp) (t:=(40,(0,0))) rfl kset_same rfl (Nat.zero_le _) (by decide),own_one hb kset_same,.inl ⟨rfl,fun i hi=>absurd hi (by simp),?_⟩⟩
 exact(text_eq.1 (empty_iff.2 hs)).symm
theorem rests_ne {l:List DRest} {s:ByteArray} (h:RestsOkP l) (e:restsX l=s) (hs:s.size≠0):l≠[]:=fun k=>hs (by rw [← e]; exact(restsX_nil h).2 k)
theorem flat_snoc4 {c:Scs [.s,.b,.l,.l]} {cs:List (Scs [.s,.b,.l,.l])}:(cs++[c]).flatMap (Scs.vals [.s,.b,.l,.l])=cs.flatMap (Scs.vals [.s,.b,.l,.l])++[.string c.1,.bool c.2.1,.slice c.2.2.1.a c.2.2.1.n c.2.2.1.c,.slice c.2.2.2.1.a c.2.2.2.1.n c.2.2.2.1.c]:=by
 rw [List.flatMap_append,List.flatMap_singleton]; rfl
theorem cI_TextRests {V:Know} (hV:HrI V) (s:ByteArray) (hs:s.size≤1048576):CallX Tryz.prog V 8 [.string s] (RsRd V s):=by
 refine CallX.of_fits Tryz.mix (fI_TextRests _) fun _=>?_
 simp only [tI_TextRests,T.wp]
 refine⟨fun he b1 c1 sp hb1 _ _=>rs_empty (empty_iff.1 he) hb1,fun he=>(cX_Split hV.2 s hs).mono ?_⟩
 have hs0:s.size≠0:=fun k=>by rw [empty_iff.2 k] at he; cases he
 rintro V1 _ ⟨le1,t,f1,rfl,L1⟩
 have hz:∀ n∈splitX s,n.size≤1048576:=fun n hn=>Nat.le_trans (splitB_size _ s n hn) hs
 have hP:∀ l,RestsOkP l→restsX l=s→splitX s=l.map restX:=fun l h e=>by rw [← e]; exact splitX_rests h (rests_ne h e hs0)
 revert hz hP L1
 generalize splitX s=P
 intro L1 hz hP
 have hn:=L1.1
 have h63:=L1.2.2.1
 rw [List.length_map] at hn
 rw [hn] at h63
 refine⟨nofun,t,rfl,?_⟩
 refine⟨fun y V'=>V1.le V'∧∃ (i:Nat) (out:List DRest) (cs:List (Scs [.s,.b,.l,.l])) (fps:List Nat),y.1.1=i∧y.1.2=cs.flatMap (Scs.vals [.s,.b,.l,.l])∧(y.2.1:Int)=(i:Int)∧i≤P.length∧i≤20∧out.length=i∧Els rRest V' cs out fps∧Own V V' fps∧∀ l,RestsOkP l→restsX l=s→out=l.take i,fun y _=>((P.length:Int)-(y.2.1:Int)).toNat,
  ⟨((0,[]),(0:Int),()),rfl,Know.le.refl _,0,[],[],[],rfl,rfl,rfl,Nat.zero_le _,by omega,rfl,rfl,Own.nil,fun l _ _=>rfl⟩,?_⟩
 rintro⟨⟨(m:Nat),(ys:List Value)⟩,(q:Int),u⟩ V2 ⟨le2,i,out,cs,fps,hm,hy,hq,hi,h20,ho,hE,hO,hc⟩
 replace hm:m=i:=hm
 replace hy:ys=cs.flatMap (Scs.vals [.s,.b,.l,.l]):=hy
 replace hq:q=(i:Int):=hq
 subst hm hy hq
 have l2:=le1.trans le2
 refine⟨fun hlt=>?_,fun hge=>?_⟩
 ·have hi':m<P.length:=by
   have:(m:Int)<(t.n:Int):=of_decide_eq_true hlt
   omega
  obtain⟨⟨b,o,a1,ld1⟩,_⟩:=(L1.le le2).txt (i:=m) (by rw [List.length_map]; exact hi')
  rw [List.getElem_map] at ld1
  have hzi:=hz _ (List.getElem_mem hi')
  have at_l:∀ l,RestsOkP l→restsX l=s→∃ h:m<l.length,restX l[m]=P[m]:=fun l h e=>by
   have:=hP l h e
   refine⟨by rw [this,List.length_map] at hi'; exact hi',?_⟩
   simp only [this,List.getElem_map]
  dsimp only
  rw [Int.toNat_natCast]
  refine⟨_,a1,(by omega:(0:Int)≤(m:Int)),(by omega:(m:Int)<(t.n:Int)),P[m],ld1,(cI_textRest (hV.le l2) P[m] hzi).mono ?_⟩
  rintro V3 _ ⟨le3,c,x,f,ok,rfl,R3,O3,k3⟩
  have l3:=l2.trans le3
  refine⟨nofun,(c,ok,()),rfl,fun hf=>rs_no l3 fun⟨l,h1,h2⟩=>?_,fun ht=>⟨fun he20=>rs_no l3 fun⟨l,h1,h2⟩=>?_,fun he20=>?_⟩⟩
  ·obtain⟨h3,h4⟩:=at_l l h1 h2
   have:=(k3 _ (rests_ok h1 _ (List.getElem_mem h3)) h4).1
   rw [this] at hf; cases hf
  ·obtain⟨h3,h4⟩:=at_l l h1 h2
   have h5:=rests_len h1
   have:(m:Int)=20:=by simpa using he20
   omega
  ·have hne:¬ (m:Int)=20:=by simpa using he20
   refine⟨rfl,⟨rfl,(by omega:(m+1)*72≤140737488355328),(by omega:m+1≤9223372036854775807)⟩,_,rfl,((m+1,(cs++[c]).flatMap (Scs.vals [.s,.b,.l,.l])),((m+1:Nat):Int),()),?_,⟨le2.trans le3,m+1,out++[x],cs++[c],fps++f,rfl,rfl,rfl,hi',by omega,by rw [List.length_append,ho]; rfl,(hE.le le3).snoc R3,hO.append O3 l2 le3,fun l h1 h2=>?_⟩,?_⟩
   ·rw [nxt hi' (by omega),flat_snoc4]; rfl
   ·obtain⟨h3,h4⟩:=at_l l h1 h2
    rw [hc l h1 h2,(k3 _ (rests_ok h1 _ (List.getElem_mem h3)) h4).2,List.take_succ_eq_append_getElem h3]
   ·show((P.length:Int)-((m+1:Nat):Int)).toNat<((P.length:Int)-(m:Int)).toNat
    omega
 ·have hi':m=P.length:=by
   have:¬ (m:Int)<(t.n:Int):=of_decide_eq_false hge
   omega
  have h9:=endT_wp (s:=s) (gOk:=17) (gTx:=15) (Ns:=[]) l2 hE hO (by omega) (fun l h1 h2=>by
   have:=congrArg List.length (hP l h1 h2)
   rw [List.length_map] at this
   rw [hc l h1 h2,hi',this,List.take_length]) (fun V' t f le L=>cI_RestsOk (hV.le le).1.c t out f L) (fun V' t f le L ok=>cI_RestsText (hV.le le).1 t out f L ok)
  rw [ho] at h9
  simp only [endT,T.wp] at h9
  exact h9
end Go.Proofs.YtagkjnpggkmehaaGreatDoor
namespace Go.Proofs.YtagkjnpggkmehaaGreatDoor
open Sx
set_option maxRecDepth 100000
theorem rests_at {V:Know} {cr:Scs [.s,.b,.l,.l]} {x:DRest} {f:List Nat} (h:rRest.R V cr x f):cr.1=x.1∧rRat.R V cr.2 x.2 f:=⟨h.1.1,h.2⟩
theorem cI_RestsNeg {V:Know} (hV:HcI V) (s:SlV) (l:List DRest) (f:List Nat) (h:LR rRest V s l f) (ok:RestsOkP l) :
  CallX Tryz.prog V 13 [Sc.val .l s] (fun V' r=>V.le V'∧∃ t g,r=.tuple #[Sc.val .l t,.bool true]∧LR rRest V' t (negR l) g):=by
 refine CallX.of_fits Tryz.mix (fI_RestsNeg _) fun _=>?_
 simp only [tI_RestsNeg,T.wp]
 have hn:=h.1
 have h20:=rests_len ok
 refine(cI_RestsOk hV s l f h).mono ?_
 rintro V1 _ ⟨le1,e1,rfl,he1⟩
 obtain rfl:e1=true:=he1.2 ok
 refine⟨nofun,true,rfl,nofun,fun _=>?_⟩
 refine⟨fun y V'=>V1.le V'∧∃ (i:Nat) (cs:List (Scs [.s,.b,.l,.l])) (fps:List Nat),y.1.1=i∧y.1.2=cs.flatMap (Scs.vals [.s,.b,.l,.l])∧(y.2.1:Int)=(i:Int)∧i≤l.length∧Els rRest V' cs (negR (l.take i)) fps,fun y _=>((l.length:Int)-(y.2.1:Int)).toNat,
  ⟨((0,[]),(0:Int),()),rfl,Know.le.refl _,0,[],[],rfl,rfl,rfl,Nat.zero_le _,rfl⟩,?_⟩
 rintro⟨⟨(m:Nat),(ys:List Value)⟩,(q:Int),u⟩ V2 ⟨le2,i,cs,fps,hm,hy,hq,hi,hE⟩
 replace hm:m=i:=hm
 replace hy:ys=cs.flatMap (Scs.vals [.s,.b,.l,.l]):=hy
 replace hq:q=(i:Int):=hq
 subst hm hy hq
 have l2:=le1.trans le2
 refine⟨fun hlt=>?_,fun hge=>?_⟩
 ·have hi':m<l.length:=by
   have:(m:Int)<(s.n:Int):=of_decide_eq_true hlt
   omega
  obtain⟨b1,o1,⟨c0,cr⟩,fc,a1,ld1,hR,_⟩:=(h.le l2).at hi'
  have hx:=rests_mem ok (List.getElem_mem hi')
  obtain⟨ename,hR2⟩:=rests_at hR
  replace ename:c0=l[m].1:=ename
  obtain⟨s1,s2,g1,g2,hcr,A,B,_⟩:=rat_elim hR2
  replace hcr:cr=(l[m].2.1,s1,s2,()):=hcr
  subst hcr ename
  dsimp only
  rw [Int.toNat_natCast]
  have z1:=hx.2.1.2.2.2.1
  have z2:=hx.2.1.2.2.2.2.1
  refine⟨_,a1,(by omega:(0:Int)≤(m:Int)),(by omega:(m:Int)<(s.n:Int)),(l[m].1,l[m].2.1,s1,s2,()),ld1,(rI_ratNeg V2 l[m].2.1 s1 s2 l[m].2.2.1 l[m].2.2.2.1 g1 g2 A B (by omega) (by omega)).mono ?_⟩
  rintro V3 _ ⟨le3,t,t',g,g',rfl,M1,M2,_⟩
  have htk:negR (l.take (m+1))=negR (l.take m)++[(l[m].1,negD l[m].2)]:=by
   rw [List.take_succ_eq_append_getElem hi']; unfold negR; rw [List.map_append]; rfl
  refine⟨fun _=>le3,(_,t,t',()),rfl,rfl,⟨rfl,(by omega:(m+1)*72≤140737488355328),(by omega:m+1≤9223372036854775807)⟩,_,rfl,
   ((m+1,(cs++[(l[m].1,(!l[m].2.1 && decide (0<l[m].2.2.1.length)),t,t',())]).flatMap (Scs.vals [.s,.b,.l,.l])),((m+1:Nat):Int),()),?_,⟨le2.trans le3,m+1,cs++[(l[m].1,(!l[m].2.1 && decide (0<l[m].2.2.1.length)),t,t',())],_,rfl,rfl,rfl,hi',by rw [htk]; exact(hE.le le3).snoc (c:=(l[m].1,(!l[m].2.1 && decide (0<l[m].2.2.1.length)),t,t',())) (x:=(l[m].1,negD l[m].2)) (show rRest.R V3 _ _ _ from⟨⟨rfl,known_len hx.1⟩,rat_mk M1 M2⟩)⟩,?_⟩
  ·rw [nxt hi' (by omega),flat_snoc4]; rfl
  ·show((l.length:Int)-((m+1:Nat):Int)).toNat<((l.length:Int)-(m:Int)).toNat
   omega
 ·have hi':m=l.length:=by
   have:¬ (m:Int)<(s.n:Int):=of_decide_eq_false hge
   omega
  intro b cap sp hb hcap _
  replace hcap:m≤cap:=hcap
  have leb:=kset_le (x:=(cs.flatMap (Scs.vals [.s,.b,.l,.l])++sp,((reT:TypeId),((0,0):Nat × Nat)))) hb
  have hlen:(negR l).length=l.length:=by unfold negR; rw [List.length_map]
  rw [hi',List.take_length] at hE
  have L:=lr_lit (b:=b) (cap:=cap) (n:=m) (post:=sp) (t:=(reT,(0,0))) (hE.le leb) kset_same (by omega) (by omega) (by omega)
  exact⟨l2.trans leb,_,_,rfl,L⟩
theorem cI_RatCmp (V:Know) (x y:DRat) (c d:Scs [.b,.l,.l]) (f g:List Nat) (hx:rRat.R V c x f) (hy:rRat.R V d y g) (ox:RatOkP x.1 x.2.1 x.2.2.1) (oy:RatOkP y.1 y.2.1 y.2.2.1) :
  CallX Tryz.prog V 18 [qv0 c,qv0 d] (fun V' r=>V.le V'∧r=.int .i64 (sgn (sval x.1 x.2.1*valN y.2.2.1-sval y.1 y.2.1*valN x.2.2.1))):=by
 refine CallX.of_fits Tryz.mix (fI_RatCmp _ _) fun _=>?_
 obtain⟨s1,s2,g1,g2,rfl,L1,L2,rfl⟩:=rat_elim hx
 obtain⟨t1,t2,k1,k2,rfl,M1,M2,rfl⟩:=rat_elim hy
 simp only [tI_RatCmp,T.wp]
 have z1:=ox.2.2.2.1
 have z2:=ox.2.2.2.2.1
 have z3:=oy.2.2.2.1
 have z4:=oy.2.2.2.2.1
 refine(cI_ratsOk V x.1 s1 s2 y.1 t1 t2 x.2.1 x.2.2.1 y.2.1 y.2.2.1 _ _ _ _ L1 L2 M1 M2 ox oy).mono ?_
 rintro V1 _ ⟨le1,rfl⟩
 refine⟨nofun,true,rfl,nofun,fun _=>(cI_num V1 x.1 s1 s2 t2 x.2.1 [] y.2.2.1 _ [] _ (L1.le le1) (M2.le le1) ox.1.1.1 oy.2.1.1 (by omega) (by omega)).mono ?_⟩
 rintro V2 _ ⟨le2,e2,u2,o2,f2,rfl,L3,C3,v3,n3⟩
 have l2:=le1.trans le2
 refine⟨fun _=>le2,_,rfl,(cI_num V2 y.1 t1 t2 s2 y.2.1 [] x.2.2.1 _ [] _ (M1.le l2) (L2.le l2) oy.1.1.1 ox.2.1.1 (by omega) (by omega)).mono ?_⟩
 rintro V3 _ ⟨le3,e3,u3,o3,f3,rfl,L4,C4,v4,n4⟩
 refine⟨nofun,_,rfl,(cI_intCmp V3 e2 u2 e3 u3 o2 o3 f2 f3 (L3.le le3) L4 C3 C4 (by omega) (by omega)).mono ?_⟩
 rintro V4 _ ⟨le4,rfl⟩
 exact⟨nofun,_,rfl,(l2.trans le3).trans le4,by rw [v3,v4]; rfl⟩
theorem cL_must (V:Know) (c:Scs [.b,.l,.l]):CallX Tryz.prog V 22 [qv0 c,.bool true] (fun V' r=>V'=V∧r=qv0 c):=by
 refine CallX.of_fits Tryz.mix (fL_must _ _) fun _=>?_
 simp only [tL_must,T.wp]
 exact⟨nofun,fun _=>⟨by trivial,rfl⟩⟩
abbrev halfD:DRat:=(false,[((1:Int),())],[((2:Int),())],())
theorem half_ok:RatP halfD:=⟨⟨⟨⟨lims_one (by decide),.inr (by decide)⟩,by decide⟩,fun h=>by cases h⟩,⟨⟨lims_one (by decide),.inr (by decide)⟩,by decide⟩,by decide,by decide,by decide,by decide⟩
theorem cI_IntLim (V:Know) (k:Int) (h:0<k∧k<1000000000):CallX Tryz.prog V 62 [.int .i64 k] (fun V' r=>V.le V'∧∃ s f,r=qv1 (false,s,())∧LR rI V' s [(k,())] f):=by
 refine CallX.of_fits Tryz.mix (fI_IntOf _) fun _=>?_
 simp only [tI_IntOf,T.wp]
 refine⟨fun hn=>?_,fun _=>?_⟩
 ·have:=of_decide_eq_true hn
  omega
 rw [show IntKind.u64.wrap k=k from wrap_u64 (by omega)]
 refine(cI_natOf V k (by omega)).mono ?_
 rintro V1 _ ⟨le1,s,o,f,rfl,L,_,C,v,_⟩
 have e:o=[(k,())]:=can_inj C ⟨lims_one (by omega),.inr (by show k≠0; omega)⟩ (by rw [v,valN_one])
 subst e
 exact⟨nofun,s,rfl,le1,s,f,rfl,L⟩
theorem cL_half (V:Know):CallX Tryz.prog V 21 [] (fun V' r=>V.le V'∧∃ c f,r=qv0 c∧rRat.R V' c halfD f):=by
 refine CallX.of_fits Tryz.mix fL_half fun _=>?_
 simp only [tL_half,T.wp]
 refine(cI_IntLim V 1 (by omega)).mono ?_
 rintro V1 _ ⟨le1,s,f,rfl,L1⟩
 refine⟨fun _=>le1,(false,s,()),rfl,(cI_IntLim V1 2 (by omega)).mono ?_⟩
 rintro V2 _ ⟨le2,t,g,rfl,L2⟩
 have twoI:IntOkP false [((2:Int),())]:=⟨⟨⟨lims_one (by decide),.inr (by decide)⟩,by simp⟩,fun h=>by cases h⟩
 have key:CallX Tryz.prog V2 61 [qv1 (false,s,()),qv1 (false,t,())] (RatPost V2 1 2):=by
  have hL:=L1.le le2
  refine CallX.of_fits Tryz.mix (fI_RatMake _ _) fun _=>?_
  simp only [tI_RatMake,T.wp]
  refine(cI_intsOk V2 false s false t _ _ f g hL L2 oneI_ok twoI).mono ?_
  rintro V3 _ ⟨rfl,rfl⟩
  have hs1:=L2.1
  refine⟨nofun,true,rfl,nofun,fun _=>⟨fun hz=>?_,fun _=>(cI_signed V3 _ s).mono ?_⟩⟩
  ·have:(t.n:Int)=0:=by simpa using hz
   simp at hs1
   omega
  rintro V4 _ ⟨rfl,rfl⟩
  refine⟨fun _=>Know.le.refl _,(false,s,()),rfl,(cI_reduce V4 false s t _ _ f g hL L2 oneI_ok.1.1 twoI.1.1 (by rw [valN_one]; decide) (by simp) (by simp)).mono ?_⟩
  rintro V5 _ ⟨le5,c,x,e,f5,rfl,R5,O5,hx⟩
  exact⟨fun _=>le5,(c,e,()),rfl,le5,c,x,e,f5,rfl,R5,O5,hx⟩
 refine⟨fun _=>le2,(false,t,()),rfl,key.mono ?_⟩
 rintro V3 _ ⟨le3,c,x,e,f3,rfl,R3,_,hx⟩
 have hd:RedS 1 2 halfD true:=⟨[((1:Int),())],[((2:Int),())],⟨⟨lims_one (by decide),.inr (by decide)⟩,⟨lims_one (by decide),.inr (by decide)⟩,by decide,by decide⟩,.inl ⟨by decide,by decide,rfl,rfl⟩⟩
 obtain⟨rfl,rfl⟩:=redS_inj (by decide) hx hd
 refine⟨fun _=>le3,(c,true,()),rfl,(cL_must V3 c).mono ?_⟩
 rintro V4 _ ⟨rfl,rfl⟩
 exact⟨nofun,c,rfl,(le1.trans le2).trans le3,c,f3,rfl,R3⟩
end Go.Proofs.YtagkjnpggkmehaaGreatDoor
namespace Go.Proofs.YtagkjnpggkmehaaGreatDoor
open Sx
set_option maxRecDepth 100000
def entT (i:Nat) (p:ByteArray × Value):MapEntry:=⟨.string p.1,p.2,i⟩
def entsT:Nat→List (ByteArray × Value)→List MapEntry
 | _,[]=>[]
 | i,p :: l=>entT i p :: entsT (i+1) l
theorem entsT_app:∀ (l:List (ByteArray × Value)) (i:Nat) (p:ByteArray × Value),entsT i (l++[p])=entsT i l++[entT (i+l.length) p]
 | [],i,p=>rfl
 | q :: l,i,p=>by
  show entT i q :: entsT (i+1) (l++[p])=_
  rw [entsT_app l (i+1) p,List.length_cons,show i+1+l.length=i+(l.length+1) by omega]; rfl
def lkT (k:ByteArray):List (ByteArray × Value)→Nat→Option (Nat × Value)
 | [],_=>none
 | p :: l,j=>if k=p.1 then some (j,p.2) else lkT k l (j+1)
theorem lkT_none {k:ByteArray}:∀ {l:List (ByteArray × Value)} {j:Nat},(∀ p∈l,k≠p.1)→lkT k l j=none
 | [],_,_=>rfl
 | p :: l,j,h=>by rw [lkT,if_neg (h p (by simp)),lkT_none fun q hq=>h q (by simp [hq])]
theorem beq_text (a b:ByteArray):(a == b)=decide (a=b):=by
 obtain⟨a⟩:=a
 obtain⟨b⟩:=b
 have e:((⟨a⟩:ByteArray) == ⟨b⟩)=(a == b):=rfl
 rw [e]
 by_cases h:a=b
 ·subst h; simp
 ·rw [decide_eq_false (fun q=>h (ByteArray.mk.inj q))]
  exact beq_false_of_ne h
theorem now_text (k:ByteArray):∀ (l:List (ByteArray × Value)) (i j:Nat),Instr.findNow .string (.string k) (entsT i l) j=some (lkT k l j)
 | [],_,_=>rfl
 | p :: l,i,j=>by
  have ih:=now_text k l (i+1) (j+1)
  have e:Instr.sameNow .string (.string k) (entT i p).key=some (decide (k=p.1)):=by
   show some (k == p.1)=_
   rw [beq_text]
  rw [entsT,Instr.findNow,e,lkT]
  by_cases h:k=p.1
  ·rw [decide_eq_true h,if_pos h]; rfl
  ·rw [decide_eq_false h,if_neg h]; exact ih
section
variable {P:Program} {V:Know} {M T E m i c:Nat} {l:List (ByteArray × Value)} (hM:P.underlying M=some (.map T E)) (hT:P.underlying T=some .string) (hV:V m=some (mapC (entsT i l),(c,(1,0))))
include hT in
theorem run_keyText (w:World) (k:ByteArray):(Instr.findKey T (.string k) (entsT i l)).run P w=.ok (lkT k l 0) w:=by
 simp only [Instr.findKey,run_underlying hT,Sem.run_bind,Result.andThen_ok,now_text]
 rfl
include hT in
theorem run_chkText (w:World) (e:Bool) (k:ByteArray):(Instr.checkKey e 10000 T (.string k)).run P w=.ok () w:=by
 show(Instr.checkKey e (9999+1) T (.string k)).run P w=_
 generalize 9999=n
 simp [Instr.checkKey,run_underlying hT]
include hM hT hV
theorem semx_lkText {z:Value} (hz:∀ w,(zeroValue E).run P w=.ok z w) (k:ByteArray) :
  SemX P V (MOp.lk M (.map (some m)) (.string k) true).sem (fun V' r=>V'=V∧r=.tuple #[((lkT k l 0).map (·.2)).getD z,.bool (lkT k l 0).isSome]):=by
 intro w hw
 have hm:=hw _ _ _ hV
 rw [objOf_map] at hm
 have hg:(getObj m).run P w=.ok (.map (entsT i l).toArray c) w:=by simp [getObj,Sem.run,hm]
 refine⟨_,w,V,?_,Fr.refl V w,hw,rfl,rfl⟩
 cases h:lkT k l 0 with
 | none=>simp [MOp.sem,Instr.lookup,run_underlying hM,hg,run_chkText hT,run_keyText hT,h,hz]
 | some o=>simp [MOp.sem,Instr.lookup,run_underlying hM,hg,run_chkText hT,run_keyText hT,h]
theorem semx_upText (hc:c=i+l.length) (k:ByteArray) (x:Value) (h:∀ p∈l,k≠p.1) :
  SemX P V (MOp.up M (.map (some m)) (.string k) x).sem (fun V' r=>V'=kset V m (mapC (entsT i (l++[(k,x)])),(i+(l++[(k,x)]).length,(1,0)))∧r=.tuple #[]):=by
 intro w hw
 have hm:=hw _ _ _ hV
 rw [objOf_map] at hm
 have hg:(getObj m).run P w=.ok (.map (entsT i l).toArray c) w:=by simp [getObj,Sem.run,hm]
 obtain⟨f1,f2⟩:=map_set (k':=i+(l++[(k,x)]).length) (es':=entsT i (l++[(k,x)])) hw hV
 refine⟨_,_,_,?_,f1,f2,rfl,rfl⟩
 have hs:(setObj m (.map (entsT i (l++[(k,x)])).toArray (i+(l++[(k,x)]).length))).run P w=.ok () { w with heap:=w.heap.setIfInBounds m (.map (entsT i (l++[(k,x)])).toArray (i+(l++[(k,x)]).length)) }:=by
  simp [setObj,Sem.run,hm]
 have e:(entsT i l).toArray.push { key:=.string k,val:=x,born:=c }=(entsT i (l++[(k,x)])).toArray:=by
  rw [entsT_app,hc]
  simp [entT]
 have e2:c+1=i+(l++[(k,x)]).length:=by simp; omega
 have h0:=lkT_none (j:=0) h
 simp only [MOp.sem,Instr.mapUpdate,run_underlying hM,Sem.run_bind,Result.andThen_ok,hg,run_chkText hT,run_keyText hT,h0,e,e2,hs]
 rfl
omit hV in
theorem semx_delText {k:ByteArray} {v:Value} (hV:V m=some (mapC (entsT i ((k,v) :: l)),(c,(1,0)))) {ts:Array TypeId} {t:TypeId} (hts:ts[0]?=some M) :
  SemX P V (MOp.del ts t (.map (some m)) (.string k)).sem (fun V' r=>V'=kset V m (mapC (entsT (i+1) l),(c,(1,0)))∧r=.tuple #[]):=by
 intro w hw
 have hm:=hw _ _ _ hV
 rw [objOf_map] at hm
 have hg:(getObj m).run P w=.ok (.map (entsT i ((k,v) :: l)).toArray c) w:=by simp [getObj,Sem.run,hm]
 obtain⟨f1,f2⟩:=map_set (k':=c) (es':=entsT (i+1) l) hw hV
 refine⟨_,_,_,?_,f1,f2,rfl,rfl⟩
 have hs:(setObj m (.map (entsT (i+1) l).toArray c)).run P w=.ok () { w with heap:=w.heap.setIfInBounds m (.map (entsT (i+1) l).toArray c) }:=by
  simp [setObj,Sem.run,hm]
 have e:(entsT i ((k,v) :: l)).toArray.eraseIdxIfInBounds 0=(entsT (i+1) l).toArray:=by
  rw [entsT]; simp [Array.eraseIdxIfInBounds]
 have h0:lkT k ((k,v) :: l) 0=some (0,v):=if_pos rfl
 have a0:(#[Value.map (some m),Value.string k]:Array Value)[0]?=some (.map (some m)):=rfl
 have a1:(#[Value.map (some m),Value.string k]:Array Value)[1]?=some (.string k):=rfl
 simp only [MOp.sem,Builtin.delete_,hts,a0,a1,run_underlying hM,Sem.run_bind,Result.andThen_ok,hg,run_chkText hT,run_keyText hT,h0,e,hs]
 rfl
end
end Go.Proofs.YtagkjnpggkmehaaGreatDoor
