/-
  Decimals read from their texts by the reference.
-/
import Derived.Test.YtpdfdkccgkieoaaGreatDoorRdB
import Derived.Test.YtpdfdkccgkieoaaGreatDoorCmdC
import Derived.Test.YtpdfdkccgkieoaaGreatDoorStr
import Derived.Test.YtpdfdkccgkieoaaGreatDoorPut
import Derived.Test.YtpdfdkccgkieoaaGreatDoorCmdU
namespace Go.Proofs.YtpdfdkccgkieoaaGreatDoor
open Sx Go.RowKit
set_option maxRecDepth 100000
theorem lr_texts {V:Know} {b cap:Nat} {ns:List ByteArray} {post:List Value} {t:KTy} (h:V b=some (ns.map Value.string++post,t)) (hz:∀ n∈ns,n.size≤9223372036854775807) (hc:ns.length≤cap) (hl:ns.length≤9223372036854775807) :
  LR rString V ⟨some ⟨b,0,none⟩,ns.length,cap⟩ (ns.map fun n=>(n,())) [b] :=
 lr_lit (fps:=[]) (cs:=ns.map fun n=>(n,())) (els_ns hz) (by rw [vals_ns]; exact h) (by simp) (by simpa using hc) (by simpa using hl)
theorem own_one {V V':Know} {b:Nat} {c:List Value} {u:TypeId} (h:V b=none) (k:V' b=some (c,(u,(0,0)))):Own V V' [b] :=
 ⟨by simp,fun y hy=>by
  obtain rfl:y=b:=by simpa using hy
  exact h,fun y hy=>by
  obtain rfl:y=b:=by simpa using hy
  exact⟨_,_,k⟩⟩
abbrev CutPost (V:Know) (c:UInt8) (s:ByteArray):Know→Value→Prop:=fun V' r=>V.le V'∧∃ t f,r=Sc.val .l t∧LR rString V' t (cutB c s) f∧Own V V' f
def CutInv (c:UInt8) (s:ByteArray) (out:List ByteArray) (fr i:Nat):Prop:=fr≤i∧i≤s.size∧out.length≤i∧(∀ x∈out,x.size≤s.size)∧out.map bl++cutA c (((bl s).take i).drop fr) ((bl s).drop i)=cutA c [] (bl s)
theorem CutInv.start {c:UInt8} {s:ByteArray}:CutInv c s [] 0 0:=⟨Nat.le_refl _,Nat.zero_le _,Nat.le_refl _,(fun _ h=>by cases h),rfl⟩
theorem CutInv.hit {c:UInt8} {s:ByteArray} {out:List ByteArray} {fr i:Nat} (h:CutInv c s out fr i) (hi:i<(bl s).length) (hc:(bl s)[i]=c):CutInv c s (out++[s.extract fr i]) (i+1) (i+1):=by
 obtain⟨h1,h2,h3,h4,h5⟩:=h
 have hl:=bl_len s
 refine⟨Nat.le_refl _,by omega,by simp; omega,fun x hx=>?_,?_⟩
 ·rcases List.mem_append.1 hx with k | k
  ·exact h4 x k
  ·obtain rfl:x=s.extract fr i:=by simpa using k
   rw [ByteArray.size_extract]; omega
 ·rw [← h5,List.drop_eq_getElem_cons hi,cutA,if_pos hc,take_drop_self,List.map_append,List.append_assoc]
  show out.map bl++(bl (s.extract fr i) :: _)=_
  rw [bl_extract]
  rfl
theorem CutInv.miss {c:UInt8} {s:ByteArray} {out:List ByteArray} {fr i:Nat} (h:CutInv c s out fr i) (hi:i<(bl s).length) (hc:(bl s)[i]≠c):CutInv c s out fr (i+1):=by
 obtain⟨h1,h2,h3,h4,h5⟩:=h
 have hl:=bl_len s
 refine⟨by omega,by omega,by omega,h4,?_⟩
 rw [← h5,List.drop_eq_getElem_cons hi,cutA,if_neg hc,take_drop_snoc hi h1]
theorem CutInv.stop {c:UInt8} {s:ByteArray} {out:List ByteArray} {fr:Nat} (h:CutInv c s out fr s.size):cutB c s=(out++[s.extract fr s.size]).map fun n=>(n,()):=by
 obtain⟨h1,h2,h3,h4,h5⟩:=h
 have hl:=bl_len s
 unfold cutB
 rw [← h5,show(bl s).drop s.size=[] from List.drop_of_length_le (by omega),cutA,← bl_extract]
 have:out.map bl++[bl (s.extract fr s.size)]=(out++[s.extract fr s.size]).map bl:=by simp
 rw [this,List.map_map]
 refine List.map_congr_left fun x _=>?_
 show(ofL (bl x),())=(x,())
 rw [of_bl]
theorem cut_fin {V V':Know} {c:UInt8} {s:ByteArray} {out:List ByteArray} {fr:Nat} (hs:s.size≤1048576) (le:V.le V') (h:CutInv c s out fr s.size) {b cap:Nat} {sp:List Value} (hb:V' b=none) (hc:out.length+1≤cap) :
  CutPost V c s (kset V' b ((out.map Value.string++[Value.string (s.extract fr s.size)])++sp,(9,(0,0)))) (packed [.slice (some ⟨b,0,none⟩) (out.length+1) cap]):=by
 have hx:∀ n∈out++[s.extract fr s.size],n.size≤9223372036854775807:=fun n hn=>by
  rcases List.mem_append.1 hn with k | k
  ·have:=h.2.2.2.1 n k; omega
  ·obtain rfl:n=s.extract fr s.size:=by simpa using k
   rw [ByteArray.size_extract]; omega
 have h3:=h.2.2.1
 have e:(out.map Value.string++[Value.string (s.extract fr s.size)])=(out++[s.extract fr s.size]).map Value.string:=by simp
 have hst:=h.stop
 rw [e]
 have L:=lr_texts (V:=kset V' b ((out++[s.extract fr s.size]).map Value.string++sp,(9,(0,0)))) (b:=b) (cap:=cap) (post:=sp) (t:=(9,(0,0))) kset_same hx (by simpa using hc) (by simp; omega)
 have en:(out++[s.extract fr s.size]).length=out.length+1:=by simp
 rw [en] at L
 exact⟨le.trans (kset_le hb),_,[b],rfl,by rw [hst]; exact L,own_one (none_of_le le hb) kset_same⟩
theorem index_one (a c:UInt8):Go.Lib.indexByte (⟨#[c]⟩:ByteArray).data.toList a≥0↔a=c:=by
 show Go.Lib.indexByte [c] a≥0↔_
 unfold Go.Lib.indexByte
 by_cases h:c=a
 ·rw [if_pos (by simp [h])]; simp [h]
 ·rw [if_neg (by simp [h])]
  unfold Go.Lib.indexByte
  simp
  exact fun e=>h e.symm
theorem cX_IndexByte (V:Know) (s:ByteArray) (c:Int):CallX Tryz.prog V 204 [.string s,.int .u8 c] (fun V' r=>V'=V∧r=.int .i64 (Go.Lib.indexByte s.data.toList c.toNat.toUInt8)):=by
 refine CallX.of_calls ⟨_,Tryz.func204,by kernel_rfl,by kernel_rfl⟩ fun w _=>?_
 refine(Tryz.strings_IndexByte s c w).mono ?_
 rintro e w' ⟨rfl,rfl⟩
 exact⟨rfl,Below.refl _ _⟩
theorem cI_CutAt (V:Know) (s:ByteArray) (c:UInt8) (hs:s.size≤1048576):CallX Tryz.prog V 169 [.string s,.string ⟨#[c]⟩] (CutPost V c s):=by
 refine CallX.of_fits Tryz.mix (fI_CutAt _ _) fun _=>?_
 simp only [tI_CutAt,T.wp]
 have hl:=bl_len s
 refine⟨fun y V'=>V'=V∧∃ (out:List ByteArray) (fr i:Nat),y.1.1=out.length∧y.1.2=out.map Value.string∧(y.2.1:Int)=(fr:Int)∧(y.2.2.1:Int)=(i:Int)∧CutInv c s out fr i,fun y _=>((s.size:Int)-(y.2.2.1:Int)).toNat,
  ⟨((0,[]),(0:Int),(0:Int),()),rfl,rfl,[],0,0,rfl,rfl,rfl,rfl,CutInv.start⟩,?_⟩
 rintro⟨⟨(m:Nat),(ys:List Value)⟩,(q:Int),(i:Int),u⟩ V' ⟨rfl,out,fr,k,hm,hy,hq,hi,inv⟩
 replace hm:m=out.length:=hm
 replace hy:ys=out.map Value.string:=hy
 replace hq:q=(fr:Int):=hq
 replace hi:i=(k:Int):=hi
 subst hm hy hq hi
 have i1:=inv.1
 have i2:=inv.2.1
 have i3:=inv.2.2.1
 refine⟨fun hlt=>?_,fun hge=>?_⟩
 ·have hk:k<s.size:=by
   have:(k:Int)<(s.size:Int):=of_decide_eq_true hlt
   omega
  have hk':k<(bl s).length:=by omega
  have hw:IntKind.i64.wrap ((k:Int)+1)=((k+1:Nat):Int):=by rw [wrap_i64 (by omega)]; omega
  have hmm:((s.size:Int)-((k+1:Nat):Int)).toNat<((s.size:Int)-(k:Int)).toNat:=by omega
  have ek:at0 s (k:Int).toNat=((bl s)[k].toNat:Int):=by rw [Int.toNat_natCast]; exact at0_bl hk'
  have eu:((bl s)[k].toNat:Int).toNat.toUInt8=(bl s)[k]:=by
   apply UInt8.toNat_inj.1
   rw [Int.toNat_natCast]
   show(UInt8.ofNat (bl s)[k].toNat).toNat=_
   simp
  dsimp only
  rw [ek]
  refine⟨⟨(by omega:(0:Int)≤(k:Int)),(by omega:(k:Int)<(s.size:Int))⟩,(cX_IndexByte V' _ _).mono ?_⟩
  rintro V1 _ ⟨rfl,rfl⟩
  rw [eu]
  refine⟨nofun,_,rfl,fun heq=>?_,fun hne=>?_⟩
  ·have hcc:=(index_one _ _).1 (of_decide_eq_true heq)
   rw [Int.toNat_natCast,Int.toNat_natCast]
   refine⟨⟨(by omega:(0:Int)≤(fr:Int)),(by omega:(fr:Int)≤(k:Int)),(by omega:(k:Int)≤(s.size:Int))⟩,rfl,⟨rfl,(by omega:(out.length+1)*16≤140737488355328),(by omega:out.length+1≤9223372036854775807)⟩,_,rfl,((out.length+1,(out++[s.extract fr k]).map Value.string),((k+1:Nat):Int),((k+1:Nat):Int),()),?_,⟨rfl,out++[s.extract fr k],k+1,k+1,by simp,rfl,rfl,rfl,inv.hit hk' hcc⟩,hmm⟩
   rw [hw]
   simp [LShs.lvs,LSh.lv,Sh1.val,Sc.val]
  ·have hcc:(bl s)[k]≠c:=fun e=>of_decide_eq_false hne ((index_one _ _).2 e)
   exact⟨_,rfl,((out.length,out.map Value.string),(fr:Int),((k+1:Nat):Int),()),by rw [hw]; rfl,⟨rfl,out,fr,k+1,rfl,rfl,rfl,rfl,inv.miss hk' hcc⟩,hmm⟩
 ·have hk:k=s.size:=by
   have:¬ (k:Int)<(s.size:Int):=of_decide_eq_false hge
   omega
  subst hk
  dsimp only
  rw [Int.toNat_natCast,Int.toNat_natCast]
  refine⟨⟨(by omega:(0:Int)≤(fr:Int)),(by omega:(fr:Int)≤(s.size:Int)),Int.le_refl _⟩,rfl,⟨rfl,(by omega:(out.length+1)*16≤140737488355328),(by omega:out.length+1≤9223372036854775807)⟩,fun b cap sp hb hcap _=>?_⟩
  exact cut_fin hs (Know.le.refl _) inv hb hcap
end Go.Proofs.YtpdfdkccgkieoaaGreatDoor
namespace Go.Proofs.YtpdfdkccgkieoaaGreatDoor
open Sx Go.RowKit
set_option maxRecDepth 100000
theorem rdNat_get {s:ByteArray} {o q:List Lim} {ok:Bool} (h:RdNat s o ok) (hq:NatOkP q) (e:natT q=s):ok=true∧o=q:=by
 rcases h with ⟨h1,h2,h3⟩ | ⟨_,_,h⟩
 ·exact⟨h1,natT_inj h2.1 hq.1 (h3.trans e.symm)⟩
 ·exact absurd ⟨q,hq,e⟩ h
theorem LR.at1t {V:Know} {t:SlV} {l:List Tx} {f:List Nat} (h:LR rString V t l f) {p q:Tx} {r:List Tx} (e:l=p :: q :: r):∃ b o,t.a=some ⟨b,o,none⟩∧loadV V ((⟨b,o,none⟩:Addr).add (Int.toNat 1*1)) 1=some [.string q.1]:=by
 subst e
 obtain⟨⟨b,o,a1,l1⟩,_⟩:=h.txt (i:=1) (by simp)
 exact⟨b,o,a1,l1⟩
theorem cut_cases (c:UInt8) (s:ByteArray):(∃ p,cutB c s=[p])∨(∃ p q,cutB c s=[p,q])∨∃ p q r l,cutB c s=p :: q :: r :: l:=by
 have:=cutB_pos c s
 match h:cutB c s with
 | []=>rw [h] at this; simp at this
 | [p]=>exact .inl ⟨p,rfl⟩
 | [p,q]=>exact .inr (.inl ⟨p,q,rfl⟩)
 | p :: q :: r :: l=>exact .inr (.inr ⟨p,q,r,l,rfl⟩)
end Go.Proofs.YtpdfdkccgkieoaaGreatDoor
namespace Go.Proofs.YtpdfdkccgkieoaaGreatDoor
open Sx
set_option maxRecDepth 100000
def DcRes (s:ByteArray) (n:Bool) (o:List Lim) (sc:Int) (ok:Bool):Prop :=
 (o.length≤s.size∧(ok=true→DecOkP n o sc∧decT n o sc=s))∧0≤sc∧sc≤(s.size:Int)∧∀ m l q,DecOkP m l q→decT m l q=s→ok=true∧n=m∧o=l∧sc=q
abbrev DecRd (V:Know) (s:ByteArray):Know→Value→Prop:=fun V' r=>V.le V'∧∃ n t sc o f ok,r=.tuple #[qv3 (n,t,sc,()),.bool ok]∧LR rI V' t o f∧Own V V' f∧DcRes s n o sc ok
theorem dc_no {V V':Know} {s:ByteArray} (le:V.le V') (h:∀ m l q,DecOkP m l q→decT m l q=s→False):DecRd V s V' (packed [qv3 (false,⟨none,0,0⟩,(0:Int),()),.bool false]) :=
 ⟨le,false,⟨none,0,0⟩,0,[],[],false,rfl,lr_none,Own.nil,⟨Nat.zero_le _,nofun⟩,Int.le_refl _,by omega,fun m l q a b=>(h m l q a b).elim⟩
theorem okT_get {p:Prop} {t s:ByteArray} (h:okT p t=s) (hs:0<s.size):p∧t=s:=by
 by_cases k:p
 ·rw [okT_pos k] at h
  exact⟨k,h⟩
 ·rw [okT_neg k] at h
  rw [← h] at hs
  exact absurd hs (by decide)
theorem rdNat_pos {w:ByteArray} {o:List Lim} (h:RdNat w o true):0<w.size:=by
 rcases h with ⟨_,k2,k3⟩ | ⟨k1,_⟩
 ·obtain⟨c,r,e,_⟩:=natT_head k2.1
  rw [← k3,← bl_len,e]
  simp
 ·cases k1
noncomputable def dcFin (x0:ByteArray) (neg:Bool) (sc:Int) (w:ByteArray):T :=
 .call false 231 [.string w] (.t [(.o (.l)),(.o (.b))]) fun y6 =>
 .call false 94 [.bool neg,Sc.val .l (y6.1)] (.v (.g [.b,.l])) fun y7 =>
 .br (!y6.2.fst) (
  .ret [qv3 ((false),(⟨(none),((0:Nat)),((0:Nat))⟩:SlV),(((0:Int)):Int),()),.bool (false)]) <|
 .call false 138 [qv3 ((y7.fst),y7.2.1,(sc:Int),())] (.v (.o (.s))) fun y8 =>
 .br (!y8.toList == x0.toList) (
  .ret [qv3 ((false),(⟨(none),((0:Nat)),((0:Nat))⟩:SlV),(((0:Int)):Int),()),.bool (false)]) <|
 .ret [qv3 ((y7.fst),y7.2.1,(sc:Int),()),.bool (true)]
noncomputable def dcLp (x0:ByteArray) (neg:Bool) (sc:Int) (w:ByteArray):T :=
 .lp [.o (.o (.s))] [.v (.string (w))] fun y5 =>
 .br (decide ((↑(ByteArray.size y5.fst):Int) > (1:Int))) (
  .rq ((0:Int)≤(0:Int)∧(0:Int)<(↑(ByteArray.size y5.fst):Int)) <|
  .br (at0 y5.fst (Int.toNat (0:Int)) == (48:Int)) (
   .rq ((0:Int)≤(1:Int)∧(1:Int)≤(↑(ByteArray.size y5.fst):Int)∧(↑(ByteArray.size y5.fst):Int)≤(↑(ByteArray.size y5.fst):Int)) <|
   .nx 0 [.v (.string (ByteArray.extract y5.fst (Int.toNat (1:Int)) (↑(ByteArray.size y5.fst):Int).toNat))]) <|
  dcFin x0 neg sc y5.fst) <|
 dcFin x0 neg sc y5.fst
noncomputable def dcBody (x0:ByteArray) (neg:Bool) (d:ByteArray):T :=
 .call false 169 [.string d,.string ({ data:={ toList:=[(46:UInt8)]:Array UInt8 }:ByteArray })] (.v (.o (.l))) fun y1 =>
 .br (decide ((↑y1.n:Int) > (2:Int))) (
  .ret [qv3 ((false),(⟨(none),((0:Nat)),((0:Nat))⟩:SlV),(((0:Int)):Int),()),.bool (false)]) <|
 .br (decide ((↑d.size:Int) > (100:Int))) (
  .ret [qv3 ((false),(⟨(none),((0:Nat)),((0:Nat))⟩:SlV),(((0:Int)):Int),()),.bool (false)]) <|
 .br ((↑y1.n:Int) == (2:Int)) (
  .el (y1.1) (y1.n) ((1:Int)) fun y2 =>
  .ld false (y2.add (Int.toNat (1:Int)*(1:Nat))) (.o (.s)) fun y3 =>
  .call false 52 [Sc.val .l (y1),.string ({ data:={ toList:=[]:Array UInt8 }:ByteArray })] (.v (.o (.s))) fun y4 =>
  dcLp x0 neg (↑y3.size:Int) y4) <|
 .call false 52 [Sc.val .l (y1),.string ({ data:={ toList:=[]:Array UInt8 }:ByteArray })] (.v (.o (.s))) fun y2 =>
 dcLp x0 neg (0:Int) y2
theorem dcFin_wp {V0 V Vd:Know} {Ns:List (List LV→Know→Prop)} (hV:HtI V) (le0:V0.le V) {s w:ByteArray} {neg:Bool} {sc:Int} (hs:s.size≤1048576) (hw:w.size≤s.size) (h0:0≤sc) (h1:sc≤(s.size:Int))
  (hc:∀ m l q,DecOkP m l q→decT m l q=s→w=natT l∧m=neg∧q=sc):(dcFin s neg sc w).wp Tryz.prog (fun V' vs=>DecRd V0 s V' (packed vs)) V Vd Ns:=by
 simp only [dcFin,T.wp]
 refine(cI_TextNat V w (by omega)).mono ?_
 rintro V1 _ ⟨le1,t,o,f,ok,rfl,L1,O1,k⟩
 refine⟨nofun,(t,ok,()),rfl,(cI_signed V1 neg t).mono ?_⟩
 rintro _ _ ⟨rfl,rfl⟩
 have get:∀ m l q,DecOkP m l q→decT m l q=s→ok=true∧o=l∧m=neg∧q=sc:=fun m l q a b=>by
  obtain⟨e1,e2,e3⟩:=hc m l q a b
  obtain⟨k1,k2⟩:=rdNat_get k a.1.1 e1.symm
  exact⟨k1,k2,e2,e3⟩
 refine⟨nofun,(neg && decide ((t.n:Int) > 0),t,()),rfl,fun hf=>dc_no (le0.trans le1) fun m l q a b=>?_,fun ht=>?_⟩
 ·have:=(get m l q a b).1
  rw [this] at hf; cases hf
 ·have hk:ok=true:=by simpa using ht
  subst hk
  have hn:=L1.1
  have hol:o.length≤s.size:=by
   rcases k with ⟨_,k2,k3⟩ | ⟨k1,_⟩
   ·have:=natT_len k2.1
    rw [k3] at this; omega
   ·cases k1
  refine(cI_DecText (hV.le le1) (neg && decide ((t.n:Int) > 0)) t sc o f L1).mono ?_
  rintro V2 _ ⟨le2,rfl⟩
  have full:∀ m l q,DecOkP m l q→decT m l q=s→(neg && decide ((t.n:Int) > 0))=m∧o=l∧sc=q:=fun m l q a b=>by
   obtain⟨_,e2,e3,e4⟩:=get m l q a b
   subst e2 e3 e4
   refine⟨?_,rfl,rfl⟩
   cases m with
   | false=>rfl
   | true =>
    have:=a.1.2 rfl
    rw [Bool.true_and]
    exact decide_eq_true (by omega)
  have leA:=le0.trans (le1.trans le2)
  refine⟨nofun,_,rfl,fun hne=>dc_no leA fun m l q a b=>?_,fun heq=>⟨leA,_,t,sc,o,f,true,rfl,L1.le le2,(O1.post le2).pre le0,⟨hol,fun _=>okT_get (text_eq.1 (by simpa using heq)) (by have:=rdNat_pos k; omega)⟩,h0,h1,fun m l q a b=>⟨rfl,full m l q a b⟩⟩⟩
  obtain⟨e1,e2,e3⟩:=full m l q a b
  rw [e1,e2,e3,okT_pos a,b] at hne
  have:(s.toList == s.toList)=true:=text_eq.2 rfl
  rw [this] at hne; cases hne
theorem at0_head {y:ByteArray} (hp:0<y.size):at0 y 0=48↔(bl y).head?=some 48:=by
 have hl:=bl_len y
 have hl0:0<(bl y).length:=by omega
 rw [at0_bl hl0,List.head?_eq_getElem?,List.getElem?_eq_getElem hl0,Option.some.injEq]
 constructor
 ·intro e
  exact UInt8.toNat_inj.1 (by have:(48:UInt8).toNat=48:=rfl; omega)
 ·intro e
  rw [e]; rfl
theorem dcLp_wp {V0 V Vd:Know} (hV:HtI V) (le0:V0.le V) {s w:ByteArray} {neg:Bool} {sc:Int} (hs:s.size≤1048576) (hw:w.size≤s.size) (h0:0≤sc) (h1:sc≤(s.size:Int))
  (hc:∀ m l q,DecOkP m l q→decT m l q=s→ZNat w l∧m=neg∧q=sc):(dcLp s neg sc w).wp Tryz.prog (fun V' vs=>DecRd V0 s V' (packed vs)) V Vd []:=by
 simp only [dcLp,T.wp]
 refine⟨fun y V'=>V'=V∧ByteArray.size y.1≤s.size∧∀ m l q,DecOkP m l q→decT m l q=s→ZNat y.1 l∧m=neg∧q=sc,fun y _=>ByteArray.size y.1,⟨(w,()),rfl,rfl,hw,hc⟩,?_⟩
 rintro⟨(y:ByteArray),u⟩ V' ⟨rfl,hy,hc⟩
 replace hy:y.size≤s.size:=hy
 replace hc:∀ m l q,DecOkP m l q→decT m l q=s→ZNat y l∧m=neg∧q=sc:=hc
 refine⟨fun hlt=>?_,fun hge=>?_⟩
 ·have h2:1<y.size:=by
   have:(y.size:Int) > 1:=of_decide_eq_true hlt
   omega
  refine⟨⟨Int.le_refl _,(by omega:(0:Int)<(y.size:Int))⟩,fun h48=>?_,fun h48=>?_⟩
  ·have h48':(bl y).head?=some 48:=(at0_head (by omega)).1 (by simpa using h48)
   refine⟨⟨by decide,(by omega:(1:Int)≤(y.size:Int)),Int.le_refl _⟩,_,rfl,(y.extract 1 y.size,()),rfl,⟨rfl,?_,fun m l q a b=>?_⟩,?_⟩
   ·show(y.extract 1 y.size).size≤_
    rw [ByteArray.size_extract]; omega
   ·obtain⟨e1,e2⟩:=hc m l q a b
    exact⟨e1.step a.1.1.1 h2 h48',e2⟩
   ·show(y.extract 1 y.size).size<y.size
    rw [ByteArray.size_extract]; omega
  ·refine dcFin_wp hV le0 hs hy h0 h1 fun m l q a b=>?_
   obtain⟨e1,e2⟩:=hc m l q a b
   refine⟨e1.stop a.1.1.1 fun k=>?_,e2⟩
   have:=(at0_head (by omega)).2 k.2
   have e:at0 y (Int.toNat 0)=48:=this
   dsimp only at h48
   rw [e] at h48; cases h48
 ·have h2:¬ 1<y.size:=by
   have:¬ (y.size:Int) > 1:=of_decide_eq_false hge
   omega
  refine dcFin_wp hV le0 hs hy h0 h1 fun m l q a b=>?_
  obtain⟨e1,e2⟩:=hc m l q a b
  exact⟨e1.stop a.1.1.1 fun k=>h2 k.1,e2⟩
theorem joinE_one (x:Tx):joinT [x] ⟨#[]⟩=x.1:=joinT_one x _
theorem joinE_two (x y:Tx):joinT [x,y] ⟨#[]⟩=x.1++y.1:=by
 have:=joinT_snoc (l:=[x]) (by simp) y ⟨#[]⟩
 rw [joinT_one] at this
 refine this.trans (bl_inj ?_)
 rw [bl_append,bl_append,bl_append]
 show bl x.1++[]++bl y.1=_
 simp
theorem dcBody_wp {V0 V Vd:Know} (hV:HtI V) (le0:V0.le V) {s d:ByteArray} {neg:Bool} (hs:s.size≤1048576) (hd:d.size≤s.size)
  (hc:∀ m l q,DecOkP m l q→decT m l q=s→d=decB l q∧m=neg):(dcBody s neg d).wp Tryz.prog (fun V' vs=>DecRd V0 s V' (packed vs)) V Vd []:=by
 simp only [dcBody,T.wp]
 refine(cI_CutAt V d 46 (by omega)).mono ?_
 rintro V1 _ ⟨le1,t,f,rfl,L1,O1⟩
 have hn:=L1.1
 have leA:=le0.trans le1
 have cut:∀ m l q,DecOkP m l q→decT m l q=s→m=neg∧d.size≤56∧((q=0∧cutB 46 d=[(decP l q,())])∨(0<q∧∃ a b:ByteArray,cutB 46 d=[(a,()),(b,())]∧decP l q=a++b∧(b.size:Int)=q)):=fun m l q a b=>by
  obtain⟨e1,e2⟩:=hc m l q a b
  subst e1
  exact⟨e2,decB_size a.1.1.1 a.2.1 a.2.2.1 a.2.2.2,decB_cut a.1.1.1 a.2.1 a.2.2.1 a.2.2.2⟩
 refine⟨nofun,t,rfl,fun h2=>dc_no leA fun m l q a b=>?_,fun h2=>⟨fun h100=>dc_no leA fun m l q a b=>?_,fun h100=>?_⟩⟩
 ·have:(t.n:Int) > 2:=of_decide_eq_true h2
  rcases(cut m l q a b).2.2 with ⟨_,e⟩ | ⟨_,x,y,e,_⟩
  ·rw [e] at hn; simp at hn; omega
  ·rw [e] at hn; simp at hn; omega
 ·have:(d.size:Int) > 100:=of_decide_eq_true h100
  have:=(cut m l q a b).2.1
  omega
 ·have hsz:∀ x∈cutB 46 d,x.1.size≤d.size:=fun x hx=>cutB_size hx
  have h2':¬ (t.n:Int) > 2:=of_decide_eq_false h2
  refine⟨fun he=>?_,fun he=>?_⟩
  ·have hn2:(t.n:Int)=2:=by simpa using he
   rcases cut_cases 46 d with ⟨p,e⟩ | ⟨p,p2,e⟩ | ⟨p,p2,p3,r,e⟩
   ·rw [e] at hn; simp at hn; omega
   ·obtain⟨b,o,ha,hld⟩:=L1.at1t e
    have hp1:=hsz p (by rw [e]; simp)
    have hp2:=hsz p2 (by rw [e]; simp)
    have hld1:∃ x,loadV V1 ((⟨b,o,none⟩:Addr).add (Int.toNat 1*1)) 1=some [.string x]∧x=p2.1:=⟨_,hld,rfl⟩
    rw [ha]
    refine⟨_,rfl,by decide,by omega,p2.1,hld,?_⟩
    refine(cI_Join V1 t (cutB 46 d) f ⟨#[]⟩ L1 ?_ ?_).mono ?_
    ·rw [e]
     show p.1.size+(p2.1.size+0)+2*0≤_
     omega
    ·rw [e]; simp
    rintro _ _ ⟨rfl,rfl⟩
    rw [e,joinE_two]
    refine⟨nofun,p.1++p2.1,rfl,dcLp_wp (hV.le le1) leA hs ?_ (by omega) (by omega) fun m l q a b=>?_⟩
    ·have:=cutB_join 46 d
     rw [e] at this
     have:=congrArg List.length this
     rw [bl_len] at this
     have e2:(joinC 46 ([p,p2].map fun x=>bl x.1)).length=(bl p.1++46 :: bl p2.1).length:=rfl
     rw [e2,List.length_append,List.length_cons,bl_len,bl_len] at this
     rw [ByteArray.size_append]; omega
    ·obtain⟨k1,_,k3⟩:=cut m l q a b
     rcases k3 with ⟨_,k3⟩ | ⟨_,x,y,k3,k4,k5⟩
     ·rw [e] at k3; simp at k3
     ·rw [e] at k3
      simp only [List.cons.injEq,and_true] at k3
      obtain⟨rfl,rfl⟩:=k3
      refine⟨?_,k1,k5.symm⟩
      rw [← k4]
      exact ZNat.start a.2.2.2
   ·rw [e] at hn; simp at hn; omega
  ·have hn2:¬ (t.n:Int)=2:=by simpa using he
   have hpos:=cutB_pos 46 d
   rcases cut_cases 46 d with ⟨p,e⟩ | ⟨p,p2,e⟩ | ⟨p,p2,p3,r,e⟩
   ·have hp1:=hsz p (by rw [e]; simp)
    refine(cI_Join V1 t (cutB 46 d) f ⟨#[]⟩ L1 ?_ ?_).mono ?_
    ·rw [e]
     show p.1.size+0+1*0≤_
     omega
    ·rw [e]; simp
    rintro _ _ ⟨rfl,rfl⟩
    rw [e,joinE_one]
    refine⟨nofun,p.1,rfl,dcLp_wp (hV.le le1) leA hs (by omega) (Int.le_refl _) (by omega) fun m l q a b=>?_⟩
    obtain⟨k1,_,k3⟩:=cut m l q a b
    rcases k3 with ⟨k0,k3⟩ | ⟨_,x,y,k3,_⟩
    ·rw [e] at k3
     simp only [List.cons.injEq,and_true] at k3
     subst k3
     exact⟨ZNat.start a.2.2.2,k1,k0⟩
    ·rw [e] at k3; simp at k3
   ·rw [e] at hn; simp at hn; omega
   ·rw [e] at hn; simp at hn; omega
theorem cI_TextDec {V:Know} (hV:HtI V) (s:ByteArray) (hs:s.size≤1048576):CallX Tryz.prog V 221 [.string s] (DecRd V s):=by
 refine CallX.of_fits Tryz.mix (fI_TextDec _) fun _=>?_
 unfold tI_TextDec
 change (_→_∧(_→_∧T.wp _ _ (dcBody s (at0 s (Int.toNat (0:Int)) == (45:Int)) (s.extract (Int.toNat (1:Int)) (s.size:Int).toNat)) _ _ _)∧(_→T.wp _ _ (dcBody s (at0 s (Int.toNat (0:Int)) == (45:Int)) s) _ _ _))∧(_→T.wp _ _ (dcBody s false s) _ _ _)
 have hl:=bl_len s
 have hd:∀ m l q,DecOkP m l q→decT m l q=s→0<s.size∧((m=true∧at0 s 0=45∧s.extract 1 s.size=decB l q)∨(m=false∧at0 s 0≠45∧s=decB l q)):=fun m l q a b=>by
  obtain⟨c,r,e,hc⟩:=decB_head a.1.1.1 a.2.1 a.2.2.1 a.2.2.2
  cases m with
  | true =>
   have e1:bl s=45 :: bl (decB l q):=by rw [← b]; exact decT_neg l q
   have hp:0<s.size:=by rw [← hl,e1]; simp
   refine⟨hp,.inl ⟨rfl,(sgn_at hp).2 ⟨_,e1⟩,bl_inj ?_⟩⟩
   rw [bl_tail,e1]; rfl
  | false =>
   have e1:s=decB l q:=by rw [← b]; exact decT_pos l q
   have e2:bl s=c :: r:=by rw [e1]; exact e
   have hp:0<s.size:=by rw [← hl,e2]; simp
   refine⟨hp,.inr ⟨rfl,fun k=>?_,e1⟩⟩
   obtain⟨r',hr⟩:=(sgn_at hp).1 k
   rw [e2] at hr
   simp only [List.cons.injEq] at hr
   rw [hr.1] at hc
   exact absurd hc (by decide)
 refine⟨fun hne=>?_,fun he=>?_⟩
 ·have hp:0<s.size:=by
   rcases Nat.eq_zero_or_pos s.size with k | k
   ·rw [empty_iff.2 k] at hne; cases hne
   ·exact k
  refine⟨⟨Int.le_refl _,by omega⟩,fun h45=>⟨⟨by decide,by omega,Int.le_refl _⟩,?_⟩,fun h45=>?_⟩
  ·refine dcBody_wp hV (Know.le.refl _) hs ?_ fun m l q a b=>?_
   ·rw [ByteArray.size_extract]; omega
   ·rcases(hd m l q a b).2 with ⟨k1,k2,k3⟩ | ⟨k1,k2,k3⟩
    ·exact⟨k3,k1.trans h45.symm⟩
    ·exact absurd (by simpa using h45) k2
  ·refine dcBody_wp hV (Know.le.refl _) hs (Nat.le_refl _) fun m l q a b=>?_
   rcases(hd m l q a b).2 with ⟨k1,k2,k3⟩ | ⟨k1,k2,k3⟩
   ·have e:at0 s (Int.toNat 0)=45:=k2
    rw [e] at h45; cases h45
   ·exact⟨k3,k1.trans h45.symm⟩
 ·refine dcBody_wp hV (Know.le.refl _) hs (Nat.le_refl _) fun m l q a b=>?_
  have hz:s.size=0:=empty_iff.1 (by simpa using he)
  have:=(hd m l q a b).1
  omega
end Go.Proofs.YtpdfdkccgkieoaaGreatDoor
namespace Go.Proofs.YtpdfdkccgkieoaaGreatDoor
open Sx
set_option maxRecDepth 100000
end Go.Proofs.YtpdfdkccgkieoaaGreatDoor
