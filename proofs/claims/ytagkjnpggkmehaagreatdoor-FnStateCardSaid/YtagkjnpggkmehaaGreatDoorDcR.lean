/-
  Amounts and rates read from their texts, in the program and in the reference.
-/
import Derived.Test.YtagkjnpggkmehaaGreatDoorDcM
import Derived.Test.YtagkjnpggkmehaaGreatDoorJoinX
import Derived.Test.YtagkjnpggkmehaaGreatDoorDecM
import Derived.Lib.SplitLaws
namespace Go.Proofs.YtagkjnpggkmehaaGreatDoor
open Sx
set_option maxRecDepth 100000
def DcRes (s:ByteArray) (n:Bool) (o:List Lim) (sc:Int) (ok:Bool):Prop :=
 o.length≤s.size∧0≤sc∧sc≤(s.size:Int)∧∀ m l q,DecOkP m l q→decT m l q=s→ok=true∧n=m∧o=l∧sc=q
abbrev DecRd (V:Know) (s:ByteArray):Know→Value→Prop:=fun V' r=>V.le V'∧∃ n t sc o f ok,r=.tuple #[qv2 (n,t,sc,()),.bool ok]∧LR rI V' t o f∧Own V V' f∧DcRes s n o sc ok
theorem dc_no {V V':Know} {s:ByteArray} (le:V.le V') (h:∀ m l q,DecOkP m l q→decT m l q=s→False):DecRd V s V' (packed [qv2 (false,⟨none,0,0⟩,(0:Int),()),.bool false]) :=
 ⟨le,false,⟨none,0,0⟩,0,[],[],false,rfl,lr_none,Own.nil,Nat.zero_le _,Int.le_refl _,by omega,fun m l q a b=>(h m l q a b).elim⟩
noncomputable def dcFin (x0:ByteArray) (neg:Bool) (sc:Int) (w:ByteArray):T :=
 .call false 166 [.string w] (.t [(.o (.l)),(.o (.b))]) fun y6 =>
 .call false 112 [.bool neg,Sc.val .l (y6.1)] (.v (.g [.b,.l])) fun y7 =>
 .br (!y6.2.fst) (
  .ret [qv2 ((false),(⟨(none),((0:Nat)),((0:Nat))⟩:SlV),(((0:Int)):Int),()),.bool (false)]) <|
 .call false 143 [qv2 ((y7.fst),y7.2.1,(sc:Int),())] (.v (.o (.s))) fun y8 =>
 .br (!y8.toList == x0.toList) (
  .ret [qv2 ((false),(⟨(none),((0:Nat)),((0:Nat))⟩:SlV),(((0:Int)):Int),()),.bool (false)]) <|
 .ret [qv2 ((y7.fst),y7.2.1,(sc:Int),()),.bool (true)]
noncomputable def dcLp (x0:ByteArray) (neg:Bool) (sc:Int) (w:ByteArray):T :=
 .lp [.o (.o (.s))] [.v (.string (w))] fun y5 =>
 .br (decide ((↑(ByteArray.size y5.fst):Int) > (1:Int))) (
  .rq ((0:Int)≤(0:Int)∧(0:Int)<(↑(ByteArray.size y5.fst):Int)) <|
  .br (at0 y5.fst (Int.toNat (0:Int)) == (48:Int)) (
   .rq ((0:Int)≤(1:Int)∧(1:Int)≤(↑(ByteArray.size y5.fst):Int)∧(↑(ByteArray.size y5.fst):Int)≤(↑(ByteArray.size y5.fst):Int)) <|
   .nx 0 [.v (.string (ByteArray.extract y5.fst (Int.toNat (1:Int)) (↑(ByteArray.size y5.fst):Int).toNat))]) <|
  dcFin x0 neg sc y5.fst) <|
 dcFin x0 neg sc y5.fst
noncomputable def dcBody (x0:ByteArray) (neg:Bool) (d:ByteArray):T :=
 .call false 129 [.string d,.string ({ data:={ toList:=[(46:UInt8)]:Array UInt8 }:ByteArray })] (.v (.o (.l))) fun y1 =>
 .br (decide ((↑y1.n:Int) > (2:Int))) (
  .ret [qv2 ((false),(⟨(none),((0:Nat)),((0:Nat))⟩:SlV),(((0:Int)):Int),()),.bool (false)]) <|
 .br (decide ((↑d.size:Int) > (100:Int))) (
  .ret [qv2 ((false),(⟨(none),((0:Nat)),((0:Nat))⟩:SlV),(((0:Int)):Int),()),.bool (false)]) <|
 .br ((↑y1.n:Int) == (2:Int)) (
  .el (y1.1) (y1.n) ((1:Int)) fun y2 =>
  .ld false (y2.add (Int.toNat (1:Int)*(1:Nat))) (.o (.s)) fun y3 =>
  .call false 48 [Sc.val .l (y1),.string ({ data:={ toList:=[]:Array UInt8 }:ByteArray })] (.v (.o (.s))) fun y4 =>
  dcLp x0 neg (↑y3.size:Int) y4) <|
 .call false 48 [Sc.val .l (y1),.string ({ data:={ toList:=[]:Array UInt8 }:ByteArray })] (.v (.o (.s))) fun y2 =>
 dcLp x0 neg (0:Int) y2
theorem dcFin_wp {V0 V Vd:Know} {Ns:List (List LV→Know→Prop)} (hV:HtI V) (le0:V0.le V) {s w:ByteArray} {neg:Bool} {sc:Int} (hs:s.size≤1048576) (hw:w.size≤s.size) (h0:0≤sc) (h1:sc≤(s.size:Int))
  (hc:∀ m l q,DecOkP m l q→decT m l q=s→w=natT l∧m=neg∧q=sc):(dcFin s neg sc w).wp Tryz.prog (fun V' vs=>DecRd V0 s V' (packed vs)) V Vd Ns:=by
 simp only [dcFin,T.wp]
 refine(cI_TextNat V w (by omega)).mono ?_
 rintro V1 _ ⟨le1,t,o,f,ok,rfl,L1,O1,k⟩
 refine⟨nofun,(t,ok,()),rfl,(cI_signed V1 neg t).mono ?_⟩
 rintro _ _ ⟨rfl,rfl⟩
 have get:∀ m l q,DecOkP m l q→decT m l q=s→ok=true∧o=l∧m=neg∧q=sc:=fun m l q a b=>by
  obtain⟨e1,e2,e3⟩:=hc m l q a b
  obtain⟨k1,k2⟩:=rdNat_get k a.1.1 e1.symm
  exact⟨k1,k2,e2,e3⟩
 refine⟨nofun,(neg && decide ((t.n:Int) > 0),t,()),rfl,fun hf=>dc_no (le0.trans le1) fun m l q a b=>?_,fun ht=>?_⟩
 ·have:=(get m l q a b).1
  rw [this] at hf; cases hf
 ·have hk:ok=true:=by simpa using ht
  subst hk
  have hn:=L1.1
  have hol:o.length≤s.size:=by
   rcases k with ⟨_,k2,k3⟩ | ⟨k1,_⟩
   ·have:=natT_len k2.1
    rw [k3] at this; omega
   ·cases k1
  refine(cI_DecText (hV.le le1) (neg && decide ((t.n:Int) > 0)) t sc o f L1).mono ?_
  rintro V2 _ ⟨le2,rfl⟩
  have full:∀ m l q,DecOkP m l q→decT m l q=s→(neg && decide ((t.n:Int) > 0))=m∧o=l∧sc=q:=fun m l q a b=>by
   obtain⟨_,e2,e3,e4⟩:=get m l q a b
   subst e2 e3 e4
   refine⟨?_,rfl,rfl⟩
   cases m with
   | false=>rfl
   | true =>
    have:=a.1.2 rfl
    rw [Bool.true_and]
    exact decide_eq_true (by omega)
  have leA:=le0.trans (le1.trans le2)
  refine⟨nofun,_,rfl,fun hne=>dc_no leA fun m l q a b=>?_,fun heq=>⟨leA,_,t,sc,o,f,true,rfl,L1.le le2,(O1.post le2).pre le0,hol,h0,h1,fun m l q a b=>⟨rfl,full m l q a b⟩⟩⟩
  obtain⟨e1,e2,e3⟩:=full m l q a b
  rw [e1,e2,e3,okT_pos a,b] at hne
  have:(s.toList == s.toList)=true:=text_eq.2 rfl
  rw [this] at hne; cases hne
theorem at0_head {y:ByteArray} (hp:0<y.size):at0 y 0=48↔(bl y).head?=some 48:=by
 have hl:=bl_len y
 have hl0:0<(bl y).length:=by omega
 rw [at0_bl hl0,List.head?_eq_getElem?,List.getElem?_eq_getElem hl0,Option.some.injEq]
 constructor
 ·intro e
  exact UInt8.toNat_inj.1 (by have:(48:UInt8).toNat=48:=rfl; omega)
 ·intro e
  rw [e]; rfl
theorem dcLp_wp {V0 V Vd:Know} (hV:HtI V) (le0:V0.le V) {s w:ByteArray} {neg:Bool} {sc:Int} (hs:s.size≤1048576) (hw:w.size≤s.size) (h0:0≤sc) (h1:sc≤(s.size:Int))
  (hc:∀ m l q,DecOkP m l q→decT m l q=s→ZNat w l∧m=neg∧q=sc):(dcLp s neg sc w).wp Tryz.prog (fun V' vs=>DecRd V0 s V' (packed vs)) V Vd []:=by
 simp only [dcLp,T.wp]
 refine⟨fun y V'=>V'=V∧ByteArray.size y.1≤s.size∧∀ m l q,DecOkP m l q→decT m l q=s→ZNat y.1 l∧m=neg∧q=sc,fun y _=>ByteArray.size y.1,⟨(w,()),rfl,rfl,hw,hc⟩,?_⟩
 rintro⟨(y:ByteArray),u⟩ V' ⟨rfl,hy,hc⟩
 replace hy:y.size≤s.size:=hy
 replace hc:∀ m l q,DecOkP m l q→decT m l q=s→ZNat y l∧m=neg∧q=sc:=hc
 refine⟨fun hlt=>?_,fun hge=>?_⟩
 ·have h2:1<y.size:=by
   have:(y.size:Int) > 1:=of_decide_eq_true hlt
   omega
  refine⟨⟨Int.le_refl _,(by omega:(0:Int)<(y.size:Int))⟩,fun h48=>?_,fun h48=>?_⟩
  ·have h48':(bl y).head?=some 48:=(at0_head (by omega)).1 (by simpa using h48)
   refine⟨⟨by decide,(by omega:(1:Int)≤(y.size:Int)),Int.le_refl _⟩,_,rfl,(y.extract 1 y.size,()),rfl,⟨rfl,?_,fun m l q a b=>?_⟩,?_⟩
   ·show(y.extract 1 y.size).size≤_
    rw [ByteArray.size_extract]; omega
   ·obtain⟨e1,e2⟩:=hc m l q a b
    exact⟨e1.step a.1.1.1 h2 h48',e2⟩
   ·show(y.extract 1 y.size).size<y.size
    rw [ByteArray.size_extract]; omega
  ·refine dcFin_wp hV le0 hs hy h0 h1 fun m l q a b=>?_
   obtain⟨e1,e2⟩:=hc m l q a b
   refine⟨e1.stop a.1.1.1 fun k=>?_,e2⟩
   have:=(at0_head (by omega)).2 k.2
   have e:at0 y (Int.toNat 0)=48:=this
   dsimp only at h48
   rw [e] at h48; cases h48
 ·have h2:¬ 1<y.size:=by
   have:¬ (y.size:Int) > 1:=of_decide_eq_false hge
   omega
  refine dcFin_wp hV le0 hs hy h0 h1 fun m l q a b=>?_
  obtain⟨e1,e2⟩:=hc m l q a b
  exact⟨e1.stop a.1.1.1 fun k=>h2 k.1,e2⟩
theorem joinE_one (x:Tx):joinT [x] ⟨#[]⟩=x.1:=joinT_one x _
theorem joinE_two (x y:Tx):joinT [x,y] ⟨#[]⟩=x.1++y.1:=by
 have:=joinT_snoc (l:=[x]) (by simp) y ⟨#[]⟩
 rw [joinT_one] at this
 refine this.trans (bl_inj ?_)
 rw [bl_append,bl_append,bl_append]
 show bl x.1++[]++bl y.1=_
 simp
theorem dcBody_wp {V0 V Vd:Know} (hV:HtI V) (le0:V0.le V) {s d:ByteArray} {neg:Bool} (hs:s.size≤1048576) (hd:d.size≤s.size)
  (hc:∀ m l q,DecOkP m l q→decT m l q=s→d=decB l q∧m=neg):(dcBody s neg d).wp Tryz.prog (fun V' vs=>DecRd V0 s V' (packed vs)) V Vd []:=by
 simp only [dcBody,T.wp]
 refine(cI_CutAt V d 46 (by omega)).mono ?_
 rintro V1 _ ⟨le1,t,f,rfl,L1,O1⟩
 have hn:=L1.1
 have leA:=le0.trans le1
 have cut:∀ m l q,DecOkP m l q→decT m l q=s→m=neg∧d.size≤56∧((q=0∧cutB 46 d=[(decP l q,())])∨(0<q∧∃ a b:ByteArray,cutB 46 d=[(a,()),(b,())]∧decP l q=a++b∧(b.size:Int)=q)):=fun m l q a b=>by
  obtain⟨e1,e2⟩:=hc m l q a b
  subst e1
  exact⟨e2,decB_size a.1.1.1 a.2.1 a.2.2.1 a.2.2.2,decB_cut a.1.1.1 a.2.1 a.2.2.1 a.2.2.2⟩
 refine⟨nofun,t,rfl,fun h2=>dc_no leA fun m l q a b=>?_,fun h2=>⟨fun h100=>dc_no leA fun m l q a b=>?_,fun h100=>?_⟩⟩
 ·have:(t.n:Int) > 2:=of_decide_eq_true h2
  rcases(cut m l q a b).2.2 with ⟨_,e⟩ | ⟨_,x,y,e,_⟩
  ·rw [e] at hn; simp at hn; omega
  ·rw [e] at hn; simp at hn; omega
 ·have:(d.size:Int) > 100:=of_decide_eq_true h100
  have:=(cut m l q a b).2.1
  omega
 ·have hsz:∀ x∈cutB 46 d,x.1.size≤d.size:=fun x hx=>cutB_size hx
  have h2':¬ (t.n:Int) > 2:=of_decide_eq_false h2
  refine⟨fun he=>?_,fun he=>?_⟩
  ·have hn2:(t.n:Int)=2:=by simpa using he
   rcases cut_cases 46 d with ⟨p,e⟩ | ⟨p,p2,e⟩ | ⟨p,p2,p3,r,e⟩
   ·rw [e] at hn; simp at hn; omega
   ·obtain⟨b,o,ha,hld⟩:=L1.at1t e
    have hp1:=hsz p (by rw [e]; simp)
    have hp2:=hsz p2 (by rw [e]; simp)
    have hld1:∃ x,loadV V1 ((⟨b,o,none⟩:Addr).add (Int.toNat 1*1)) 1=some [.string x]∧x=p2.1:=⟨_,hld,rfl⟩
    rw [ha]
    refine⟨_,rfl,by decide,by omega,p2.1,hld,?_⟩
    refine(cI_Join V1 t (cutB 46 d) f ⟨#[]⟩ L1 ?_ ?_).mono ?_
    ·rw [e]
     show p.1.size+(p2.1.size+0)+2*0≤_
     omega
    ·rw [e]; simp
    rintro _ _ ⟨rfl,rfl⟩
    rw [e,joinE_two]
    refine⟨nofun,p.1++p2.1,rfl,dcLp_wp (hV.le le1) leA hs ?_ (by omega) (by omega) fun m l q a b=>?_⟩
    ·have:=cutB_join 46 d
     rw [e] at this
     have:=congrArg List.length this
     rw [bl_len] at this
     have e2:(joinC 46 ([p,p2].map fun x=>bl x.1)).length=(bl p.1++46 :: bl p2.1).length:=rfl
     rw [e2,List.length_append,List.length_cons,bl_len,bl_len] at this
     rw [ByteArray.size_append]; omega
    ·obtain⟨k1,_,k3⟩:=cut m l q a b
     rcases k3 with ⟨_,k3⟩ | ⟨_,x,y,k3,k4,k5⟩
     ·rw [e] at k3; simp at k3
     ·rw [e] at k3
      simp only [List.cons.injEq,and_true] at k3
      obtain⟨rfl,rfl⟩:=k3
      refine⟨?_,k1,k5.symm⟩
      rw [← k4]
      exact ZNat.start a.2.2.2
   ·rw [e] at hn; simp at hn; omega
  ·have hn2:¬ (t.n:Int)=2:=by simpa using he
   have hpos:=cutB_pos 46 d
   rcases cut_cases 46 d with ⟨p,e⟩ | ⟨p,p2,e⟩ | ⟨p,p2,p3,r,e⟩
   ·have hp1:=hsz p (by rw [e]; simp)
    refine(cI_Join V1 t (cutB 46 d) f ⟨#[]⟩ L1 ?_ ?_).mono ?_
    ·rw [e]
     show p.1.size+0+1*0≤_
     omega
    ·rw [e]; simp
    rintro _ _ ⟨rfl,rfl⟩
    rw [e,joinE_one]
    refine⟨nofun,p.1,rfl,dcLp_wp (hV.le le1) leA hs (by omega) (Int.le_refl _) (by omega) fun m l q a b=>?_⟩
    obtain⟨k1,_,k3⟩:=cut m l q a b
    rcases k3 with ⟨k0,k3⟩ | ⟨_,x,y,k3,_⟩
    ·rw [e] at k3
     simp only [List.cons.injEq,and_true] at k3
     subst k3
     exact⟨ZNat.start a.2.2.2,k1,k0⟩
    ·rw [e] at k3; simp at k3
   ·rw [e] at hn; simp at hn; omega
   ·rw [e] at hn; simp at hn; omega
theorem cI_TextDec {V:Know} (hV:HtI V) (s:ByteArray) (hs:s.size≤1048576):CallX Tryz.prog V 199 [.string s] (DecRd V s):=by
 refine CallX.of_fits Tryz.mix (fI_TextDec _) fun _=>?_
 unfold tI_TextDec
 change (_→_∧(_→_∧T.wp _ _ (dcBody s (at0 s (Int.toNat (0:Int)) == (45:Int)) (s.extract (Int.toNat (1:Int)) (s.size:Int).toNat)) _ _ _)∧(_→T.wp _ _ (dcBody s (at0 s (Int.toNat (0:Int)) == (45:Int)) s) _ _ _))∧(_→T.wp _ _ (dcBody s false s) _ _ _)
 have hl:=bl_len s
 have hd:∀ m l q,DecOkP m l q→decT m l q=s→0<s.size∧((m=true∧at0 s 0=45∧s.extract 1 s.size=decB l q)∨(m=false∧at0 s 0≠45∧s=decB l q)):=fun m l q a b=>by
  obtain⟨c,r,e,hc⟩:=decB_head a.1.1.1 a.2.1 a.2.2.1 a.2.2.2
  cases m with
  | true =>
   have e1:bl s=45 :: bl (decB l q):=by rw [← b]; exact decT_neg l q
   have hp:0<s.size:=by rw [← hl,e1]; simp
   refine⟨hp,.inl ⟨rfl,(sgn_at hp).2 ⟨_,e1⟩,bl_inj ?_⟩⟩
   rw [bl_tail,e1]; rfl
  | false =>
   have e1:s=decB l q:=by rw [← b]; exact decT_pos l q
   have e2:bl s=c :: r:=by rw [e1]; exact e
   have hp:0<s.size:=by rw [← hl,e2]; simp
   refine⟨hp,.inr ⟨rfl,fun k=>?_,e1⟩⟩
   obtain⟨r',hr⟩:=(sgn_at hp).1 k
   rw [e2] at hr
   simp only [List.cons.injEq] at hr
   rw [hr.1] at hc
   exact absurd hc (by decide)
 refine⟨fun hne=>?_,fun he=>?_⟩
 ·have hp:0<s.size:=by
   rcases Nat.eq_zero_or_pos s.size with k | k
   ·rw [empty_iff.2 k] at hne; cases hne
   ·exact k
  refine⟨⟨Int.le_refl _,by omega⟩,fun h45=>⟨⟨by decide,by omega,Int.le_refl _⟩,?_⟩,fun h45=>?_⟩
  ·refine dcBody_wp hV (Know.le.refl _) hs ?_ fun m l q a b=>?_
   ·rw [ByteArray.size_extract]; omega
   ·rcases(hd m l q a b).2 with ⟨k1,k2,k3⟩ | ⟨k1,k2,k3⟩
    ·exact⟨k3,k1.trans h45.symm⟩
    ·exact absurd (by simpa using h45) k2
  ·refine dcBody_wp hV (Know.le.refl _) hs (Nat.le_refl _) fun m l q a b=>?_
   rcases(hd m l q a b).2 with ⟨k1,k2,k3⟩ | ⟨k1,k2,k3⟩
   ·have e:at0 s (Int.toNat 0)=45:=k2
    rw [e] at h45; cases h45
   ·exact⟨k3,k1.trans h45.symm⟩
 ·refine dcBody_wp hV (Know.le.refl _) hs (Nat.le_refl _) fun m l q a b=>?_
  have hz:s.size=0:=empty_iff.1 (by simpa using he)
  have:=(hd m l q a b).1
  omega
end Go.Proofs.YtagkjnpggkmehaaGreatDoor
namespace Go.Proofs.YtagkjnpggkmehaaGreatDoor
open Sx
set_option maxRecDepth 100000
end Go.Proofs.YtagkjnpggkmehaaGreatDoor
namespace Go.Proofs.YtagkjnpggkmehaaGreatDoor
open Sx Go.RowKit
set_option maxRecDepth 100000
theorem pre_one (c b:UInt8) (l:List UInt8):[c].isPrefixOf (b :: l)=(c == b):=by simp [List.isPrefixOf]
theorem index_none1 {c:UInt8}:∀ {a:List UInt8},c ∉ a→Go.Lib.index a [c]=-1
 | [],_=>by simp [Go.Lib.index]
 | x :: r,h=>by
  have h1:(c == x)=false:=by
   cases hq:c == x with
   | false=>rfl
   | true=>exact absurd (by simp [eq_of_beq hq]) h
  rw [Go.Lib.index,pre_one,h1,index_none1 fun k=>h (List.mem_cons_of_mem _ k)]
  simp
theorem index_at1 {c:UInt8} {b:List UInt8}:∀ {a:List UInt8},c ∉ a→Go.Lib.index (a++c :: b) [c]=a.length
 | [],_=>by rw [List.nil_append,Go.Lib.index,pre_one]; simp
 | x :: r,h=>by
  have h1:(c == x)=false:=by
   cases hq:c == x with
   | false=>rfl
   | true=>exact absurd (by simp [eq_of_beq hq]) h
  rw [List.cons_append,Go.Lib.index,pre_one,h1,index_at1 fun k=>h (List.mem_cons_of_mem _ k)]
  have:((r.length:Int) == -1)=false:=beq_eq_false_iff_ne.2 (by omega)
  simp [this]
theorem cut_one {c:UInt8} {a b:List UInt8} (h:c ∉ a):Go.Lib.cut (a++c :: b) [c]=(a,b,true):=by
 unfold Go.Lib.cut
 rw [index_at1 h,if_pos (by omega),Int.toNat_natCast]
 simp
theorem known_space {c:ByteArray} (h:known c=true):(32:UInt8) ∉ bl c∧(59:UInt8) ∉ bl c∧(10:UInt8) ∉ bl c:=by
 have key:∀ r∈curI,(32:UInt8) ∉ bl r.1∧(59:UInt8) ∉ bl r.1∧(10:UInt8) ∉ bl r.1:=by decide +kernel
 obtain⟨r,hr,e⟩:=List.mem_map.1 (known_mem h)
 rw [← e]
 exact key r hr
theorem ratX_bytes {x:DRat} (h:RatX x):∀ c∈bl (ratX x),NumB c∨c=47:=fun c hc=>by
 have h1:bl (ratX x)=bl (ratT x.1 x.2.1 x.2.2.1):=rfl
 rw [h1] at hc
 unfold ratT at hc
 split at hc
 ·exact .inl (intT_bytes h.1.1.1 c hc)
 ·rw [bl_append,bl_append] at hc
  rcases List.mem_append.1 hc with k | k
  ·rcases List.mem_append.1 k with k | k
   ·exact .inl (intT_bytes h.1.1.1 c k)
   ·exact .inr (by simpa using k)
  ·exact .inl (.inr (natT_dg h.2.1.1 c k))
theorem ratX_no {x:DRat} (h:RatX x):(32:UInt8) ∉ bl (ratX x)∧(59:UInt8) ∉ bl (ratX x)∧(10:UInt8) ∉ bl (ratX x):=by
 refine⟨fun k=>?_,fun k=>?_,fun k=>?_⟩
 all_goals
  rcases ratX_bytes h _ k with (k | k) | k
  ·exact absurd k (by decide)
  ·exact absurd k (by decide)
  ·exact absurd k (by decide)
abbrev restX (x:DRest):ByteArray:=(x.1++(⟨#[32]⟩:ByteArray))++ratX x.2
abbrev ResP (x:DRest):Prop:=known x.1=true∧RatX x.2
theorem restX_bl (x:DRest):bl (restX x)=bl x.1++32 :: bl (ratX x.2):=by
 rw [bl_append,bl_append]
 show(bl x.1++[32])++bl (ratX x.2)=_
 simp
theorem rests_ok {l:List DRest} (h:RestsOkP l):∀ x∈l,ResP x:=fun x hx=>by
 obtain⟨i,hi,rfl⟩:=List.getElem_of_mem hx
 obtain⟨_,h1,h2,_⟩:=h i hi
 exact⟨h1,h2⟩
end Go.Proofs.YtagkjnpggkmehaaGreatDoor
namespace Go.Proofs.YtagkjnpggkmehaaGreatDoor
open Sx
set_option maxRecDepth 100000
theorem loadV_mono {V V':Know} {a:Addr} {k:Nat} {x:List Value} (h:V.le V') (hl:loadV V a k=some x):loadV V' a k=some x:=by
 unfold loadV at hl ⊢
 split at hl
 ·rename_i cs u h1 h2
  rw [h1,h _ _ h2]
  exact hl
 ·cases hl
theorem cI_Cut (V:Know) (s:ByteArray) (hs:s.size≤1048576):CallX Tryz.prog V 198 [.string s] (CutPost V 32 s):=by
 refine CallX.of_fits Tryz.mix (fI_Cut _) fun _=>?_
 simp only [tI_Cut,T.wp]
 refine(cI_CutAt V s 32 hs).mono ?_
 rintro V1 _ ⟨le1,t,f,rfl,L,O⟩
 exact⟨nofun,t,rfl,le1,t,f,rfl,L,O⟩
theorem decT_bytes {n:Bool} {l:List Lim} {q:Int} (a:DecOkP n l q):∀ c∈bl (decT n l q),c=45∨c=46∨Dg c:=by
 have hb:∀ c∈bl (decB l q),c=46∨Dg c:=fun c hc=>by
  have hd:=decP_dg (sc:=q) a.1.1.1 a.2.2.2
  rcases decB_parts a.1.1.1 a.2.1 a.2.2.1 a.2.2.2 with ⟨_,e⟩ | ⟨_,A,B,e,e2,_⟩
  ·rw [e] at hc; exact .inr (hd c hc)
  ·rw [e] at hc
   rw [e2] at hd
   rcases List.mem_append.1 hc with h | h
   ·exact .inr (hd c (by simp [h]))
   ·rcases List.mem_cons.1 h with h | h
    ·exact .inl h
    ·exact .inr (hd c (by simp [h]))
 intro c hc
 cases n with
 | false=>rw [decT_pos] at hc; exact .inr (hb c hc)
 | true =>
  rw [decT_neg] at hc
  rcases List.mem_cons.1 hc with h | h
  ·exact .inl h
  ·exact .inr (hb c h)
theorem decT_no {n:Bool} {l:List Lim} {q:Int} (a:DecOkP n l q) {x:UInt8} (h1:x≠45) (h2:x≠46) (h3:¬ Dg x):x ∉ bl (decT n l q):=fun hx=>by
 rcases decT_bytes a x hx with h | h | h
 ·exact h1 h
 ·exact h2 h
 ·exact h3 h
theorem mon_dec {c:ByteArray} {m:Bool} {l:List Lim} (h:MoneyOkP c m l):DecOkP m l (places c) :=
 ⟨h.2.1,by have:=h.2.2; omega,(places_bd c).1,by have:=(places_bd c).2; omega⟩
theorem moneyT_bl (c:ByteArray) (m:Bool) (l:List Lim):bl (moneyT c m l)=bl c++32 :: bl (decT m l (places c)):=by
 unfold moneyT
 rw [bl_append,bl_append]
 show(bl c++[32])++_=_
 simp
theorem money_cut {c:ByteArray} {m:Bool} {l:List Lim} (h:MoneyOkP c m l):cutB 32 (moneyT c m l)=[(c,()),(decT m l (places c),())]:=by
 refine cutB_eq (moneyT_bl c m l) (by simp) fun x hx=>?_
 rcases List.mem_cons.1 hx with rfl | hx
 ·exact(known_space h.1).1
 ·obtain rfl:x=(decT m l (places c),()):=by simpa using hx
  exact decT_no (mon_dec h) (by decide) (by decide) (by decide)
theorem rateT_bl (r:DRate):bl (rateT r)=bl r.1++32 :: (bl r.2.1++32 :: bl (decT r.2.2.1 r.2.2.2.1 r.2.2.2.2.1)):=by
 unfold rateT
 rw [bl_append,bl_append,bl_append,bl_append]
 show(((bl r.1++[32])++bl r.2.1)++[32])++_=_
 simp
theorem rate_cut {r:DRate} (h:RateOkP r):cutB 32 (rateT r)=[(r.1,()),(r.2.1,()),(decT r.2.2.1 r.2.2.2.1 r.2.2.2.2.1,())]:=by
 refine cutB_eq (rateT_bl r) (by simp) fun x hx=>?_
 rcases List.mem_cons.1 hx with rfl | hx
 ·exact(known_space h.1).1
 rcases List.mem_cons.1 hx with rfl | hx
 ·exact(known_space h.2.1).1
 ·obtain rfl:x=(decT r.2.2.1 r.2.2.2.1 r.2.2.2.2.1,()):=by simpa using hx
  exact decT_no h.2.2.2.1 (by decide) (by decide) (by decide)
theorem cut_two {c:UInt8} {s p q:ByteArray} (h:cutB c s=[(p,()),(q,())]):s.size=p.size+1+q.size:=by
 have:=cutB_join c s
 rw [h] at this
 have:=congrArg List.length this
 rw [bl_len] at this
 have e:(joinC c ([(p,()),(q,())].map fun x=>bl x.1)).length=(bl p++c :: bl q).length:=rfl
 rw [e,List.length_append,List.length_cons,bl_len,bl_len] at this
 omega
theorem cut_three {c:UInt8} {s p q r:ByteArray} (h:cutB c s=[(p,()),(q,()),(r,())]):s.size=p.size+1+q.size+1+r.size:=by
 have:=cutB_join c s
 rw [h] at this
 have:=congrArg List.length this
 rw [bl_len] at this
 have e:(joinC c ([(p,()),(q,()),(r,())].map fun x=>bl x.1)).length=(bl p++c :: (bl q++c :: bl r)).length:=rfl
 rw [e,List.length_append,List.length_cons,List.length_append,List.length_cons,bl_len,bl_len,bl_len] at this
 omega
def MoRes (s:ByteArray) (c:ByteArray) (n:Bool) (o:List Lim) (ok:Bool):Prop :=
 c.size+o.length≤s.size∧∀ c' m l,MoneyOkP c' m l→moneyT c' m l=s→ok=true∧c=c'∧n=m∧o=l
abbrev MoRd (V:Know) (s:ByteArray):Know→Value→Prop:=fun V' r=>V.le V'∧∃ c n t o f ok,r=.tuple #[qv3 (c,n,t,()),.bool ok]∧LR rI V' t o f∧Own V V' f∧MoRes s c n o ok
theorem mo_no {V V':Know} {s:ByteArray} (le:V.le V') (h:∀ c m l,MoneyOkP c m l→moneyT c m l=s→False):MoRd V s V' (packed [qv3 (⟨#[]⟩,false,⟨none,0,0⟩,()),.bool false]) :=
 ⟨le,⟨#[]⟩,false,⟨none,0,0⟩,[],[],false,rfl,lr_none,Own.nil,Nat.zero_le _,fun c m l a b=>(h c m l a b).elim⟩
theorem n_two {t:SlV} {L:List Tx} (h:t.n=L.length):((t.n:Int) != (2:Int))=true→L.length≠2:=fun k e=>by
 have:(t.n:Int)≠2:=by simpa using k
 omega
theorem is_two {t:SlV} {L:List Tx} (h:t.n=L.length) (k:((t.n:Int) != (2:Int))=false):∃ p q,L=[(p,()),(q,())]:=by
 have e:(t.n:Int)=2:=by simpa using k
 match L,h with
 | [p,q],_=>exact⟨p.1,q.1,rfl⟩
 | [],h=>simp at h; omega
 | [_],h=>simp at h; omega
 | _ :: _ :: _ :: _,h=>simp at h; omega
theorem is_three {t:SlV} {L:List Tx} (h:t.n=L.length) (k:((t.n:Int) != (3:Int))=false):∃ p q r,L=[(p,()),(q,()),(r,())]:=by
 have e:(t.n:Int)=3:=by simpa using k
 match L,h with
 | [p,q,r],_=>exact⟨p.1,q.1,r.1,rfl⟩
 | [],h=>simp at h; omega
 | [_],h=>simp at h; omega
 | [_,_],h=>simp at h; omega
 | _ :: _ :: _ :: _ :: _,h=>simp at h; omega
theorem LR.atK {V:Know} {t:SlV} {l:List Tx} {f:List Nat} (h:LR rString V t l f) {i:Nat} {x:Tx} (e:l[i]?=some x):∃ b o,t.a=some ⟨b,o,none⟩∧loadV V ((⟨b,o,none⟩:Addr).add (i*1)) 1=some [.string x.1]:=by
 obtain⟨hi,rfl⟩:=List.getElem?_eq_some_iff.1 e
 obtain⟨⟨b,o,a1,l1⟩,_⟩:=h.txt hi
 exact⟨b,o,a1,l1⟩
theorem cI_TextMoney {V:Know} (hV:HtI V) (s:ByteArray) (hs:s.size≤1048576):CallX Tryz.prog V 131 [.string s] (MoRd V s):=by
 refine CallX.of_fits Tryz.mix (fI_TextMoney _) fun _=>?_
 simp only [tI_TextMoney,T.wp]
 refine(cI_Cut V s hs).mono ?_
 rintro V1 _ ⟨le1,t,f,rfl,L1,O1⟩
 have hn:=L1.1
 refine⟨nofun,t,rfl,fun h2=>mo_no le1 fun c m l a b=>?_,fun h2=>?_⟩
 ·refine n_two hn h2 ?_
  rw [← b,money_cut a]; rfl
 ·obtain⟨p,q,e⟩:=is_two hn h2
  rw [e] at L1 hn
  have hz:=cut_two e
  obtain⟨b,o,ha,ld1⟩:=L1.atK (i:=1) (x:=(q,())) rfl
  obtain⟨b',o',ha',ld0⟩:=L1.atK (i:=0) (x:=(p,())) rfl
  rw [ha] at ha'
  cases ha'
  rw [ha]
  have hn2:(t.n:Int)=2:=by rw [hn]; rfl
  refine⟨_,rfl,by decide,by omega,q,ld1,(cI_TextDec (hV.le le1) q (by omega)).mono ?_⟩
  rintro V2 _ ⟨le2,n,t2,sc,o2,f2,ok,rfl,L2,O2,k1,k2,k3,k4⟩
  have leA:=le1.trans le2
  have get:∀ c m l,MoneyOkP c m l→moneyT c m l=s→ok=true∧p=c∧n=m∧o2=l:=fun c m l a b=>by
   have:=money_cut a
   rw [b,e] at this
   simp only [List.cons.injEq,Prod.mk.injEq,and_true] at this
   obtain⟨rfl,e2⟩:=this
   obtain⟨j1,j2,j3,_⟩:=k4 m l _ (mon_dec a) e2.symm
   exact⟨j1,rfl,j2,j3⟩
  have ld0':loadV V2 ((⟨b,o,none⟩:Addr).add (Int.toNat 0*1)) 1=some [.string p]:=loadV_mono le2 ld0
  refine⟨nofun,((n,t2,sc,()),ok,()),rfl,_,rfl,by decide,by omega,p,ld0',fun hf=>mo_no leA fun c m l a b=>?_,fun ht=>?_⟩
  ·have:=(get c m l a b).1
   have hf':ok=false:=by simpa using hf
   rw [hf'] at this; cases this
  ·have hok:ok=true:=by simpa using ht
   subst hok
   refine(cI_MoneyText (hV.le leA) p n t2 o2 f2 L2 (by omega)).mono ?_
   rintro V3 _ ⟨le3,rfl⟩
   have leB:=leA.trans le3
   refine⟨nofun,_,rfl,fun hne=>mo_no leB fun c m l a b=>?_,fun _=>⟨fun he=>mo_no leB fun c m l a b=>?_,fun _=>⟨leB,p,n,t2,o2,f2,true,rfl,L2.le le3,(O2.post le3).pre le1,by omega,get⟩⟩⟩
   ·obtain⟨_,rfl,rfl,rfl⟩:=get c m l a b
    rw [okT_pos a,b] at hne
    have:(s.toList == s.toList)=true:=text_eq.2 rfl
    rw [this] at hne; cases hne
   ·have hz0:s.size=0:=empty_iff.1 he
    omega
def RtRes (s:ByteArray) (x:DRate) (ok:Bool):Prop:=x.1.size+x.2.1.size+x.2.2.2.1.length≤s.size∧∀ y:DRate,RateOkP y→rateT y=s→ok=true∧x=y
abbrev RtRd (V:Know) (s:ByteArray):Know→Value→Prop:=fun V' r=>V.le V'∧∃ (x:DRate) (t:SlV) (f:List Nat) (ok:Bool),r=.tuple #[qv5 (x.1,x.2.1,x.2.2.1,t,x.2.2.2.2.1,()),.bool ok]∧LR rI V' t x.2.2.2.1 f∧Own V V' f∧RtRes s x ok
theorem rt_no {V V':Know} {s:ByteArray} (le:V.le V') (h:∀ y:DRate,RateOkP y→rateT y=s→False):RtRd V s V' (packed [qv5 (⟨#[]⟩,⟨#[]⟩,false,⟨none,0,0⟩,(0:Int),()),.bool false]) :=
 ⟨le,(⟨#[]⟩,⟨#[]⟩,false,[],0,()),⟨none,0,0⟩,[],false,rfl,lr_none,Own.nil,Nat.zero_le _,fun y a b=>(h y a b).elim⟩
theorem n_three {t:SlV} {L:List Tx} (h:t.n=L.length):((t.n:Int) != (3:Int))=true→L.length≠3:=fun k e=>by
 have:(t.n:Int)≠3:=by simpa using k
 omega
theorem cI_TextRate {V:Know} (hV:HtI V) (s:ByteArray) (hs:s.size≤1048576):CallX Tryz.prog V 130 [.string s] (RtRd V s):=by
 refine CallX.of_fits Tryz.mix (fI_TextRate _) fun _=>?_
 simp only [tI_TextRate,T.wp]
 refine(cI_Cut V s hs).mono ?_
 rintro V1 _ ⟨le1,t,f,rfl,L1,O1⟩
 have hn:=L1.1
 refine⟨nofun,t,rfl,fun h2=>rt_no le1 fun y a b=>?_,fun h2=>?_⟩
 ·refine n_three hn h2 ?_
  rw [← b,rate_cut a]; rfl
 ·obtain⟨p,q,r,e⟩:=is_three hn h2
  rw [e] at L1 hn
  have hz:=cut_three e
  obtain⟨b,o,ha,ld2⟩:=L1.atK (i:=2) (x:=(r,())) rfl
  obtain⟨b',o',ha',ld0⟩:=L1.atK (i:=0) (x:=(p,())) rfl
  rw [ha] at ha'
  cases ha'
  obtain⟨b',o',ha',ld1⟩:=L1.atK (i:=1) (x:=(q,())) rfl
  rw [ha] at ha'
  cases ha'
  rw [ha]
  have hn2:(t.n:Int)=3:=by rw [hn]; rfl
  refine⟨_,rfl,by decide,by omega,r,ld2,(cI_TextDec (hV.le le1) r (by omega)).mono ?_⟩
  rintro V2 _ ⟨le2,n,t2,sc,o2,f2,ok,rfl,L2,O2,k1,k2,k3,k4⟩
  have leA:=le1.trans le2
  have get:∀ y:DRate,RateOkP y→rateT y=s→ok=true∧((p,q,n,o2,sc,()):DRate)=y:=fun y a b=>by
   have:=rate_cut a
   rw [b,e] at this
   simp only [List.cons.injEq,Prod.mk.injEq,and_true] at this
   obtain⟨e0,e1,e2⟩:=this
   obtain⟨j1,j2,j3,j4⟩:=k4 _ _ _ a.2.2.2.1 e2.symm
   obtain⟨y0,y1,y2,y3,y4,yu⟩:=y
   subst e0 e1 j2 j3 j4
   exact⟨j1,rfl⟩
  have ld0':loadV V2 ((⟨b,o,none⟩:Addr).add (Int.toNat 0*1)) 1=some [.string p]:=loadV_mono le2 ld0
  have ld1':loadV V2 ((⟨b,o,none⟩:Addr).add (Int.toNat 1*1)) 1=some [.string q]:=loadV_mono le2 ld1
  refine⟨nofun,((n,t2,sc,()),ok,()),rfl,_,rfl,by decide,by omega,p,ld0',_,rfl,by decide,by omega,q,ld1',fun hf=>rt_no leA fun y a b=>?_,fun ht=>?_⟩
  ·have:=(get y a b).1
   have hf':ok=false:=by simpa using hf
   rw [hf'] at this; cases this
  ·have hok:ok=true:=by simpa using ht
   subst hok
   refine(cI_RateOk (hV.le leA).c ((p,q,n,o2,sc,()):DRate) t2 f2 L2).mono ?_
   rintro V3 _ ⟨le3,e3,rfl,he3⟩
   have leB:=leA.trans le3
   refine⟨nofun,_,rfl,fun hne=>rt_no leB fun y a b=>?_,fun _=>⟨leB,(p,q,n,o2,sc,()),t2,f2,true,rfl,L2.le le3,(O2.post le3).pre le1,by show p.size+q.size+o2.length≤_; omega,get⟩⟩
   obtain⟨_,rfl⟩:=get y a b
   rw [he3.2 a] at hne; cases hne
end Go.Proofs.YtagkjnpggkmehaaGreatDoor
