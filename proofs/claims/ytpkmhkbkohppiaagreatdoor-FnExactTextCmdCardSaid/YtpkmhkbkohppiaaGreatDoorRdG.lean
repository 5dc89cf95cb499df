/-
  Remainders as a text: what the text says; each list of remainders has a text of its own. No program in sight.
-/
import Derived.Test.YtpkmhkbkohppiaaGreatDoorDcM
import Derived.Test.YtpkmhkbkohppiaaGreatDoorRdE
import Derived.Test.YtpkmhkbkohppiaaGreatDoorJoinX
import Derived.Test.YtpkmhkbkohppiaaGreatDoorShelf
import Derived.Lib.SplitLaws
namespace Go.Proofs.YtpkmhkbkohppiaaGreatDoor
open Sx
set_option maxRecDepth 100000
def DcRes (s:ByteArray) (n:Bool) (o:List Lim) (sc:Int) (ok:Bool):Prop :=
 (o.length≤s.size∧(ok=true→DecOkP n o sc∧decT n o sc=s))∧0≤sc∧sc≤(s.size:Int)∧∀ m l q,DecOkP m l q→decT m l q=s→ok=true∧n=m∧o=l∧sc=q
abbrev DecRd (V:Know) (s:ByteArray):Know→Value→Prop:=fun V' r=>V.le V'∧∃ n t sc o f ok,r=.tuple #[qv0 (n,t,sc,()),.bool ok]∧LR rI V' t o f∧Own V V' f∧DcRes s n o sc ok
theorem dc_no {V V':Know} {s:ByteArray} (le:V.le V') (h:∀ m l q,DecOkP m l q→decT m l q=s→False):DecRd V s V' (packed [qv0 (false,⟨none,0,0⟩,(0:Int),()),.bool false]) :=
 ⟨le,false,⟨none,0,0⟩,0,[],[],false,rfl,lr_none,Own.nil,⟨Nat.zero_le _,nofun⟩,Int.le_refl _,by omega,fun m l q a b=>(h m l q a b).elim⟩
theorem okT_get {p:Prop} {t s:ByteArray} (h:okT p t=s) (hs:0<s.size):p∧t=s:=by
 by_cases k:p
 ·rw [okT_pos k] at h
  exact⟨k,h⟩
 ·rw [okT_neg k] at h
  rw [← h] at hs
  exact absurd hs (by decide)
theorem rdNat_pos {w:ByteArray} {o:List Lim} (h:RdNat w o true):0<w.size:=by
 rcases h with ⟨_,k2,k3⟩ | ⟨k1,_⟩
 ·obtain⟨c,r,e,_⟩:=natT_head k2.1
  rw [← k3,← bl_len,e]
  simp
 ·cases k1
noncomputable def dcFin (x0:ByteArray) (neg:Bool) (sc:Int) (w:ByteArray):T :=
 .call false 156 [.string w] (.t [(.o (.l)),(.o (.b))]) fun y6 =>
 .call false 157 [.bool neg,Sc.val .l (y6.1)] (.v (.g [.b,.l])) fun y7 =>
 .br (!y6.2.fst) (
  .ret [qv0 ((false),(⟨(none),((0:Nat)),((0:Nat))⟩:SlV),(((0:Int)):Int),()),.bool (false)]) <|
 .call false 158 [qv0 ((y7.fst),y7.2.1,(sc:Int),())] (.v (.o (.s))) fun y8 =>
 .br (!y8.toList == x0.toList) (
  .ret [qv0 ((false),(⟨(none),((0:Nat)),((0:Nat))⟩:SlV),(((0:Int)):Int),()),.bool (false)]) <|
 .ret [qv0 ((y7.fst),y7.2.1,(sc:Int),()),.bool (true)]
noncomputable def dcLp (x0:ByteArray) (neg:Bool) (sc:Int) (w:ByteArray):T :=
 .lp [.o (.o (.s))] [.v (.string (w))] fun y5 =>
 .br (decide ((↑(ByteArray.size y5.fst):Int) > (1:Int))) (
  .rq ((0:Int)≤(0:Int)∧(0:Int)<(↑(ByteArray.size y5.fst):Int)) <|
  .br (at0 y5.fst (Int.toNat (0:Int)) == (48:Int)) (
   .rq ((0:Int)≤(1:Int)∧(1:Int)≤(↑(ByteArray.size y5.fst):Int)∧(↑(ByteArray.size y5.fst):Int)≤(↑(ByteArray.size y5.fst):Int)) <|
   .nx 0 [.v (.string (ByteArray.extract y5.fst (Int.toNat (1:Int)) (↑(ByteArray.size y5.fst):Int).toNat))]) <|
  dcFin x0 neg sc y5.fst) <|
 dcFin x0 neg sc y5.fst
noncomputable def dcBody (x0:ByteArray) (neg:Bool) (d:ByteArray):T :=
 .call false 66 [.string d,.string ({ data:={ toList:=[(46:UInt8)]:Array UInt8 }:ByteArray })] (.v (.o (.l))) fun y1 =>
 .br (decide ((↑y1.n:Int) > (2:Int))) (
  .ret [qv0 ((false),(⟨(none),((0:Nat)),((0:Nat))⟩:SlV),(((0:Int)):Int),()),.bool (false)]) <|
 .br (decide ((↑d.size:Int) > (100:Int))) (
  .ret [qv0 ((false),(⟨(none),((0:Nat)),((0:Nat))⟩:SlV),(((0:Int)):Int),()),.bool (false)]) <|
 .br ((↑y1.n:Int) == (2:Int)) (
  .el (y1.1) (y1.n) ((1:Int)) fun y2 =>
  .ld false (y2.add (Int.toNat (1:Int)*(1:Nat))) (.o (.s)) fun y3 =>
  .call false 27 [Sc.val .l (y1),.string ({ data:={ toList:=[]:Array UInt8 }:ByteArray })] (.v (.o (.s))) fun y4 =>
  dcLp x0 neg (↑y3.size:Int) y4) <|
 .call false 27 [Sc.val .l (y1),.string ({ data:={ toList:=[]:Array UInt8 }:ByteArray })] (.v (.o (.s))) fun y2 =>
 dcLp x0 neg (0:Int) y2
theorem dcFin_wp {V0 V Vd:Know} {Ns:List (List LV→Know→Prop)} (hV:HtI V) (le0:V0.le V) {s w:ByteArray} {neg:Bool} {sc:Int} (hs:s.size≤1048576) (hw:w.size≤s.size) (h0:0≤sc) (h1:sc≤(s.size:Int))
  (hc:∀ m l q,DecOkP m l q→decT m l q=s→w=natT l∧m=neg∧q=sc):(dcFin s neg sc w).wp Tryz.prog (fun V' vs=>DecRd V0 s V' (packed vs)) V Vd Ns:=by
 simp only [dcFin,T.wp]
 refine(cI_TextNat V w (by omega)).mono ?_
 rintro V1 _ ⟨le1,t,o,f,ok,rfl,L1,O1,k⟩
 refine⟨nofun,(t,ok,()),rfl,(cI_signed V1 neg t).mono ?_⟩
 rintro _ _ ⟨rfl,rfl⟩
 have get:∀ m l q,DecOkP m l q→decT m l q=s→ok=true∧o=l∧m=neg∧q=sc:=fun m l q a b=>by
  obtain⟨e1,e2,e3⟩:=hc m l q a b
  obtain⟨k1,k2⟩:=rdNat_get k a.1.1 e1.symm
  exact⟨k1,k2,e2,e3⟩
 refine⟨nofun,(neg && decide ((t.n:Int) > 0),t,()),rfl,fun hf=>dc_no (le0.trans le1) fun m l q a b=>?_,fun ht=>?_⟩
 ·have:=(get m l q a b).1
  rw [this] at hf; cases hf
 ·have hk:ok=true:=by simpa using ht
  subst hk
  have hn:=L1.1
  have hol:o.length≤s.size:=by
   rcases k with ⟨_,k2,k3⟩ | ⟨k1,_⟩
   ·have:=natT_len k2.1
    rw [k3] at this; omega
   ·cases k1
  refine(cI_DecText (hV.le le1) (neg && decide ((t.n:Int) > 0)) t sc o f L1).mono ?_
  rintro V2 _ ⟨le2,rfl⟩
  have full:∀ m l q,DecOkP m l q→decT m l q=s→(neg && decide ((t.n:Int) > 0))=m∧o=l∧sc=q:=fun m l q a b=>by
   obtain⟨_,e2,e3,e4⟩:=get m l q a b
   subst e2 e3 e4
   refine⟨?_,rfl,rfl⟩
   cases m with
   | false=>rfl
   | true =>
    have:=a.1.2 rfl
    rw [Bool.true_and]
    exact decide_eq_true (by omega)
  have leA:=le0.trans (le1.trans le2)
  refine⟨nofun,_,rfl,fun hne=>dc_no leA fun m l q a b=>?_,fun heq=>⟨leA,_,t,sc,o,f,true,rfl,L1.le le2,(O1.post le2).pre le0,⟨hol,fun _=>okT_get (text_eq.1 (by simpa using heq)) (by have:=rdNat_pos k; omega)⟩,h0,h1,fun m l q a b=>⟨rfl,full m l q a b⟩⟩⟩
  obtain⟨e1,e2,e3⟩:=full m l q a b
  rw [e1,e2,e3,okT_pos a,b] at hne
  have:(s.toList == s.toList)=true:=text_eq.2 rfl
  rw [this] at hne; cases hne
theorem at0_head {y:ByteArray} (hp:0<y.size):at0 y 0=48↔(bl y).head?=some 48:=by
 have hl:=bl_len y
 have hl0:0<(bl y).length:=by omega
 rw [at0_bl hl0,List.head?_eq_getElem?,List.getElem?_eq_getElem hl0,Option.some.injEq]
 constructor
 ·intro e
  exact UInt8.toNat_inj.1 (by have:(48:UInt8).toNat=48:=rfl; omega)
 ·intro e
  rw [e]; rfl
theorem dcLp_wp {V0 V Vd:Know} (hV:HtI V) (le0:V0.le V) {s w:ByteArray} {neg:Bool} {sc:Int} (hs:s.size≤1048576) (hw:w.size≤s.size) (h0:0≤sc) (h1:sc≤(s.size:Int))
  (hc:∀ m l q,DecOkP m l q→decT m l q=s→ZNat w l∧m=neg∧q=sc):(dcLp s neg sc w).wp Tryz.prog (fun V' vs=>DecRd V0 s V' (packed vs)) V Vd []:=by
 simp only [dcLp,T.wp]
 refine⟨fun y V'=>V'=V∧ByteArray.size y.1≤s.size∧∀ m l q,DecOkP m l q→decT m l q=s→ZNat y.1 l∧m=neg∧q=sc,fun y _=>ByteArray.size y.1,⟨(w,()),rfl,rfl,hw,hc⟩,?_⟩
 rintro⟨(y:ByteArray),u⟩ V' ⟨rfl,hy,hc⟩
 replace hy:y.size≤s.size:=hy
 replace hc:∀ m l q,DecOkP m l q→decT m l q=s→ZNat y l∧m=neg∧q=sc:=hc
 refine⟨fun hlt=>?_,fun hge=>?_⟩
 ·have h2:1<y.size:=by
   have:(y.size:Int) > 1:=of_decide_eq_true hlt
   omega
  refine⟨⟨Int.le_refl _,(by omega:(0:Int)<(y.size:Int))⟩,fun h48=>?_,fun h48=>?_⟩
  ·have h48':(bl y).head?=some 48:=(at0_head (by omega)).1 (by simpa using h48)
   refine⟨⟨by decide,(by omega:(1:Int)≤(y.size:Int)),Int.le_refl _⟩,_,rfl,(y.extract 1 y.size,()),rfl,⟨rfl,?_,fun m l q a b=>?_⟩,?_⟩
   ·show(y.extract 1 y.size).size≤_
    rw [ByteArray.size_extract]; omega
   ·obtain⟨e1,e2⟩:=hc m l q a b
    exact⟨e1.step a.1.1.1 h2 h48',e2⟩
   ·show(y.extract 1 y.size).size<y.size
    rw [ByteArray.size_extract]; omega
  ·refine dcFin_wp hV le0 hs hy h0 h1 fun m l q a b=>?_
   obtain⟨e1,e2⟩:=hc m l q a b
   refine⟨e1.stop a.1.1.1 fun k=>?_,e2⟩
   have:=(at0_head (by omega)).2 k.2
   have e:at0 y (Int.toNat 0)=48:=this
   dsimp only at h48
   rw [e] at h48; cases h48
 ·have h2:¬ 1<y.size:=by
   have:¬ (y.size:Int) > 1:=of_decide_eq_false hge
   omega
  refine dcFin_wp hV le0 hs hy h0 h1 fun m l q a b=>?_
  obtain⟨e1,e2⟩:=hc m l q a b
  exact⟨e1.stop a.1.1.1 fun k=>h2 k.1,e2⟩
theorem joinE_one (x:Tx):joinT [x] ⟨#[]⟩=x.1:=joinT_one x _
theorem joinE_two (x y:Tx):joinT [x,y] ⟨#[]⟩=x.1++y.1:=by
 have:=joinT_snoc (l:=[x]) (by simp) y ⟨#[]⟩
 rw [joinT_one] at this
 refine this.trans (bl_inj ?_)
 rw [bl_append,bl_append,bl_append]
 show bl x.1++[]++bl y.1=_
 simp
theorem dcBody_wp {V0 V Vd:Know} (hV:HtI V) (le0:V0.le V) {s d:ByteArray} {neg:Bool} (hs:s.size≤1048576) (hd:d.size≤s.size)
  (hc:∀ m l q,DecOkP m l q→decT m l q=s→d=decB l q∧m=neg):(dcBody s neg d).wp Tryz.prog (fun V' vs=>DecRd V0 s V' (packed vs)) V Vd []:=by
 simp only [dcBody,T.wp]
 refine(cI_CutAt V d 46 (by omega)).mono ?_
 rintro V1 _ ⟨le1,t,f,rfl,L1,O1⟩
 have hn:=L1.1
 have leA:=le0.trans le1
 have cut:∀ m l q,DecOkP m l q→decT m l q=s→m=neg∧d.size≤56∧((q=0∧cutB 46 d=[(decP l q,())])∨(0<q∧∃ a b:ByteArray,cutB 46 d=[(a,()),(b,())]∧decP l q=a++b∧(b.size:Int)=q)):=fun m l q a b=>by
  obtain⟨e1,e2⟩:=hc m l q a b
  subst e1
  exact⟨e2,decB_size a.1.1.1 a.2.1 a.2.2.1 a.2.2.2,decB_cut a.1.1.1 a.2.1 a.2.2.1 a.2.2.2⟩
 refine⟨nofun,t,rfl,fun h2=>dc_no leA fun m l q a b=>?_,fun h2=>⟨fun h100=>dc_no leA fun m l q a b=>?_,fun h100=>?_⟩⟩
 ·have:(t.n:Int) > 2:=of_decide_eq_true h2
  rcases(cut m l q a b).2.2 with ⟨_,e⟩ | ⟨_,x,y,e,_⟩
  ·rw [e] at hn; simp at hn; omega
  ·rw [e] at hn; simp at hn; omega
 ·have:(d.size:Int) > 100:=of_decide_eq_true h100
  have:=(cut m l q a b).2.1
  omega
 ·have hsz:∀ x∈cutB 46 d,x.1.size≤d.size:=fun x hx=>cutB_size hx
  have h2':¬ (t.n:Int) > 2:=of_decide_eq_false h2
  refine⟨fun he=>?_,fun he=>?_⟩
  ·have hn2:(t.n:Int)=2:=by simpa using he
   rcases cut_cases 46 d with ⟨p,e⟩ | ⟨p,p2,e⟩ | ⟨p,p2,p3,r,e⟩
   ·rw [e] at hn; simp at hn; omega
   ·obtain⟨b,o,ha,hld⟩:=L1.at1t e
    have hp1:=hsz p (by rw [e]; simp)
    have hp2:=hsz p2 (by rw [e]; simp)
    have hld1:∃ x,loadV V1 ((⟨b,o,none⟩:Addr).add (Int.toNat 1*1)) 1=some [.string x]∧x=p2.1:=⟨_,hld,rfl⟩
    rw [ha]
    refine⟨_,rfl,by decide,by omega,p2.1,hld,?_⟩
    refine(cI_Join V1 t (cutB 46 d) f ⟨#[]⟩ L1 ?_ ?_).mono ?_
    ·rw [e]
     show p.1.size+(p2.1.size+0)+2*0≤_
     omega
    ·rw [e]; simp
    rintro _ _ ⟨rfl,rfl⟩
    rw [e,joinE_two]
    refine⟨nofun,p.1++p2.1,rfl,dcLp_wp (hV.le le1) leA hs ?_ (by omega) (by omega) fun m l q a b=>?_⟩
    ·have:=cutB_join 46 d
     rw [e] at this
     have:=congrArg List.length this
     rw [bl_len] at this
     have e2:(joinC 46 ([p,p2].map fun x=>bl x.1)).length=(bl p.1++46 :: bl p2.1).length:=rfl
     rw [e2,List.length_append,List.length_cons,bl_len,bl_len] at this
     rw [ByteArray.size_append]; omega
    ·obtain⟨k1,_,k3⟩:=cut m l q a b
     rcases k3 with ⟨_,k3⟩ | ⟨_,x,y,k3,k4,k5⟩
     ·rw [e] at k3; simp at k3
     ·rw [e] at k3
      simp only [List.cons.injEq,and_true] at k3
      obtain⟨rfl,rfl⟩:=k3
      refine⟨?_,k1,k5.symm⟩
      rw [← k4]
      exact ZNat.start a.2.2.2
   ·rw [e] at hn; simp at hn; omega
  ·have hn2:¬ (t.n:Int)=2:=by simpa using he
   have hpos:=cutB_pos 46 d
   rcases cut_cases 46 d with ⟨p,e⟩ | ⟨p,p2,e⟩ | ⟨p,p2,p3,r,e⟩
   ·have hp1:=hsz p (by rw [e]; simp)
    refine(cI_Join V1 t (cutB 46 d) f ⟨#[]⟩ L1 ?_ ?_).mono ?_
    ·rw [e]
     show p.1.size+0+1*0≤_
     omega
    ·rw [e]; simp
    rintro _ _ ⟨rfl,rfl⟩
    rw [e,joinE_one]
    refine⟨nofun,p.1,rfl,dcLp_wp (hV.le le1) leA hs (by omega) (Int.le_refl _) (by omega) fun m l q a b=>?_⟩
    obtain⟨k1,_,k3⟩:=cut m l q a b
    rcases k3 with ⟨k0,k3⟩ | ⟨_,x,y,k3,_⟩
    ·rw [e] at k3
     simp only [List.cons.injEq,and_true] at k3
     subst k3
     exact⟨ZNat.start a.2.2.2,k1,k0⟩
    ·rw [e] at k3; simp at k3
   ·rw [e] at hn; simp at hn; omega
   ·rw [e] at hn; simp at hn; omega
theorem cI_TextDec {V:Know} (hV:HtI V) (s:ByteArray) (hs:s.size≤1048576):CallX Tryz.prog V 127 [.string s] (DecRd V s):=by
 refine CallX.of_fits Tryz.mix (fI_TextDec _) fun _=>?_
 unfold tI_TextDec
 change (_→_∧(_→_∧T.wp _ _ (dcBody s (at0 s (Int.toNat (0:Int)) == (45:Int)) (s.extract (Int.toNat (1:Int)) (s.size:Int).toNat)) _ _ _)∧(_→T.wp _ _ (dcBody s (at0 s (Int.toNat (0:Int)) == (45:Int)) s) _ _ _))∧(_→T.wp _ _ (dcBody s false s) _ _ _)
 have hl:=bl_len s
 have hd:∀ m l q,DecOkP m l q→decT m l q=s→0<s.size∧((m=true∧at0 s 0=45∧s.extract 1 s.size=decB l q)∨(m=false∧at0 s 0≠45∧s=decB l q)):=fun m l q a b=>by
  obtain⟨c,r,e,hc⟩:=decB_head a.1.1.1 a.2.1 a.2.2.1 a.2.2.2
  cases m with
  | true =>
   have e1:bl s=45 :: bl (decB l q):=by rw [← b]; exact decT_neg l q
   have hp:0<s.size:=by rw [← hl,e1]; simp
   refine⟨hp,.inl ⟨rfl,(sgn_at hp).2 ⟨_,e1⟩,bl_inj ?_⟩⟩
   rw [bl_tail,e1]; rfl
  | false =>
   have e1:s=decB l q:=by rw [← b]; exact decT_pos l q
   have e2:bl s=c :: r:=by rw [e1]; exact e
   have hp:0<s.size:=by rw [← hl,e2]; simp
   refine⟨hp,.inr ⟨rfl,fun k=>?_,e1⟩⟩
   obtain⟨r',hr⟩:=(sgn_at hp).1 k
   rw [e2] at hr
   simp only [List.cons.injEq] at hr
   rw [hr.1] at hc
   exact absurd hc (by decide)
 refine⟨fun hne=>?_,fun he=>?_⟩
 ·have hp:0<s.size:=by
   rcases Nat.eq_zero_or_pos s.size with k | k
   ·rw [empty_iff.2 k] at hne; cases hne
   ·exact k
  refine⟨⟨Int.le_refl _,by omega⟩,fun h45=>⟨⟨by decide,by omega,Int.le_refl _⟩,?_⟩,fun h45=>?_⟩
  ·refine dcBody_wp hV (Know.le.refl _) hs ?_ fun m l q a b=>?_
   ·rw [ByteArray.size_extract]; omega
   ·rcases(hd m l q a b).2 with ⟨k1,k2,k3⟩ | ⟨k1,k2,k3⟩
    ·exact⟨k3,k1.trans h45.symm⟩
    ·exact absurd (by simpa using h45) k2
  ·refine dcBody_wp hV (Know.le.refl _) hs (Nat.le_refl _) fun m l q a b=>?_
   rcases(hd m l q a b).2 with ⟨k1,k2,k3⟩ | ⟨k1,k2,k3⟩
   ·have e:at0 s (Int.toNat 0)=45:=k2
    rw [e] at h45; cases h45
   ·exact⟨k3,k1.trans h45.symm⟩
 ·refine dcBody_wp hV (Know.le.refl _) hs (Nat.le_refl _) fun m l q a b=>?_
  have hz:s.size=0:=empty_iff.1 (by simpa using he)
  have:=(hd m l q a b).1
  omega
end Go.Proofs.YtpkmhkbkohppiaaGreatDoor
namespace Go.Proofs.YtpkmhkbkohppiaaGreatDoor
open Sx
set_option maxRecDepth 100000
theorem dec_sign {s:ByteArray} {m:Bool} {l:List Lim} {q:Int} (a:DecOkP m l q) (b:decT m l q=s):0<s.size∧(at0 s 0 == 45)=m:=by
 obtain⟨c,r,e,hc⟩:=decB_head a.1.1.1 a.2.1 a.2.2.1 a.2.2.2
 have hl:=bl_len s
 cases m with
 | true =>
  have e1:bl s=45 :: bl (decB l q):=by rw [← b]; exact decT_neg l q
  have hp:0<s.size:=by rw [← hl,e1]; simp
  exact⟨hp,by rw [(sgn_at hp).2 ⟨_,e1⟩]; rfl⟩
 | false =>
  have e1:s=decB l q:=by rw [← b]; exact decT_pos l q
  have e2:bl s=c :: r:=by rw [e1]; exact e
  have hp:0<s.size:=by rw [← hl,e2]; simp
  refine⟨hp,?_⟩
  cases hk:(at0 s 0 == 45) with
  | false=>rfl
  | true =>
   obtain⟨r',hr⟩:=(sgn_at hp).1 (by simpa using hk)
   rw [e2] at hr
   simp only [List.cons.injEq] at hr
   rw [hr.1] at hc
   exact absurd hc (by decide)
theorem cS_l07DecO (V:Know) (c0:Bool) (c1:SlV) (x:Int) (l:List Lim) (f:List Nat) (h:LR rI V c1 l f) :
  CallX Tryz.prog V 79 [qv1 (c0,c1,()),.int .i64 x] (fun V' r=>V'=V∧((DecOkP c0 l x∧r=.tuple #[qv0 (c0,c1,x,()),.bool true])∨(¬ DecOkP c0 l x∧r=.tuple #[qv0 (false,⟨none,0,0⟩,(0:Int),()),.bool false]))):=by
 refine CallX.of_fits Tryz.mix (fS_l07Dec _ _) fun _=>?_
 simp only [tS_l07Dec,T.wp]
 refine(cS_DecOk V c0 c1 x l f h).mono ?_
 rintro _ r ⟨rfl,e,rfl,he⟩
 refine⟨nofun,e,rfl,fun hf=>⟨rfl,.inr ⟨fun k=>?_,rfl⟩⟩,fun ht=>⟨rfl,.inl ⟨he.1 (by simpa using ht),rfl⟩⟩⟩
 rw [he.2 k] at hf; cases hf
theorem fD_keep {c:UInt8} (h:c≠46) (k:c≠45):fD [c]=[c]:=by simp [fD,h,k]
noncomputable def dsEnd (x0:ByteArray) (neg:Bool) (sc:Int) (t:SlV) (ok:Bool):T :=
 .call false 79 [qv1 (neg,t,()),.int .i64 sc] (.t [(.g [.b,.l,.i .i64]),(.o (.b))]) fun y4 =>
 .br (!ok) (
  .ret [qv0 ((false),(⟨(none),((0:Nat)),((0:Nat))⟩:SlV),(((0:Int)):Int),()),.bool (false)]) <|
 .br (!y4.2.fst) (
  .ret [qv0 ((false),(⟨(none),((0:Nat)),((0:Nat))⟩:SlV),(((0:Int)):Int),()),.bool (false)]) <|
 .call false 63 [qv0 (y4.1)] (.v (.o (.s))) fun y5 =>
 .br (!y5.toList == x0.toList) (
  .ret [qv0 ((false),(⟨(none),((0:Nat)),((0:Nat))⟩:SlV),(((0:Int)):Int),()),.bool (false)]) <|
 .ret [qv0 (y4.1),.bool (true)]
noncomputable def dsFin (x0:ByteArray) (sc:Int) (w:ByteArray):T :=
 .call false 78 [.string w] (.t [(.o (.l)),(.o (.b))]) fun y3 =>
 .br (decide ((↑x0.size:Int) > (0:Int))) (
  .rq ((0:Int)≤(0:Int)∧(0:Int)<(↑x0.size:Int)) <|
  dsEnd x0 (at0 x0 (Int.toNat (0:Int)) == (45:Int)) sc y3.1 y3.2.fst) <|
 dsEnd x0 false sc y3.1 y3.2.fst
noncomputable def dsLp (x0:ByteArray) (sc:Int) (w:ByteArray) (d:Nat):T :=
 .lp [.o (.o (.s))] [.v (.string (w))] fun y2 =>
 .br (decide ((↑(ByteArray.size y2.fst):Int) > (1:Int))) (
  .rq ((0:Int)≤(0:Int)∧(0:Int)<(↑(ByteArray.size y2.fst):Int)) <|
  .br (at0 y2.fst (Int.toNat (0:Int)) == (48:Int)) (
   .rq ((0:Int)≤(1:Int)∧(1:Int)≤(↑(ByteArray.size y2.fst):Int)∧(↑(ByteArray.size y2.fst):Int)≤(↑(ByteArray.size y2.fst):Int)) <|
   .nx d [.v (.string (ByteArray.extract y2.fst (Int.toNat (1:Int)) (↑(ByteArray.size y2.fst):Int).toNat))]) <|
  dsFin x0 sc y2.fst) <|
 dsFin x0 sc y2.fst
theorem dsEnd_wp {V0 V Vd:Know} {Ns:List (List LV→Know→Prop)} (le0:V0.le V) {s w:ByteArray} {n:Bool} {sc:Int} {t:SlV} {o:List Lim} {f:List Nat} {ok:Bool} (L:LR rI V t o f) (O:Own V0 V f) (k:RdNat w o ok) (hw:w.size≤s.size) (h0:0≤sc) (h1:sc≤(s.size:Int))
  (hc:∀ m l q,DecOkP m l q→decT m l q=s→w=natT l∧m=n∧q=sc):(dsEnd s n sc t ok).wp Tryz.prog (fun V' vs=>DecRd V0 s V' (packed vs)) V Vd Ns:=by
 simp only [dsEnd,T.wp]
 have get:∀ m l q,DecOkP m l q→decT m l q=s→ok=true∧o=l∧m=n∧q=sc:=fun m l q a b=>by
  obtain⟨e1,e2,e3⟩:=hc m l q a b
  obtain⟨k1,k2⟩:=rdNat_get k a.1.1 e1.symm
  exact⟨k1,k2,e2,e3⟩
 refine(cS_l07DecO V n t sc o f L).mono ?_
 rintro _ _ ⟨rfl,⟨hd,rfl⟩ | ⟨hd,rfl⟩⟩
 ·refine⟨nofun,((n,t,sc,()),true,()),rfl,fun hf=>dc_no le0 fun m l q a b=>?_,fun ht=>⟨nofun,fun _=>?_⟩⟩
  ·have:=(get m l q a b).1
   rw [this] at hf; cases hf
  ·have hk:ok=true:=by simpa using ht
   subst hk
   have hol:o.length≤s.size:=by
    rcases k with ⟨_,k2,k3⟩ | ⟨k1,_⟩
    ·have:=natT_len k2.1
     rw [k3] at this; omega
    ·cases k1
   refine(cS_DecText trivial n t sc o f L).mono ?_
   rintro V2 _ ⟨le2,rfl⟩
   have leA:=le0.trans le2
   have full:∀ m l q,DecOkP m l q→decT m l q=s→n=m∧o=l∧sc=q:=fun m l q a b=>by
    obtain⟨_,e2,e3,e4⟩:=get m l q a b
    exact⟨e3.symm,e2,e4.symm⟩
   refine⟨nofun,_,rfl,fun hne=>dc_no leA fun m l q a b=>?_,fun heq=>⟨leA,n,t,sc,o,f,true,rfl,L.le le2,O.post le2,⟨hol,fun _=>okT_get (text_eq.1 (by simpa using heq)) (by have:=rdNat_pos k; omega)⟩,h0,h1,fun m l q a b=>⟨rfl,full m l q a b⟩⟩⟩
   obtain⟨e1,e2,e3⟩:=full m l q a b
   rw [e1,e2,e3,okT_pos a,b] at hne
   have:(s.toList == s.toList)=true:=text_eq.2 rfl
   rw [this] at hne; cases hne
 ·have no:∀ m l q,DecOkP m l q→decT m l q=s→False:=fun m l q a b=>by
   obtain⟨_,e2,e3,e4⟩:=get m l q a b
   subst e2 e3 e4
   exact hd a
  exact⟨nofun,((false,⟨none,0,0⟩,(0:Int),()),false,()),rfl,fun _=>dc_no le0 no,fun _=>⟨fun _=>dc_no le0 no,nofun⟩⟩
theorem dsFin_wp {V0 V Vd:Know} {Ns:List (List LV→Know→Prop)} (le0:V0.le V) {s w:ByteArray} {sc:Int} (hs:s.size≤1048576) (hw:w.size≤s.size) (h0:0≤sc) (h1:sc≤(s.size:Int))
  (hc:∀ m l q,DecOkP m l q→decT m l q=s→w=natT l∧q=sc):(dsFin s sc w).wp Tryz.prog (fun V' vs=>DecRd V0 s V' (packed vs)) V Vd Ns:=by
 unfold dsFin
 change CallX _ _ _ _ (fun V' r=>_∧∃ y,_∧(_→_∧T.wp _ _ (dsEnd s _ sc _ _) _ _ _)∧(_→T.wp _ _ (dsEnd s _ sc _ _) _ _ _))
 refine(cS_TextNat V w (by omega)).mono ?_
 rintro V1 _ ⟨le1,t,o,f,ok,rfl,L1,O1,k⟩
 refine⟨nofun,(t,ok,()),rfl,fun hp=>⟨⟨Int.le_refl _,of_decide_eq_true hp⟩,?_⟩,fun hp=>?_⟩
 ·refine dsEnd_wp (le0.trans le1) L1 (O1.pre le0) k hw h0 h1 fun m l q a b=>?_
  obtain⟨e1,e2⟩:=hc m l q a b
  exact⟨e1,(dec_sign a b).2.symm,e2⟩
 ·refine dsEnd_wp (le0.trans le1) L1 (O1.pre le0) k hw h0 h1 fun m l q a b=>?_
  have h2:¬ (s.size:Int) > 0:=of_decide_eq_false hp
  have:=(dec_sign a b).1
  omega
theorem dsLp_wp {V0 V Vd:Know} {Ns:List (List LV→Know→Prop)} (le0:V0.le V) {s w:ByteArray} {sc:Int} (hs:s.size≤1048576) (hw:w.size≤s.size) (h0:0≤sc) (h1:sc≤(s.size:Int))
  (hc:∀ m l q,DecOkP m l q→decT m l q=s→ZNat w l∧q=sc):(dsLp s sc w Ns.length).wp Tryz.prog (fun V' vs=>DecRd V0 s V' (packed vs)) V Vd Ns:=by
 unfold dsLp
 refine⟨fun y V'=>V'=V∧ByteArray.size y.1≤s.size∧∀ m l q,DecOkP m l q→decT m l q=s→ZNat y.1 l∧q=sc,fun y _=>ByteArray.size y.1,⟨(w,()),rfl,rfl,hw,hc⟩,?_⟩
 rintro⟨(y:ByteArray),u⟩ V' ⟨rfl,hy,hc⟩
 replace hy:y.size≤s.size:=hy
 replace hc:∀ m l q,DecOkP m l q→decT m l q=s→ZNat y l∧q=sc:=hc
 refine⟨fun hlt=>?_,fun hge=>?_⟩
 ·have h2:1<y.size:=by
   have:(y.size:Int) > 1:=of_decide_eq_true hlt
   omega
  refine⟨⟨Int.le_refl _,(by omega:(0:Int)<(y.size:Int))⟩,fun h48=>?_,fun h48=>?_⟩
  ·have h48':(bl y).head?=some 48:=(at0_head (by omega)).1 (by simpa using h48)
   refine⟨⟨by decide,(by omega:(1:Int)≤(y.size:Int)),Int.le_refl _⟩,_,List.getElem?_concat_length ..,(y.extract 1 y.size,()),rfl,⟨rfl,?_,fun m l q a b=>?_⟩,?_⟩
   ·show(y.extract 1 y.size).size≤_
    rw [ByteArray.size_extract]; omega
   ·obtain⟨e1,e2⟩:=hc m l q a b
    exact⟨e1.step a.1.1.1 h2 h48',e2⟩
   ·show(y.extract 1 y.size).size<y.size
    rw [ByteArray.size_extract]; omega
  ·refine dsFin_wp le0 hs hy h0 h1 fun m l q a b=>?_
   obtain⟨e1,e2⟩:=hc m l q a b
   refine⟨e1.stop a.1.1.1 fun k=>?_,e2⟩
   have:=(at0_head (by omega)).2 k.2
   have e:at0 y (Int.toNat 0)=48:=this
   dsimp only at h48
   rw [e] at h48; cases h48
 ·have h2:¬ 1<y.size:=by
   have:¬ (y.size:Int) > 1:=of_decide_eq_false hge
   omega
  refine dsFin_wp le0 hs hy h0 h1 fun m l q a b=>?_
  obtain⟨e1,e2⟩:=hc m l q a b
  exact⟨e1.stop a.1.1.1 fun k=>h2 k.1,e2⟩
theorem cS_TextDec (V:Know) (s:ByteArray) (hs:s.size≤1048576):CallX Tryz.prog V 46 [.string s] (DecRd V s):=by
 refine CallX.of_fits Tryz.mix (fS_TextDec _) fun _=>?_
 unfold tS_TextDec
 have hl:=bl_len s
 refine⟨fun y V'=>V'=V∧∃ k:Nat,(y.2.2.1:Int)=(k:Int)∧k≤s.size∧bl y.1=fD ((bl s).take k)∧scG ((bl s).drop k) y.2.1=scG (bl s) 0∧0≤(y.2.1:Int)∧(y.2.1:Int)≤s.size,fun y _=>((s.size:Int)-(y.2.2.1:Int)).toNat,
  ⟨(⟨#[]⟩,(0:Int),(0:Int),()),rfl,rfl,0,rfl,Nat.zero_le _,rfl,rfl,Int.le_refl _,by show(0:Int)≤_; omega⟩,?_⟩
 rintro⟨(w:ByteArray),(z:Int),(i:Int),u⟩ V' ⟨rfl,k,hi,hk,hw,hz,hz0,hz1⟩
 replace hi:i=(k:Int):=hi
 replace hw:bl w=fD ((bl s).take k):=hw
 replace hz:scG ((bl s).drop k) z=scG (bl s) 0:=hz
 replace hz0:0≤z:=hz0
 replace hz1:z≤(s.size:Int):=hz1
 subst hi
 have hwl:=bl_len w
 have hws:w.size≤k:=by
  rw [← hwl,hw]
  unfold fD
  refine Nat.le_trans (List.length_filter_le _ _) ?_
  rw [List.length_take]; omega
 refine⟨fun hlt=>?_,fun hge=>?_⟩
 ·have hlt':k<s.size:=by
   have:(k:Int)<(s.size:Int):=of_decide_eq_true hlt
   omega
  have hk':k<(bl s).length:=by omega
  have hwr:IntKind.i64.wrap ((k:Int)+1)=((k+1:Nat):Int):=by rw [wrap_i64 (by omega)]; omega
  have ek:at0 s (k:Int).toNat=((bl s)[k].toNat:Int):=by rw [Int.toNat_natCast]; exact at0_bl hk'
  have htk:(bl s).take (k+1)=(bl s).take k++[(bl s)[k]]:=by simpa using take_drop_snoc hk' (Nat.zero_le k)
  have hdk:(bl s).drop k=(bl s)[k] :: (bl s).drop (k+1):=List.drop_eq_getElem_cons hk'
  have hmm:((s.size:Int)-((k+1:Nat):Int)).toNat<((s.size:Int)-(k:Int)).toNat:=by omega
  have c46:((at0 s (k:Int).toNat) == (45+1:Int))=true↔(bl s)[k]=46:=by
   rw [ek]; exact byte_eq (b:=46)
  have c45:((at0 s (k:Int).toNat) == (45:Int))=true↔(bl s)[k]=45:=by
   rw [ek]; exact byte_eq (b:=45)
  rw [hdk] at hz
  refine⟨⟨(by omega:(0:Int)≤(k:Int)),(by omega:(k:Int)<(s.size:Int))⟩,fun h46=>?_,fun h46=>⟨⟨(by omega:(0:Int)≤(k:Int)),(by omega:(k:Int)<(s.size:Int))⟩,fun h45=>?_,fun h45=>?_⟩⟩
  ·have hc:(bl s)[k]=46:=c46.1 h46
   have hwz:IntKind.i64.wrap (IntKind.i64.wrap ((s.size:Int)-1)-(k:Int))=(((bl s).drop (k+1)).length:Int):=by
    rw [List.length_drop,wrap_i64 (n:=(s.size:Int)-1) (by omega),wrap_i64 (by omega)]; omega
   have hdl:((bl s).drop (k+1)).length≤s.size:=by rw [List.length_drop]; omega
   refine⟨_,rfl,(w,(((bl s).drop (k+1)).length:Int),((k+1:Nat):Int),()),?_,⟨rfl,k+1,rfl,hlt',?_,?_,(by omega:(0:Int)≤(((bl s).drop (k+1)).length:Int)),(by omega:(((bl s).drop (k+1)).length:Int)≤(s.size:Int))⟩,hmm⟩
   ·dsimp only; rw [hwr,hwz]; rfl
   ·rw [htk,fD_append,hc]
    show bl w=_++[]
    rw [List.append_nil]; exact hw
   ·rw [scG,if_pos hc] at hz
    exact hz
  ·have hc:(bl s)[k]≠46:=fun e=>by
    have:=c46.2 e
    dsimp only at h46
    rw [show((46:Int))=45+1 from rfl,this] at h46; cases h46
   have hc2:(bl s)[k]≠45:=fun e=>by
    have h:=c45.2 e
    have h45':(at0 s (k:Int).toNat != (45:Int))=true:=h45
    simp only [bne,h] at h45'
    cases h45'
   have hex:bl (s.extract k (k+1))=[(bl s)[k]]:=by
    rw [bl_extract,htk,List.drop_append_of_le_length (by rw [List.length_take]; omega)]
    rw [List.drop_of_length_le (by rw [List.length_take]; omega)]
    rfl
   have hes:(s.extract k (k+1)).size=1:=by rw [← bl_len,hex]; rfl
   dsimp only
   rw [hwr,Int.toNat_natCast,Int.toNat_natCast]
   refine⟨⟨(by omega:(0:Int)≤(k:Int)),(by omega:(k:Int)≤((k+1:Nat):Int)),(by omega:((k+1:Nat):Int)≤(s.size:Int))⟩,(by rw [hes]; omega),_,rfl,(w++s.extract k (k+1),z,((k+1:Nat):Int),()),rfl,⟨rfl,k+1,rfl,hlt',?_,?_,hz0,hz1⟩,hmm⟩
   ·show bl (w++s.extract k (k+1))=_
    rw [bl_append,hw,hex,htk,fD_append]
    rw [fD_keep hc hc2]
   ·rw [scG,if_neg hc] at hz
    exact hz
  ·have hc:(bl s)[k]≠46:=fun e=>by
    have:=c46.2 e
    dsimp only at h46
    rw [show((46:Int))=45+1 from rfl,this] at h46; cases h46
   have hc2:(bl s)[k]=45:=by
    refine c45.1 ?_
    have h45':(at0 s (k:Int).toNat != (45:Int))=false:=h45
    simpa [bne] using h45'
   refine⟨_,rfl,(w,z,((k+1:Nat):Int),()),?_,⟨rfl,k+1,rfl,hlt',?_,?_,hz0,hz1⟩,hmm⟩
   ·dsimp only; rw [hwr]; rfl
   ·rw [htk,fD_append,hc2]
    show bl w=_++[]
    rw [List.append_nil]; exact hw
   ·rw [scG,if_neg hc] at hz
    exact hz
 ·have hk2:k=s.size:=by
   have:¬ (k:Int)<(s.size:Int):=of_decide_eq_false hge
   omega
  subst hk2
  rw [← hl,List.take_length] at hw
  rw [← hl,List.drop_length] at hz
  replace hz:z=scG (bl s) 0:=hz
  change T.wp _ _ (dsLp s z w 1) _ _ _
  refine dsLp_wp (Ns:=[_]) (Know.le.refl _) hs (by omega) hz0 hz1 fun m l q a b=>?_
  obtain⟨e1,e2⟩:=decT_fD (neg:=m) a.1.1.1 a.2.1 a.2.2.1 a.2.2.2
  rw [b] at e1 e2
  obtain⟨j,e3⟩:=decP_bl (l:=l) a.2.2.2
  exact⟨⟨j,by rw [hw,e1,e3]⟩,by rw [hz,e2]⟩
end Go.Proofs.YtpkmhkbkohppiaaGreatDoor
namespace Go.Proofs.YtpkmhkbkohppiaaGreatDoor
open Sx
theorem bless_trans:∀ {x y z:List UInt8},Op.bytesLess x y=true→Op.bytesLess y z=true→Op.bytesLess x z=true
 | _,[],_,h,_=>by simp [Op.bytesLess] at h
 | _,_ :: _,[],_,h=>by simp [Op.bytesLess] at h
 | [],_ :: _,_ :: _,_,_=>rfl
 | a :: x,b :: y,c :: z,h,k=>by
  simp only [Op.bytesLess,Bool.or_eq_true,decide_eq_true_eq,Bool.and_eq_true,beq_iff_eq] at h k ⊢
  rcases h with h | ⟨rfl,h⟩
  ·rcases k with k | ⟨rfl,k⟩
   ·exact .inl (UInt8.lt_trans h k)
   ·exact .inl h
  ·rcases k with k | ⟨rfl,k⟩
   ·exact .inl k
   ·exact .inr ⟨rfl,bless_trans h k⟩
theorem bless_tot:∀ (x y:List UInt8),Op.bytesLess x y=true∨x=y∨Op.bytesLess y x=true
 | [],[]=>.inr (.inl rfl)
 | [],_ :: _=>.inl rfl
 | _ :: _,[]=>.inr (.inr rfl)
 | a :: x,b :: y=>by
  simp only [Op.bytesLess,Bool.or_eq_true,decide_eq_true_eq,Bool.and_eq_true,beq_iff_eq,List.cons.injEq]
  rcases UInt8.lt_or_le a b with h | h
  ·exact .inl (.inl h)
  by_cases e:a=b
  ·subst e
   rcases bless_tot x y with k | k | k
   ·exact .inl (.inr ⟨rfl,k⟩)
   ·exact .inr (.inl ⟨rfl,k⟩)
   ·exact .inr (.inr (.inr ⟨rfl,k⟩))
  ·exact .inr (.inr (.inl (UInt8.lt_of_le_of_ne h (fun q=>e q.symm))))
theorem LessP.trans {a b c:ByteArray} (h:LessP a b) (k:LessP b c):LessP a c:=bless_trans h k
theorem LessP.tot {a b:ByteArray} (h:¬ LessP a b) (k:a≠b):LessP b a:=by
 rcases bless_tot a.toList b.toList with q | q | q
 ·exact absurd q h
 ·exact absurd (toList_inj.1 q) k
 ·exact q
theorem known_mem {x:ByteArray} (h:known x=true):x∈curI.map (·.1):=by
 unfold known curFrom at h
 cases hf:(curI.drop 0).find? (curHas x) with
 | none=>rw [hf] at h; cases h
 | some r =>
  have h1:=List.find?_some hf
  have e:r.1=x:=text_eq.1 h1
  rw [← e]
  exact List.mem_map_of_mem (List.mem_of_find?_eq_some hf)
def Sorted {α:Type} (key:α→ByteArray) (l:List α):Prop:=∀ (i:Nat) (h:i<l.length),0<i→LessP (key (l[i-1]'(by omega))) (key l[i])
theorem Sorted.lt {α:Type} {key:α→ByteArray} {l:List α} (h:Sorted key l):∀ {i j:Nat} (hj:j<l.length) (hij:i<j),LessP (key (l[i]'(by omega))) (key l[j])
 | i,j+1,hj,hij=>by
  have h1:=h (j+1) hj (by omega)
  by_cases e:i=j
  ·subst e; exact h1
  ·exact(Sorted.lt h (i:=i) (j:=j) (by omega) (by omega)).trans h1
end Go.Proofs.YtpkmhkbkohppiaaGreatDoor
namespace Go.Proofs.YtpkmhkbkohppiaaGreatDoor
open Sx Go.RowKit
set_option maxRecDepth 100000
theorem known_space {c:ByteArray} (h:known c=true):(32:UInt8) ∉ bl c∧(59:UInt8) ∉ bl c∧(10:UInt8) ∉ bl c:=by
 have key:∀ r∈curI,(32:UInt8) ∉ bl r.1∧(59:UInt8) ∉ bl r.1∧(10:UInt8) ∉ bl r.1:=by decide +kernel
 obtain⟨r,hr,e⟩:=List.mem_map.1 (known_mem h)
 rw [← e]
 exact key r hr
end Go.Proofs.YtpkmhkbkohppiaaGreatDoor
