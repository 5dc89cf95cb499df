/-
  A ledger read from its text, in the program and in the reference.
-/
import Derived.Test.YtagkjnpggkmehaaGreatDoorLnI
import Derived.Test.YtagkjnpggkmehaaGreatDoorBytes
namespace Go.Proofs.YtagkjnpggkmehaaGreatDoor
open Sx
set_option maxRecDepth 100000
theorem join_joinC1 (c:UInt8):∀ (L:List (List UInt8)),Go.Lib.join L [c]=joinC c L
 | []=>rfl
 | [a]=>by rw [Go.Lib.join_one]; rfl
 | a :: b :: r=>by
  rw [joinC_cons (by simp),← join_joinC1 c (b :: r),Go.Lib.join_cons,Go.Lib.join_cons]
  simp [Go.Lib.joinTail]
theorem joinT_cut (c:UInt8) (s:ByteArray):joinT (cutB c s) ⟨#[c]⟩=s:=by
 refine bl_inj ?_
 rw [cutB_join c s,← join_joinC1]
 show bl (⟨(Go.Lib.join (bytesL (cutB c s)) [c]).toArray⟩:ByteArray)=_
 exact bl_of _
theorem lens_cutA (c:UInt8):∀ (p l:List UInt8),((cutA c p l).map List.length).sum+(cutA c p l).length=p.length+l.length+1
 | p,[]=>by simp [cutA]
 | p,b :: l=>by
  rw [cutA]
  split
  ·rw [List.map_cons,List.sum_cons,List.length_cons]
   have:=lens_cutA c [] l
   simp only [List.length_nil,List.length_cons] at this ⊢
   omega
  ·have:=lens_cutA c (p++[b]) l
   simp only [List.length_append,List.length_cons,List.length_nil] at this ⊢
   omega
theorem sumT_cut (c:UInt8) (s:ByteArray):sumT (cutB c s)+(cutB c s).length=s.size+1:=by
 have:=lens_cutA c [] (bl s)
 rw [bl_len] at this
 have e:sumT (cutB c s)=((cutA c [] (bl s)).map List.length).sum:=by
  unfold sumT bytesL cutB Go.Lib.lens
  rw [List.map_map,List.map_map]
  congr 1
 rw [e]
 have e2:(cutB c s).length=(cutA c [] (bl s)).length:=by unfold cutB; rw [List.length_map]
 rw [e2]
 simpa using this
theorem cut_head {c:UInt8} {a b:List UInt8} {s:ByteArray} (h:bl s=a++c :: b) (hc:c ∉ a):cutB c s=(ofL a,()) :: cutB c (ofL b):=by
 unfold cutB
 rw [h,cutA_app hc,bl_of,List.map_cons,List.nil_append]
abbrev SlPost (V0:Know) (X:DLedger) (line:ByteArray):Know→Value→Prop:=fun V' r=>∃ a x p c ok,r=.tuple #[Sh1.val (.g LSh) (a,x,p,c,()),.bool ok]∧V0.le V' ∧
 (ok=true→∃ X' fA fX fR,p=X'.2.2.1∧Ls V' X' a x c fA fX fR∧Own V0 V' (fA++(fX++fR))∧rLedger.tot X'≤rLedger.tot X+line.size∧∀ it,LnP it→lnT it=line→X'=stepL X it)∧∀ it,LnP it→lnT it=line→ok=true
noncomputable def l24X (x0:qy2) (w:ByteArray) (t:SlV):T :=
 .br (w.toList == { data:={ toList:=[(114:UInt8),(101:UInt8),(115:UInt8),(116:UInt8)]:Array UInt8 }:ByteArray }.toList) (
  .br ((↑t.n:Int) == (2:Int)) (
   .el (t.1) (t.n) ((1:Int)) fun y3 =>
   .ld false (y3.add (Int.toNat (1:Int)*(1:Nat))) (.o (.s)) fun y4 =>
   .call false 34 [.string (y4)] (.t [(.g [.b,.l,.l]),(.o (.b))]) fun y5 =>
   .rg <|
   .el (t.1) (t.n) ((0:Int)) fun y6 =>
   .ld true (y6.add (Int.toNat (0:Int)*(1:Nat))) (.o (.s)) fun y7 =>
   .rq ([Go.Value.string y7,Go.Value.bool y5.1.fst,Go.Value.slice y5.1.2.1.1 y5.1.2.1.n y5.1.2.1.c,Go.Value.slice y5.1.2.2.1.1 y5.1.2.2.1.n y5.1.2.2.1.c].length=(1:Nat)*(4:Nat)) <|
   .rq (one [Go.Value.string y7,Go.Value.bool y5.1.fst,Go.Value.slice y5.1.2.1.1 y5.1.2.1.n y5.1.2.1.c,Go.Value.slice y5.1.2.2.1.1 y5.1.2.2.1.n y5.1.2.2.1.c]=true) <|
   .ap ({ a:=x0.2.1.1,n:=x0.2.1.n,c:=x0.2.1.c:SlV }) 4 72 [.string (y7),.bool (y5.1.fst),Sc.val .l (y5.1.2.1),Sc.val .l (y5.1.2.2.1)] ((1:Nat)) ldX fun y8 =>
   .ret [qv3 (x0.1,y8,(x0.2.2.fst),x0.2.2.2.1,()),.bool (y5.2.fst)]) <|
  .ret [qv3 (x0),.bool (false)]) <|
 .ret [qv3 (x0),.bool (false)]
noncomputable def l24A (x0:qy2) (w:ByteArray) (t:SlV):T :=
 .br (w.toList == { data:={ toList:=[(97:UInt8),(99:UInt8),(99:UInt8),(116:UInt8)]:Array UInt8 }:ByteArray }.toList) (
  .br ((↑t.n:Int) == (3:Int)) (
   .rg <|
   .el (t.1) (t.n) ((1:Int)) fun y3 =>
   .ld true (y3.add (Int.toNat (1:Int)*(1:Nat))) (.o (.s)) fun y4 =>
   .rq (ByteArray.size y4+{ data:={ toList:=[(32:UInt8)]:Array UInt8 }:ByteArray }.size≤(9223372036854775807:Nat)) <|
   .el (t.1) (t.n) ((2:Int)) fun y5 =>
   .ld true (y5.add (Int.toNat (2:Int)*(1:Nat))) (.o (.s)) fun y6 =>
   .rq (ByteArray.size (y4++{ data:={ toList:=[(32:UInt8)]:Array UInt8 }:ByteArray })+ByteArray.size y6≤(9223372036854775807:Nat)) <|
   .call false 124 [.string (y4++{ data:={ toList:=[(32:UInt8)]:Array UInt8 }:ByteArray }++y6)] (.t [(.g [.s,.b,.l]),(.o (.b))]) fun y7 =>
   .rg <|
   .el (t.1) (t.n) ((0:Int)) fun y8 =>
   .ld true (y8.add (Int.toNat (0:Int)*(1:Nat))) (.o (.s)) fun y9 =>
   .rq ([Go.Value.string y9,Go.Value.string y7.1.fst,Go.Value.bool y7.1.2.fst,Go.Value.slice y7.1.2.2.1.1 y7.1.2.2.1.n y7.1.2.2.1.c].length=(1:Nat)*(4:Nat)) <|
   .rq (one [Go.Value.string y9,Go.Value.string y7.1.fst,Go.Value.bool y7.1.2.fst,Go.Value.slice y7.1.2.2.1.1 y7.1.2.2.1.n y7.1.2.2.1.c]=true) <|
   .ap ({ a:=x0.1.1,n:=x0.1.n,c:=x0.1.c:SlV }) 4 64 [.string (y9),.string (y7.1.fst),.bool (y7.1.2.fst),Sc.val .l (y7.1.2.2.1)] ((1:Nat)) ldA fun y10 =>
   .ret [qv3 (y10,x0.2.1,(x0.2.2.fst),x0.2.2.2.1,()),.bool (y7.2.fst)]) <|
  l24X x0 w t) <|
 l24X x0 w t
noncomputable def l24R (x0:qy2) (w:ByteArray) (t:SlV):T :=
 .br (w.toList == { data:={ toList:=[(114:UInt8),(97:UInt8),(116:UInt8),(101:UInt8)]:Array UInt8 }:ByteArray }.toList) (
  .call false 92 [Sc.val .l (t),.string ({ data:={ toList:=[(32:UInt8)]:Array UInt8 }:ByteArray })] (.v (.o (.s))) fun y3 =>
  .call false 123 [.string (y3)] (.t [(.g [.s,.s,.b,.l,.i .i64]),(.o (.b))]) fun y4 =>
  .rq ([Go.Value.string y4.1.fst,Go.Value.string y4.1.2.fst,Go.Value.bool y4.1.2.2.fst,Go.Value.slice y4.1.2.2.2.1.1 y4.1.2.2.2.1.n y4.1.2.2.2.1.c,Go.Value.int Go.IntKind.i64 y4.1.2.2.2.2.fst].length=(1:Nat)*(5:Nat)) <|
  .rq (one [Go.Value.string y4.1.fst,Go.Value.string y4.1.2.fst,Go.Value.bool y4.1.2.2.fst,Go.Value.slice y4.1.2.2.2.1.1 y4.1.2.2.2.1.n y4.1.2.2.2.1.c,Go.Value.int Go.IntKind.i64 y4.1.2.2.2.2.fst]=true) <|
  .ap ({ a:=x0.2.2.2.1.1,n:=x0.2.2.2.1.n,c:=x0.2.2.2.1.c:SlV }) 5 72 [.string (y4.1.fst),.string (y4.1.2.fst),.bool (y4.1.2.2.fst),Sc.val .l (y4.1.2.2.2.1),.int .i64 (y4.1.2.2.2.2.fst)] ((1:Nat)) ldR fun y5 =>
  .ret [qv3 (x0.1,x0.2.1,(x0.2.2.fst),y5,()),.bool (y4.2.fst)]) <|
 l24A x0 w t
structure W24 (V0 V:Know) (X:DLedger) (sA sX sR:SlV) (fA fX fR:List Nat) (line w:ByteArray) (t:SlV) (W:List Tx) (f:List Nat):Prop where
 le0:V0.le V
 L:Ls V X sA sX sR fA fX fR
 O:Own V0 V (fA++(fX++fR))
 T:LR rString V t W f
 k:∀ it,LnP it→lnT it=line→bl w=lnK it∧W=cutB 32 (ofL (lnB it))
 z:sumT W+W.length+w.size≤line.size
 s:line.size≤1048576
 t':rLedger.tot X≤1048576
theorem W24.fail {V0 V:Know} {X:DLedger} {sA sX sR:SlV} {fA fX fR:List Nat} {line w:ByteArray} {t:SlV} {W:List Tx} {f:List Nat} (h:W24 V0 V X sA sX sR fA fX fR line w t W f)
  (no:∀ it,LnP it→lnT it=line→False):SlPost V0 X line V (packed [qv3 (sA,sX,X.2.2.1,sR,()),.bool false]) :=
 ⟨sA,sX,X.2.2.1,sR,false,rfl,h.le0,nofun,fun it a e=>(no it a e).elim⟩
theorem w_eq {w:ByteArray} {k:List UInt8}:(w.toList == (⟨⟨k⟩⟩:ByteArray).toList)=true↔bl w=k:=by
 rw [text_eq]
 constructor
 ·rintro rfl; rfl
 ·intro h; exact bl_inj h
theorem w_ne {w:ByteArray} {k:List UInt8} (h:(w.toList == (⟨⟨k⟩⟩:ByteArray).toList)=false):bl w≠k:=fun e=>by
 rw [w_eq.2 e] at h; cases h
theorem is_len {t:SlV} {L:List Tx} (h:t.n=L.length) {k:Nat} (e:((t.n:Int) == (k:Int))=true):L.length=k:=by
 have:(t.n:Int)=k:=by simpa using e
 omega
theorem not_len {t:SlV} {L:List Tx} (h:t.n=L.length) {k:Nat} (e:((t.n:Int) == (k:Int))=false):L.length≠k:=by
 have:¬ (t.n:Int)=k:=by simpa using e
 omega
theorem rest_words {y:DRest} (h:ResP y):cutB 32 (ofL (bl (restX y)))=[(y.1,()),(ratX y.2,())]:=by
 rw [of_bl]
 refine cutB_eq (restX_bl y) (by simp) fun x hx=>?_
 rcases List.mem_cons.1 hx with rfl | hx
 ·exact(known_space h.1).1
 ·obtain rfl:x=(ratX y.2,()):=by simpa using hx
  exact(ratX_no h.2).1
theorem acct_words {y:DAcct} (h:WordP y.1) (k:MoneyOkP y.2.1 y.2.2.1 y.2.2.2.1):cutB 32 (ofL (lnB (.a y)))=[(y.1,()),(y.2.1,()),(decT y.2.2.1 y.2.2.2.1 (places y.2.1),())]:=by
 have e:bl (ofL (lnB (.a y)))=bl y.1++32 :: bl (moneyT y.2.1 y.2.2.1 y.2.2.2.1):=bl_of _
 rw [cut_head e (word_no10 h (by decide)),of_bl,of_bl,money_cut k]
variable {V0 V:Know} {X:DLedger} {sA sX sR:SlV} {fA fX fR:List Nat} {line w:ByteArray} {t:SlV} {W:List Tx} {f:List Nat}
theorem l24X_wp {Vd:Know} (h:W24 V0 V X sA sX sR fA fX fR line w t W f) (only:∀ it,LnP it→lnT it=line→∃ y,it=.x y) :
  (l24X (sA,sX,X.2.2.1,sR,()) w t).wp Tryz.prog (fun V' vs=>SlPost V0 X line V' (packed vs)) V Vd []:=by
 simp only [l24X,ap_d,T.wp,if_true]
 have hn:=h.T.1
 have htl:=led_tot X
 have hs:=h.s
 have ht:=h.t'
 have hz:=h.z
 refine⟨fun hw=>⟨fun h2=>?_,fun h2=>h.fail fun it a e=>?_⟩,fun hw=>h.fail fun it a e=>?_⟩
 ·have hlen:=is_len (k:=2) hn h2
  obtain⟨p,q,e⟩:∃ p q,W=[(p,()),(q,())]:=by
   match W,hlen with
   | [p,q],_=>exact⟨p.1,q.1,rfl⟩
  have hT:=h.T
  have hk:=h.k
  subst e
  rw [sumT_cons,sumT_cons] at hz
  simp only [List.length_cons,List.length_nil] at hz
  have hws:w.size=4:=by rw [← bl_len,w_eq.1 hw]; rfl
  obtain⟨b,o,ha,ld1⟩:=hT.atK (i:=1) (x:=(q,())) rfl
  obtain⟨b',o',ha',ld0⟩:=hT.atK (i:=0) (x:=(p,())) rfl
  rw [ha] at ha'
  cases ha'
  rw [ha]
  have hn2:(t.n:Int)=2:=by rw [hn]; rfl
  refine⟨_,rfl,by decide,by omega,q,ld1,(cS_TextRat V q (by omega)).mono ?_⟩
  rintro V2 _ ⟨le2,⟨c0,c1,c2,cu⟩,x,f2,ok,rfl,R2,O2,hx⟩
  have leA:=h.le0.trans le2
  have hO2:=own_more (h.O.perm (g:=(fA++fR)++fX) (by rw [List.append_assoc]; exact List.Perm.append_left _ List.perm_append_comm)) O2 h.le0 le2
  rw [List.append_assoc] at hO2
  obtain⟨GA,GX,GR'⟩:=h.L
  have hrow:rRest.R V2 (p,c0,c1,c2,()) (p,x) f2:=⟨⟨rfl,by show p.size≤_; omega⟩,R2⟩
  refine⟨nofun,((c0,c1,c2,()),ok,()),rfl,_,rfl,by decide,by omega,p,loadV_mono le2 ld0,rfl,rfl,?_⟩
  refine ap_among (r:=rRest) (c:=(p,c0,c1,c2,())) (x:=(p,x)) (g:=fA++fR) (GX.le le2) hrow hO2 leA (by kernel_rfl) (by omega) (by omega) fun s3 V3 f3 G3 O3 le3 hg=>?_
  have dn:∀ it,LnP it→lnT it=line→ok=true∧stepL X (.x (p,x))=stepL X it:=fun it a e=>by
   obtain⟨y,rfl⟩:=only it a e
   have:=(hk _ a e).2
   rw [show lnB (.x y)=bl (restX y) from rfl,rest_words a] at this
   simp only [List.cons.injEq,Prod.mk.injEq,and_true] at this
   obtain⟨rfl,rfl⟩:=this
   rcases hx with ⟨k1,k2,k3⟩ | ⟨_,_,k3⟩
   ·exact⟨k1,by rw [ratX_inj k2 a.2 k3]⟩
   ·exact absurd ⟨y.2,a.2,rfl⟩ k3
  refine⟨sA,s3,X.2.2.1,sR,ok,rfl,le3,fun hok=>⟨stepL X (.x (p,x)),fA,f3,fR,rfl,⟨(GA.le le2).loc fun y hy=>hg y (by simp [hy]),G3,(GR'.le le2).loc fun y hy=>hg y (by simp [hy])⟩,(O3.perm (by rw [List.append_assoc]; exact List.Perm.append_left _ List.perm_append_comm)),?_,fun it a e=>(dn it a e).2⟩,fun it a e=>(dn it a e).1⟩
  rw [step_x,qrest_tot]
  rcases hx with ⟨_,k2,k3⟩ | ⟨k1,_⟩
  ·have:=ratX_len k2
   rw [k3] at this
   show rLedger.tot X+1+(p.size+x.2.1.length+x.2.2.1.length)≤_
   omega
  ·rw [k1] at hok; cases hok
 ·obtain⟨y,rfl⟩:=only it a e
  have:=(h.k _ a e).2
  rw [show lnB (.x y)=bl (restX y) from rfl,rest_words a] at this
  exact not_len (k:=2) hn h2 (by rw [this]; rfl)
 ·obtain⟨y,rfl⟩:=only it a e
  exact w_ne hw (h.k _ a e).1
theorem l24A_wp {Vd:Know} (h:W24 V0 V X sA sX sR fA fX fR line w t W f) (only:∀ it,LnP it→lnT it=line→(∃ y,it=.a y)∨∃ y,it=.x y) :
  (l24A (sA,sX,X.2.2.1,sR,()) w t).wp Tryz.prog (fun V' vs=>SlPost V0 X line V' (packed vs)) V Vd []:=by
 simp only [l24A,ap_d,T.wp,if_true]
 have hn:=h.T.1
 have htl:=led_tot X
 have hs:=h.s
 have ht:=h.t'
 have hz:=h.z
 refine⟨fun hw=>⟨fun h2=>?_,fun h2=>l24X_wp h fun it a e=>?_⟩,fun hw=>l24X_wp h fun it a e=>?_⟩
 ·have hlen:=is_len (k:=3) hn h2
  obtain⟨p,q,r,e⟩:∃ p q r,W=[(p,()),(q,()),(r,())]:=by
   match W,hlen with
   | [p,q,r],_=>exact⟨p.1,q.1,r.1,rfl⟩
  have hT:=h.T
  have hk:=h.k
  subst e
  rw [sumT_cons,sumT_cons,sumT_cons] at hz
  simp only [List.length_cons,List.length_nil] at hz
  have hws:w.size=4:=by rw [← bl_len,w_eq.1 hw]; rfl
  obtain⟨b,o,ha,ld1⟩:=hT.atK (i:=1) (x:=(q,())) rfl
  obtain⟨b',o',ha',ld0⟩:=hT.atK (i:=0) (x:=(p,())) rfl
  rw [ha] at ha'
  cases ha'
  obtain⟨b',o',ha',ld2⟩:=hT.atK (i:=2) (x:=(r,())) rfl
  rw [ha] at ha'
  cases ha'
  rw [ha]
  have hn2:(t.n:Int)=3:=by rw [hn]; rfl
  have zq:(q++(⟨#[32]⟩:ByteArray)).size=q.size+1:=by rw [ByteArray.size_append]; rfl
  have zqr:(q++(⟨#[32]⟩:ByteArray)++r).size=q.size+1+r.size:=by rw [ByteArray.size_append,zq]
  refine⟨_,rfl,by decide,by omega,q,ld1,(by show q.size+1≤_; omega),_,rfl,by decide,by omega,r,ld2,?_,(cS_TextMoney V (q++(⟨#[32]⟩:ByteArray)++r) (by omega)).mono ?_⟩
  ·show(q++(⟨#[32]⟩:ByteArray)).size+r.size≤_
   omega
  rintro V2 _ ⟨le2,c,n,t2,o2,f2,ok,rfl,L2,O2,hz2,hc⟩
  have leA:=h.le0.trans le2
  have hO2:=own_more (h.O.perm (g:=(fX++fR)++fA) List.perm_append_comm) O2 h.le0 le2
  rw [List.append_assoc] at hO2
  obtain⟨GA,GX,GR'⟩:=h.L
  have hrow:rAcct.R V2 (p,c,n,t2,()) (p,c,n,o2,()) f2:=⟨⟨rfl,by show p.size≤_; omega⟩,⟨rfl,by show c.size≤_; omega⟩,rfl,f2,[],(List.append_nil f2).symm,L2,rfl⟩
  refine⟨nofun,((c,n,t2,()),ok,()),rfl,_,rfl,by decide,by omega,p,loadV_mono le2 ld0,rfl,rfl,?_⟩
  refine ap_among (r:=rAcct) (c:=(p,c,n,t2,())) (x:=(p,c,n,o2,())) (g:=fX++fR) (GA.le le2) hrow hO2 leA (by kernel_rfl) (by omega) (by omega) fun s3 V3 f3 G3 O3 le3 hg=>?_
  have dn:∀ it,LnP it→lnT it=line→ok=true∧stepL X (.a (p,c,n,o2,()))=stepL X it:=fun it a e=>by
   rcases only it a e with ⟨y,rfl⟩ | ⟨y,rfl⟩
   ·have:=(hk _ a e).2
    rw [acct_words a.1 a.2] at this
    simp only [List.cons.injEq,Prod.mk.injEq,and_true] at this
    obtain⟨rfl,rfl,rfl⟩:=this
    obtain⟨j1,j2,j3,j4⟩:=hc y.2.1 y.2.2.1 y.2.2.2.1 a.2 rfl
    refine⟨j1,?_⟩
    obtain⟨y0,y1,y2,y3,yu⟩:=y
    subst j2 j3 j4
    rfl
   ·have:=(hk _ a e).1
    rw [w_eq.1 hw] at this
    exact absurd this (by show ¬ kwA=kwX; decide)
  refine⟨s3,sX,X.2.2.1,sR,ok,rfl,le3,fun hok=>⟨stepL X (.a (p,c,n,o2,())),f3,fX,fR,rfl,⟨G3,(GX.le le2).loc fun y hy=>hg y (by simp [hy]),(GR'.le le2).loc fun y hy=>hg y (by simp [hy])⟩,(O3.perm List.perm_append_comm),?_,fun it a e=>(dn it a e).2⟩,fun it a e=>(dn it a e).1⟩
  rw [step_a,qacct_tot]
  show rLedger.tot X+1+(p.size+c.size+o2.length)≤_
  omega
 ·rcases only it a e with ⟨y,rfl⟩ | k
  ·have:=(h.k _ a e).2
   rw [acct_words a.1 a.2] at this
   exact absurd (by rw [this]; rfl) (not_len (k:=3) hn h2)
  ·exact k
 ·rcases only it a e with ⟨y,rfl⟩ | k
  ·exact absurd (h.k _ a e).1 (w_ne hw)
  ·exact k
theorem l24R_wp {Vd:Know} (h:W24 V0 V X sA sX sR fA fX fR line w t W f) (only:∀ it,LnP it→lnT it=line→(∃ y,it=.r y)∨(∃ y,it=.a y)∨∃ y,it=.x y) :
  (l24R (sA,sX,X.2.2.1,sR,()) w t).wp Tryz.prog (fun V' vs=>SlPost V0 X line V' (packed vs)) V Vd []:=by
 simp only [l24R,ap_d,T.wp]
 have hn:=h.T.1
 have htl:=led_tot X
 have hs:=h.s
 have ht:=h.t'
 have hz:=h.z
 refine⟨fun hw=>?_,fun hw=>l24A_wp h fun it a e=>?_⟩
 ·have hws:w.size=4:=by rw [← bl_len,w_eq.1 hw]; rfl
  have hj:=joinT_size W ⟨#[32]⟩
  have e1:(⟨#[32]⟩:ByteArray).size=1:=rfl
  rw [e1,Nat.mul_one] at hj
  refine(cS_Join V t W f ⟨#[32]⟩ h.T (by rw [e1,Nat.mul_one]; omega)).mono ?_
  rintro _ _ ⟨rfl,rfl⟩
  refine⟨nofun,_,rfl,(cS_TextRate _ (joinT W ⟨#[32]⟩) (by omega)).mono ?_⟩
  rintro V2 _ ⟨le2,x,t2,f2,ok,rfl,L2,O2,hz2,hc⟩
  have leA:=h.le0.trans le2
  have hO2:=own_more (F:=(fA++fX)++fR) (by rw [List.append_assoc]; exact h.O) O2 h.le0 le2
  rw [List.append_assoc] at hO2
  obtain⟨GA,GX,GR'⟩:=h.L
  have hrow:rRate.R V2 (x.1,x.2.1,x.2.2.1,t2,x.2.2.2.2.1,()) x f2:=⟨⟨rfl,by omega⟩,⟨rfl,by omega⟩,rfl,f2,[],(List.append_nil f2).symm,L2,rfl,rfl⟩
  refine⟨nofun,((x.1,x.2.1,x.2.2.1,t2,x.2.2.2.2.1,()),ok,()),rfl,rfl,rfl,?_⟩
  refine ap_among (r:=rRate) (c:=(x.1,x.2.1,x.2.2.1,t2,x.2.2.2.2.1,())) (x:=x) (g:=fA++fX) (GR'.le le2) hrow hO2 leA (by kernel_rfl) (by omega) (by omega) fun s3 V3 f3 G3 O3 le3 hg=>?_
  have dn:∀ it,LnP it→lnT it=line→ok=true∧stepL X (.r x)=stepL X it:=fun it a e=>by
   have hk:=h.k _ a e
   rcases only it a e with ⟨y,rfl⟩ | ⟨y,rfl⟩ | ⟨y,rfl⟩
   ·have e2:joinT W ⟨#[32]⟩=rateT y:=by
     rw [hk.2,joinT_cut]
     exact of_bl _
    obtain⟨j1,rfl⟩:=hc y a e2.symm
    exact⟨j1,rfl⟩
   ·have:=hk.1
    rw [w_eq.1 hw] at this
    exact absurd this (by show ¬ kwR=kwA; decide)
   ·have:=hk.1
    rw [w_eq.1 hw] at this
    exact absurd this (by show ¬ kwR=kwX; decide)
  refine⟨sA,sX,X.2.2.1,s3,ok,rfl,le3,fun hok=>⟨stepL X (.r x),fA,fX,f3,rfl,⟨(GA.le le2).loc fun y hy=>hg y (by simp [hy]),(GX.le le2).loc fun y hy=>hg y (by simp [hy]),G3⟩,(by rw [← List.append_assoc]; exact O3),?_,fun it a e=>(dn it a e).2⟩,fun it a e=>(dn it a e).1⟩
  rw [step_r,qrate_tot]
  omega
 ·rcases only it a e with ⟨y,rfl⟩ | k
  ·exact absurd (h.k _ a e).1 (w_ne hw)
  ·exact k
theorem cS_l24Line (le0:V0.le V) (L:Ls V X sA sX sR fA fX fR) (O:Own V0 V (fA++(fX++fR))) (line:ByteArray) (hs:line.size≤1048576) (ht:rLedger.tot X≤1048576) :
  CallX Tryz.prog V 67 [qv3 (sA,sX,X.2.2.1,sR,()),.string line] (SlPost V0 X line):=by
 refine CallX.of_fits Tryz.mix (fS_l24Line _ _) fun _=>?_
 unfold tS_l24Line
 change CallX _ _ _ _ (fun V' r=>_∧∃ y1,_∧CallX _ _ _ _ (fun V'' r2=>_∧∃ y2:qy6,_∧(_→(_→∃ ad,_∧_∧_∧∃ y4,_∧SlPost V0 X line V'' (packed [qv3 (sA,sX,y4,sR,()),.bool true]))∧(_→T.wp _ _ (l24R (sA,sX,X.2.2.1,sR,()) y2.fst y2.2.1) _ _ _))∧(_→T.wp _ _ (l24R (sA,sX,X.2.2.1,sR,()) y2.fst y2.2.1) _ _ _)))
 refine(cS_Cut V line hs).mono ?_
 rintro Va _ ⟨le1,t,f,rfl,L1,O1⟩
 refine⟨nofun,t,rfl,(cS_l22Take Va t _ f L1).mono ?_⟩
 rintro V1 _ ⟨rfl,t',f',rfl,L2⟩
 have hsum:=sumT_cut 32 line
 have hw:W24 V0 V1 X sA sX sR fA fX fR line (headT (cutB 32 line)) t' (cutB 32 line).tail f':=by
  refine⟨le0.trans le1,L.le le1,O.post le1,L2,fun it a e=>?_,?_,hs,ht⟩
  ·have:cutB 32 line=(ofL (lnK it),()) :: cutB 32 (ofL (lnB it)):=cut_head (by rw [← e]; exact lnT_bl it) (lnK_no it)
   rw [this]
   exact⟨bl_of _,rfl⟩
  ·have hp:=cutB_pos 32 line
   cases hc:cutB 32 line with
   | nil=>rw [hc] at hp; simp at hp
   | cons x r =>
    rw [hc,sumT_cons,List.length_cons] at hsum
    show sumT r+r.length+x.1.size≤_
    omega
 generalize headT (cutB 32 line)=w at hw
 generalize (cutB 32 line).tail=W at hw L2
 have hn:=L2.1
 refine⟨nofun,(w,t',()),rfl,fun hP=>⟨fun h1=>?_,fun h1=>l24R_wp hw fun it a e=>?_⟩,fun hP=>l24R_wp hw fun it a e=>?_⟩
 ·have hlen:=is_len (k:=1) hn h1
  obtain⟨p,e⟩:∃ p,W=[(p,())]:=by
   match W,hlen with
   | [p],_=>exact⟨p.1,rfl⟩
  subst e
  have hz:=hw.z
  rw [sumT_cons] at hz
  obtain⟨b,o,ha,ld0⟩:=L2.atK (i:=0) (x:=(p,())) rfl
  have hn2:(t'.n:Int)=1:=by rw [hn]; rfl
  refine⟨_,ha,by decide,(by show(0:Int)<(t'.n:Int); omega),p,ld0,sA,sX,p,sR,true,rfl,hw.le0,fun _=>⟨stepL X (.p p),fA,fX,fR,rfl,hw.L,hw.O,?_,fun it a e=>?_⟩,fun _ _ _=>rfl⟩
  ·have:=step_p X p
   have hz':p.size+sumT []+1+w.size≤line.size:=hz
   omega
  ·obtain⟨k1,k2⟩:=hw.k it a e
   rw [w_eq.1 hP] at k1
   cases it with
   | p x =>
    have e2:cutB 32 (ofL (lnB (.p x)))=[(x,())]:=by
     show cutB 32 (ofL (bl x))=_
     rw [of_bl]
     refine cutB_eq rfl (by simp) fun y hy=>?_
     obtain rfl:y=(x,()):=by simpa using hy
     exact(known_space a).1
    rw [e2] at k2
    simp only [List.cons.injEq,Prod.mk.injEq,and_true] at k2
    rw [k2]
   | r x=>exact absurd k1 (by show ¬ kwP=kwR; decide)
   | a x=>exact absurd k1 (by show ¬ kwP=kwA; decide)
   | x x=>exact absurd k1 (by show ¬ kwP=kwX; decide)
 ·cases it with
  | p x =>
   have k2:=(hw.k _ a e).2
   have e2:cutB 32 (ofL (lnB (.p x)))=[(x,())]:=by
    show cutB 32 (ofL (bl x))=_
    rw [of_bl]
    refine cutB_eq rfl (by simp) fun y hy=>?_
    obtain rfl:y=(x,()):=by simpa using hy
    exact(known_space a).1
   rw [e2] at k2
   exact absurd (by rw [k2]; rfl) (not_len (k:=1) hn h1)
  | r x=>exact .inl ⟨x,rfl⟩
  | a x=>exact .inr (.inl ⟨x,rfl⟩)
  | x x=>exact .inr (.inr ⟨x,rfl⟩)
 ·cases it with
  | p x=>exact absurd (hw.k _ a e).1 (w_ne hP)
  | r x=>exact .inl ⟨x,rfl⟩
  | a x=>exact .inr (.inl ⟨x,rfl⟩)
  | x x=>exact .inr (.inr ⟨x,rfl⟩)
end Go.Proofs.YtagkjnpggkmehaaGreatDoor
namespace Go.Proofs.YtagkjnpggkmehaaGreatDoor
open Sx
set_option maxRecDepth 100000
def RdLed (s:ByteArray) (x:DLedger) (ok:Bool):Prop:=(∀ y,LedgerOkP y→ledgerT y=s→ok=true∧x=y)∧(ok=true→LedgerOkP x∧ledgerT x=s)∧(ok=false→x=emptyL)
theorem rdLed_inj {s:ByteArray} {x y:DLedger} {a b:Bool} (h:RdLed s x a) (k:RdLed s y b):x=y∧a=b:=by
 cases a with
 | true =>
  obtain⟨h1,h2⟩:=h.2.1 rfl
  obtain⟨e1,e2⟩:=k.1 x h1 h2
  exact⟨e2.symm,e1.symm⟩
 | false =>
  cases b with
  | true =>
   obtain⟨h1,h2⟩:=k.2.1 rfl
   exact absurd (h.1 y h1 h2).1 (by decide)
  | false=>exact⟨(h.2.2 rfl).trans (k.2.2 rfl).symm,rfl⟩
theorem rdLed_tot {s:ByteArray} {x:DLedger} {a:Bool} (h:RdLed s x a):rLedger.tot x≤1048576:=by
 cases a with
 | true=>have:=ledger_tot (h.2.1 rfl).1; omega
 | false=>rw [h.2.2 rfl]; exact Nat.zero_le _
abbrev LdRd (V:Know) (s:ByteArray):Know→Value→Prop:=fun V' r=>V.le V'∧∃ c x f ok,r=.tuple #[qv3 c,.bool ok]∧rLedger.R V' c x f∧Own V V' f∧RdLed s x ok
theorem Ls.row {V:Know} {X:DLedger} {a x r:SlV} {fA fX fR:List Nat} (h:Ls V X a x r fA fX fR) (ht:rLedger.tot X≤1048576):rLedger.R V (a,x,X.2.2.1,r,()) X (fA++(fX++(fR++[]))):=by
 have htl:=led_tot X
 exact rSl.mk (h.1.lr (by omega)) (rSl.mk (h.2.1.lr (by omega)) (rStr.mk (by omega) (rSl.mk (h.2.2.lr (by omega)) rNil.mk)))
theorem Ls.empty {V:Know}:Ls V emptyL ⟨none,0,0⟩ ⟨none,0,0⟩ ⟨none,0,0⟩ [] [] []:=⟨GR.nil,GR.nil,GR.nil⟩
theorem ld_no {V V':Know} {s:ByteArray} (le:V.le V') (h:∀ y,LedgerOkP y→ledgerT y=s→False):LdRd V s V' (packed [qv3 (⟨none,0,0⟩,⟨none,0,0⟩,⟨#[]⟩,⟨none,0,0⟩,()),.bool false]) :=
 ⟨le,_,emptyL,_,false,rfl,Ls.empty.row (Nat.zero_le _),Own.nil,fun y a b=>(h y a b).elim,nofun,fun _=>rfl⟩
def Upto (s:ByteArray) (X:DLedger) (k:Nat):Prop:=rLedger.tot X≤sumS ((linesB s).take k)∧∀ Y,LedgerOkP Y→ledgerT Y=s→X=((itemsL Y).take k).foldl stepL emptyL
theorem Upto.start (s:ByteArray):Upto s emptyL 0:=⟨Nat.zero_le _,fun _ _ _=>rfl⟩
theorem upto_item {s:ByteArray} {k:Nat} {Y:DLedger} (a:LedgerOkP Y) (b:ledgerT Y=s) (hk:k<(linesB s).length):∃ it,LnP it∧lnT it=(linesB s)[k].1∧(itemsL Y)[k]?=some it:=by
 have e:=ledger_lines a
 rw [b] at e
 have hk':k<(itemsL Y).length:=by rw [e,List.length_map] at hk; exact hk
 refine⟨(itemsL Y)[k],items_ok a _ (List.getElem_mem hk'),?_,List.getElem?_eq_getElem hk'⟩
 have:(linesB s)[k]?=some (lnTx (itemsL Y)[k]):=by rw [e,List.getElem?_map,List.getElem?_eq_getElem hk']; rfl
 rw [List.getElem?_eq_getElem hk] at this
 rw [Option.some.inj this]
theorem Upto.step {s:ByteArray} {X X':DLedger} {k:Nat} (h:Upto s X k) (hk:k<(linesB s).length) (ht:rLedger.tot X'≤rLedger.tot X+(linesB s)[k].1.size)
  (hs:∀ it,LnP it→lnT it=(linesB s)[k].1→X'=stepL X it):Upto s X' (k+1):=by
 refine⟨?_,fun Y a b=>?_⟩
 ·rw [sumS_take hk]
  have:=h.1; omega
 ·obtain⟨it,p,e,hi⟩:=upto_item a b hk
  obtain⟨hk',hi'⟩:=List.getElem?_eq_some_iff.1 hi
  have:(itemsL Y).take (k+1)=(itemsL Y).take k++[it]:=by rw [← hi']; simp
  rw [this,List.foldl_append,← h.2 Y a b]
  exact hs it p e
theorem Upto.stop {s:ByteArray} {X:DLedger} {k:Nat} (h:Upto s X k) (hk:(linesB s).length≤k):∀ Y,LedgerOkP Y→ledgerT Y=s→X=Y:=fun Y a b=>by
 have e:=ledger_lines a
 rw [b] at e
 rw [h.2 Y a b,List.take_of_length_le (by rw [e,List.length_map] at hk; exact hk),fold_items]
theorem Upto.small {s:ByteArray} {X:DLedger} {k:Nat} (h:Upto s X k):rLedger.tot X≤s.size:=by
 have:=sumS_le (linesB s) k
 have:=lines_sum s
 have:=h.1
 omega
theorem line_size {s:ByteArray} {k:Nat} (hk:k<(linesB s).length):(linesB s)[k].1.size≤s.size:=cutB_size (lines_mem (List.getElem_mem hk))
theorem lines_len (s:ByteArray):(linesB s).length≤s.size+1:=by
 have h:=cutB_len 10 s
 unfold linesB
 split
 ·rw [List.length_dropLast]; omega
 ·exact h
theorem text_self (s:ByteArray):(s.toList == s.toList)=true:=text_eq.2 rfl
theorem cI_TextLedger {V:Know} (hV:HrI V) (s:ByteArray) (hs:s.size≤1048576):CallX Tryz.prog V 25 [.string s] (LdRd V s):=by
 refine CallX.of_fits Tryz.mix (fI_TextLedger _) fun _=>?_
 simp only [tI_TextLedger,T.wp]
 refine(cI_Lines V s hs).mono ?_
 rintro V1 _ ⟨le1,t,f,rfl,L⟩
 have hn:=L.1
 have hlen:=lines_len s
 refine⟨nofun,t,rfl,fun h45=>ld_no le1 fun Y a b=>?_,fun h45 b2 hb2=>?_⟩
 ·have h1:(t.n:Int) > 45:=of_decide_eq_true h45
  have h2:=items_len a
  have e:=ledger_lines a
  rw [b] at e
  rw [e,List.length_map] at hn
  omega
 refine⟨fun y V'=>∃ (X:DLedger) (k:Nat),(y.1:Int)=(k:Int)∧k≤(linesB s).length∧Lb V1 V' b2 X∧Upto s X k,fun y _=>((linesB s).length-(y.1:Int)).toNat,
  ⟨((0:Int),()),rfl,emptyL,0,rfl,Nat.zero_le _,⟨kset_le hb2,⟨none,0,0⟩,⟨none,0,0⟩,⟨none,0,0⟩,[],[],[],kset_same,Ls.empty,own_one hb2 kset_same⟩,Upto.start s⟩,?_⟩
 rintro⟨(i:Int),u⟩ V2 ⟨X,k,hi,hk,hb,hu⟩
 replace hi:i=(k:Int):=hi
 subst hi
 have hsm:=hu.small
 refine⟨fun hlt=>?_,fun hge=>?_⟩
 ·have hk2:k<(linesB s).length:=by
   have:(k:Int)<(t.n:Int):=of_decide_eq_true hlt
   omega
  obtain⟨b,o,ha,hld⟩:=L.atK (List.getElem?_eq_getElem hk2)
  have hls:=line_size hk2
  dsimp only
  rw [ha,Int.toNat_natCast]
  refine⟨_,rfl,(by omega:(0:Int)≤(k:Int)),(by omega:(k:Int)<(t.n:Int)),(linesB s)[k].1,loadV_mono hb.1 hld,?_⟩
  refine(cI_readLine (hV.le le1) hb (linesB s)[k].1 (by omega) (by omega)).mono ?_
  rintro V3 _ ⟨ok,rfl,le3,hX,hc⟩
  refine⟨nofun,ok,rfl,fun hf=>ld_no (le1.trans le3) fun Y a e=>?_,fun ht=>?_⟩
  ·obtain⟨it,p,e2,_⟩:=upto_item a e hk2
   rw [hc it p e2] at hf; cases hf
  ·obtain⟨X',hb',ht',hs'⟩:=hX (by simpa using ht)
   refine⟨_,rfl,(((k+1:Nat):Int),()),?_,⟨X',k+1,rfl,hk2,hb',hu.step hk2 ht' hs'⟩,(by show(((linesB s).length:Int)-((k+1:Nat):Int)).toNat<(((linesB s).length:Int)-(k:Int)).toNat; omega)⟩
   rw [wrap_i64 (by omega)]
   rfl
 ·have hk2:(linesB s).length≤k:=by
   have:¬ (k:Int)<(t.n:Int):=of_decide_eq_false hge
   omega
  have done:=hu.stop hk2
  obtain⟨le2,sA,sX,sR,fA,fX,fR,hcb,hL,hO⟩:=hb
  have leA:=le1.trans le2
  have hld:∀ {V':Know},V2.le V'→loadV V' (⟨b2,0,none⟩:Addr) 4=some (lcells sA sX X.2.2.1 sR):=fun h=>(ld0 (h _ _ hcb) 0 4).trans rfl
  have hrow:=hL.row (by omega)
  refine⟨(sA,sX,X.2.2.1,sR,()),hld (Know.le.refl _),?_⟩
  refine(cI_LedgerOk (hV.le leA).1.c _ X _ hrow).mono ?_
  rintro V3 _ ⟨le3,e,rfl,he⟩
  refine⟨nofun,e,rfl,fun hf=>ld_no (leA.trans le3) fun Y a b=>?_,fun ht=>?_⟩
  ·rw [he.2 ((done Y a b).symm ▸ a)] at hf; cases hf
  have ok:=he.1 (by simpa using ht)
  refine⟨(sA,sX,X.2.2.1,sR,()),hld le3,?_⟩
  refine(cI_LedgerText (hV.le (leA.trans le3)).1 _ X _ (rLedger.le hrow le3) (by omega)).mono ?_
  rintro V4 _ ⟨le4,rfl⟩
  rw [okT_pos ok]
  have leB:=leA.trans (le3.trans le4)
  refine⟨nofun,_,rfl,fun hne=>ld_no leB fun Y a b=>?_,fun heq=>?_⟩
  ·rw [done Y a b,b,text_self] at hne; cases hne
  ·refine⟨(sA,sX,X.2.2.1,sR,()),hld (le3.trans le4),leB,_,X,_,true,rfl,rLedger.le (rLedger.le hrow le3) le4,?_,fun Y a b=>⟨rfl,done Y a b⟩,fun _=>⟨ok,?_⟩,nofun⟩
   ·rw [List.append_nil]
    exact((hO.sub (List.sublist_cons_self _ _)).post (le3.trans le4)).pre le1
   ·exact text_eq.1 (by simpa using heq)
theorem cS_TextLedger {V:Know} (_:HtS V) (s:ByteArray) (hs:s.size≤1048576):CallX Tryz.prog V 24 [.string s] (LdRd V s):=by
 refine CallX.of_fits Tryz.mix (fS_TextLedger _) fun _=>?_
 simp only [tS_TextLedger,T.wp]
 refine(cS_Lines V s hs).mono ?_
 rintro V1 _ ⟨le1,t,f,rfl,L⟩
 have hn:=L.1
 have hlen:=lines_len s
 refine⟨nofun,t,rfl,?_⟩
 refine⟨fun y V'=>V1.le V'∧∃ (X:DLedger) (k:Nat) (sA sX sR:SlV) (fA fX fR:List Nat),(y.1:Int)=(k:Int)∧y.2.2.2.2.2=(sA,sX,X.2.2.1,sR,())∧k≤(linesB s).length∧Ls V' X sA sX sR fA fX fR∧Own V1 V' (fA++(fX++fR))∧Upto s X k,fun y _=>((linesB s).length-(y.1:Int)).toNat,
  ⟨((0:Int),⟨none,0,0⟩,⟨none,0,0⟩,⟨#[]⟩,⟨none,0,0⟩,⟨none,0,0⟩,⟨none,0,0⟩,⟨#[]⟩,⟨none,0,0⟩,()),rfl,Know.le.refl _,emptyL,0,⟨none,0,0⟩,⟨none,0,0⟩,⟨none,0,0⟩,[],[],[],rfl,rfl,Nat.zero_le _,Ls.empty,Own.nil,Upto.start s⟩,?_⟩
 rintro⟨(i:Int),(y1:SlV),(y2:SlV),(y3:ByteArray),(y4:SlV),yl⟩ V2 ⟨le2,X,k,sA,sX,sR,fA,fX,fR,hi,hy,hk,hL,hO,hu⟩
 replace hi:i=(k:Int):=hi
 replace hy:yl=(sA,sX,X.2.2.1,sR,()):=hy
 subst hi hy
 have hsm:=hu.small
 refine⟨fun hlt=>?_,fun hge=>?_⟩
 ·have hk2:k<(linesB s).length:=by
   have:(k:Int)<(t.n:Int):=of_decide_eq_true hlt
   omega
  obtain⟨b,o,ha,hld⟩:=L.atK (List.getElem?_eq_getElem hk2)
  have hls:=line_size hk2
  dsimp only
  rw [ha,Int.toNat_natCast]
  refine⟨_,rfl,(by omega:(0:Int)≤(k:Int)),(by omega:(k:Int)<(t.n:Int)),(linesB s)[k].1,loadV_mono le2 hld,?_⟩
  refine(cS_l24Line le2 hL hO (linesB s)[k].1 (by omega) (by omega)).mono ?_
  rintro V3 _ ⟨a',x',p',c',ok,rfl,le3,hX,hc⟩
  refine⟨nofun,((a',x',p',c',()),ok,()),rfl,fun hf=>ld_no (le1.trans le3) fun Y a e=>?_,fun ht=>?_⟩
  ·obtain⟨it,p,e2,_⟩:=upto_item a e hk2
   have:=hc it p e2
   have hf':ok=false:=by simpa using hf
   rw [hf'] at this; cases this
  ·obtain⟨X',gA,gX,gR,rfl,hL',hO',ht',hs'⟩:=hX (by simpa using ht)
   refine⟨_,rfl,(((k+1:Nat):Int),y1,y2,y3,y4,a',x',X'.2.2.1,c',()),?_,⟨le3,X',k+1,a',x',c',gA,gX,gR,rfl,rfl,hk2,hL',hO',hu.step hk2 ht' hs'⟩,(by show(((linesB s).length:Int)-((k+1:Nat):Int)).toNat<(((linesB s).length:Int)-(k:Int)).toNat; omega)⟩
   dsimp only
   rw [wrap_i64 (by omega)]
   rfl
 ·have hk2:(linesB s).length≤k:=by
   have:¬ (k:Int)<(t.n:Int):=of_decide_eq_false hge
   omega
  have done:=hu.stop hk2
  have leA:=le1.trans le2
  have hrow:=hL.row (by omega)
  refine(cS_LedgerOk trivial _ X _ hrow).mono ?_
  rintro V3 _ ⟨le3,e,rfl,he⟩
  refine⟨nofun,e,rfl,fun hf=>ld_no (leA.trans le3) fun Y a b=>?_,fun ht=>?_⟩
  ·rw [he.2 ((done Y a b).symm ▸ a)] at hf; cases hf
  have ok:=he.1 (by simpa using ht)
  refine(cS_LedgerText trivial _ X _ (rLedger.le hrow le3) (by omega)).mono ?_
  rintro V4 _ ⟨le4,rfl⟩
  rw [okT_pos ok]
  have leB:=leA.trans (le3.trans le4)
  refine⟨nofun,_,rfl,fun hne=>ld_no leB fun Y a b=>?_,fun heq=>?_⟩
  ·rw [done Y a b,b,text_self] at hne; cases hne
  ·refine⟨leB,_,X,_,true,rfl,rLedger.le (rLedger.le hrow le3) le4,?_,fun Y a b=>⟨rfl,done Y a b⟩,fun _=>⟨ok,?_⟩,nofun⟩
   ·rw [List.append_nil]
    exact(hO.post (le3.trans le4)).pre le1
   ·exact text_eq.1 (by simpa using heq)
end Go.Proofs.YtagkjnpggkmehaaGreatDoor
