/-
  From what a law's row reads of its arguments to rows and lists that lie in memory.
-/
import Derived.Test.YtagkjnpggkmehaaGreatDoorMkB
import Derived.Test.YtagkjnpggkmehaaGreatDoorMap
import Derived.Test.YtagkjnpggkmehaaGreatDoorLnL
import Derived.Test.YtagkjnpggkmehaaGreatDoorMath
import Derived.Test.YtagkjnpggkmehaaGreatDoorChecked
import Derived.ChangeArms
import Derived.Lib.LaidTab
namespace Go.Proofs.YtagkjnpggkmehaaGreatDoor
open Sx
set_option maxRecDepth 100000
theorem load_le {V V':Know} (hle:V.le V') {a:Addr} {n:Nat} {l:List Value} (h:loadV V a n=some l):loadV V' a n=some l:=by
 obtain⟨b,o,sp⟩:=a
 cases sp with
 | some _=>simp [loadV] at h
 | none =>
  simp only [loadV] at h ⊢
  cases hb:V b with
  | none=>rw [hb] at h; cases h
  | some y=>rw [hle b y hb]; rw [hb] at h; exact h
theorem held_lp {sh:List Sc} {α:Type} {P:Program} {K:Know→List Value→Prop} {V V0:Know} (r:Rp sh α) (m:Mk α) {s:SlV} {l:List α} {f:List Nat} {k0:Int} {row:LShs [.o (.o (.i .i64)),.o (.o (.i .i64))]→T}
  (h:LR r V s l f) (hk0:0≤k0) (hk1:k0+cntE m l≤4611686018427387904) (hm:okE m k0 l)
  (hrow:∀ (N:List LV→Know→Prop) (V1:Know) (j:Nat) (x:α) (k:Int) (b o:Nat) (c:Scs sh) (w:List Nat),s.a=some ⟨b,o,none⟩→(j:Int)<(s.n:Int)→0≤k→k+m.cnt x≤4611686018427387904 →
   (∀ (V2:Know) (a:Addr) (o' n:Nat) (l':List Value),V1.le V2→a=⟨b,o+j*sh.length+o',none⟩→cutv (Scs.vals sh c) o' n=some l'→loadV V2 a n=some l')→r.R V1 c x w→m.ok k x →
   (∀ V2,V1.le V2→N [.v (.int .i64 (k+m.cnt x)),.v (.int .i64 (IntKind.i64.wrap ((j:Int)+1)))] V2)→(row (k,(j:Int),())).wp P K V1 V1 [N])
  (hend:∀ V1,V.le V1→K V1 [.int .i64 (k0+cntE m l)]) :
  (T.lp [.o (.o (.i .i64)),.o (.o (.i .i64))] [.v (.int .i64 k0),.v (.int .i64 (0:Int))] fun y=>.br (decide (y.2.1<(s.n:Int))) (row y) (.ret [.int .i64 y.1])).wp P K V V0 []:=by
 have hn:=h.1
 have key:∀ (l:List α) (k:Int) (j:Nat) (hj:j<l.length),okE m k l→k+cntE m l≤4611686018427387904→m.ok (k+cntE m (l.take j)) l[j]∧k+cntE m (l.take j)+m.cnt l[j]≤4611686018427387904:=by
  intro l
  induction l with
  | nil=>intro k j hj; simp at hj
  | cons x l ih =>
   intro k j hj hm hk
   have hc:cntE m (x :: l)=m.cnt x+cntE m l:=rfl
   rw [hc] at hk
   cases j with
   | zero =>
    have e:k+((cntE m (List.take 0 (x :: l)):Nat):Int)=k:=by simp [cntE]
    rw [e]
    exact⟨hm.1,by show k+((m.cnt x:Nat):Int)≤_; omega⟩
   | succ j =>
    have e:cntE m (List.take (j+1) (x :: l))=m.cnt x+cntE m (l.take j):=rfl
    obtain⟨q1,q2⟩:=ih (k+m.cnt x) j (by simpa using hj) hm.2 (by omega)
    have e2:k+((cntE m (List.take (j+1) (x :: l)):Nat):Int)=k+m.cnt x+cntE m (l.take j):=by rw [e]; omega
    rw [e2]
    exact⟨q1,q2⟩
 simp only [T.wp]
 refine⟨fun y V'=>V.le V'∧∃ i:Nat,y.2.1=(i:Int)∧i≤l.length∧y.1=k0+cntE m (l.take i),fun y _=>((l.length:Int)-(y.2.1:Int)).toNat,⟨(k0,(0:Int),()),rfl,Know.le.refl _,0,rfl,Nat.zero_le _,by simp [cntE]⟩,?_⟩
 rintro⟨(q:Int),(i:Int),u⟩ V' ⟨hle,j,hj,hjl,hq⟩
 replace hj:i=(j:Int):=hj
 replace hq:q=k0+cntE m (l.take j):=hq
 subst hj hq
 have h63:=h.2.2.1
 refine⟨fun hlt=>?_,fun hge=>?_⟩
 ·have hi:j<l.length:=by
   have:(j:Int)<(s.n:Int):=of_decide_eq_true hlt
   omega
  obtain⟨k1,k2⟩:=key l k0 j hi hm hk1
  obtain⟨b,o,c,w,ha,part,hR,_⟩:=(h.le hle).part hi
  refine hrow _ V' j l[j] _ b o c w ha (by omega) (by omega) k2 (fun V2 a o' n l' le2 ea hc=>?_) hR k1 fun V2 le2=>?_
  ·rw [ea]
   have:=part o' n l' hc
   simp only [addr_add_eq] at this
   exact load_le le2 this
  ·refine⟨(k0+cntE m (l.take (j+1)),((j+1:Nat):Int),()),?_,⟨hle.trans le2,j+1,rfl,hi,rfl⟩,?_⟩
   ·rw [nxt hi (by omega),List.take_succ_eq_append_getElem hi,cntE_snoc]
    have e:k0+((cntE m (l.take j):Nat):Int)+((m.cnt l[j]:Nat):Int)=k0+((cntE m (l.take j)+m.cnt l[j]:Nat):Int):=by omega
    rw [e]; rfl
   ·show((l.length:Int)-((j+1:Nat):Int)).toNat<((l.length:Int)-(j:Int)).toNat
    omega
 ·have hi:j=l.length:=by
   have:¬ (j:Int)<(s.n:Int):=of_decide_eq_false hge
   omega
  subst hi
  rw [List.take_length]
  exact hend V' hle
theorem cL_heldIntSL (V:Know) (s:SlV) (l:List Lim) (f:List Nat) (k:Int) (h:LR rI V s l f) (hk0:0≤k) (hk1:k+cntE mI l≤4611686018427387904) (hm:okE mI k l) :
  CallX Tryz.prog V 42 [Sc.val .l s,.int .i64 k] (fun V' r=>V.le V'∧r=.int .i64 (k+cntE mI l)):=(cL_heldIntS' V s l f k h hk0 hk1 hm).mono (by
 rintro V' r ⟨rfl,rfl⟩
 exact⟨Know.le.refl _,rfl⟩)
theorem cL_heldAcctS (V:Know) (s:SlV) (l:List DAcct) (f:List Nat) (k:Int) (h:LR rAcct V s l f) (hk0:0≤k) (hk1:k+cntE mAcct l≤4611686018427387904) (hm:okE mAcct k l) :
  CallX Tryz.prog V 138 [Sc.val .l s,.int .i64 k] (fun V' r=>V.le V'∧r=.int .i64 (k+cntE mAcct l)):=by
 refine CallX.of_fits Tryz.mix (fL_heldAcctS _ _) fun _=>?_
 simp only [tL_heldAcctS]
 refine held_lp rAcct mAcct h hk0 hk1 hm ?_ fun V1 h1=>⟨h1,rfl⟩
 rintro N V1 j ⟨x0,x1,x2,x3,xu⟩ k b o ⟨c0,c1,c2,c3,cu⟩ w a1 hj k0 kc hld hR hok hnext
 obtain⟨⟨ec0,zc0⟩,hR⟩:=hR
 replace ec0:c0=x0:=ec0
 subst ec0
 replace zc0:c0.size≤9223372036854775807:=zc0
 obtain⟨⟨ec1,zc1⟩,hR⟩:=hR
 replace ec1:c1=x1:=ec1
 subst ec1
 replace zc1:c1.size≤9223372036854775807:=zc1
 obtain⟨ec2,hR⟩:=hR
 replace ec2:c2=x2:=ec2
 subst ec2
 obtain⟨w3,wr3,ec3,sc3,hR⟩:=hR
 subst ec3
 replace sc3:LR rI _ c3 x3 w3:=sc3
 replace hR:_=[]:=hR
 subst hR
 replace kc:k+(((1+(1+(1+(cntE mI x3+0)))):Nat):Int)≤4611686018427387904:=kc
 obtain⟨ok0,hok⟩:=hok
 obtain⟨ok1,hok⟩:=hok
 obtain⟨ok2,hok⟩:=hok
 obtain⟨ok3,hok⟩:=hok
 simp only [T.wp]
 replace ok0:c0=mtext (k):=ok0
 subst ok0
 refine⟨_,a1,Int.natCast_nonneg j,hj,mtext (k),hld V1 _ 0 1 _ (Know.le.refl _) (by simp only [addr_add_eq,Int.toNat_natCast]; first | done | exact addr_at (by first | omega | (simp only [List.length_cons,List.length_nil]; first | done | omega))) rfl,(cL_markText V1 (k) (by omega)).mono ?_⟩
 rintro V2 _ ⟨le2,rfl,_⟩
 refine⟨fun _=>le2,_,rfl,fun hne=>by simp at hne,fun _=>?_⟩
 have v0:IntKind.i64.wrap (k+1)=k+1:=wrap_i64 (by omega)
 rw [v0]
 replace ok1:c1=mtext (k+1):=ok1
 subst ok1
 refine⟨_,a1,Int.natCast_nonneg j,hj,mtext (k+1),hld V2 _ 1 1 _ le2 (by simp only [addr_add_eq,Int.toNat_natCast]; first | done | exact addr_at (by first | omega | (simp only [List.length_cons,List.length_nil]; first | done | omega))) rfl,(cL_markText V2 (k+1) (by omega)).mono ?_⟩
 rintro V3 _ ⟨le3,rfl,_⟩
 refine⟨fun _=>le3,_,rfl,fun hne=>by simp at hne,fun _=>?_⟩
 have l3:=(le2).trans le3
 have v1:IntKind.i64.wrap (k+1+1)=k+1+1:=wrap_i64 (by omega)
 rw [v1]
 replace ok2:c2=(Int.tmod (k+1+1) 3 == 0):=ok2
 subst ok2
 refine⟨_,a1,Int.natCast_nonneg j,hj,(Int.tmod (k+1+1) 3 == 0),hld V3 _ 2 1 _ l3 (by simp only [addr_add_eq,Int.toNat_natCast]; first | done | exact addr_at (by first | omega | (simp only [List.length_cons,List.length_nil]; first | done | omega))) rfl,by decide,fun hne=>by simp at hne,fun _=>?_⟩
 have v2:IntKind.i64.wrap (k+1+1+1)=k+1+1+1:=wrap_i64 (by omega)
 rw [v2]
 replace ok3:okE mI (k+1+1+1) x3:=ok3
 refine⟨_,a1,Int.natCast_nonneg j,hj,c3,hld V3 _ 3 1 _ l3 (by simp only [addr_add_eq,Int.toNat_natCast]; first | done | exact addr_at (by first | omega | (simp only [List.length_cons,List.length_nil]; first | done | omega))) rfl,(cL_heldIntSL V3 c3 x3 w3 (k+1+1+1) (sc3.le l3) (by omega) (by omega) ok3).mono ?_⟩
 rintro V4 _ ⟨le4,rfl⟩
 have g4:¬ (k+1+1+1+((cntE mI x3:Nat):Int))<0:=by omega
 refine⟨nofun,_,rfl,fun hneg=>absurd (of_decide_eq_true hneg) g4,fun _=>?_⟩
 have l4:=(l3).trans le4
 have ek:k+1+1+1+((cntE mI x3:Nat):Int)=k+(((1+(1+(1+(cntE mI x3+0)))):Nat):Int):=by omega
 rw [ek]
 exact⟨_,rfl,hnext V4 l4⟩
theorem cL_heldRestS (V:Know) (s:SlV) (l:List DRest) (f:List Nat) (k:Int) (h:LR rRest V s l f) (hk0:0≤k) (hk1:k+cntE mRest l≤4611686018427387904) (hm:okE mRest k l) :
  CallX Tryz.prog V 11 [Sc.val .l s,.int .i64 k] (fun V' r=>V.le V'∧r=.int .i64 (k+cntE mRest l)):=by
 refine CallX.of_fits Tryz.mix (fL_heldRestS _ _) fun _=>?_
 simp only [tL_heldRestS]
 refine held_lp rRest mRest h hk0 hk1 hm ?_ fun V1 h1=>⟨h1,rfl⟩
 rintro N V1 j ⟨x0,x1,x2,x3,xu⟩ k b o ⟨c0,c1,c2,c3,cu⟩ w a1 hj k0 kc hld hR hok hnext
 obtain⟨⟨ec0,zc0⟩,hR⟩:=hR
 replace ec0:c0=x0:=ec0
 subst ec0
 replace zc0:c0.size≤9223372036854775807:=zc0
 obtain⟨ec1,hR⟩:=hR
 replace ec1:c1=x1:=ec1
 subst ec1
 obtain⟨w2,wr2,ec2,sc2,hR⟩:=hR
 subst ec2
 replace sc2:LR rI _ c2 x2 w2:=sc2
 obtain⟨w3,wr3,ec3,sc3,hR⟩:=hR
 subst ec3
 replace sc3:LR rI _ c3 x3 w3:=sc3
 replace hR:_=[]:=hR
 subst hR
 replace kc:k+(((1+(1+(cntE mI x2+(cntE mI x3+0)))):Nat):Int)≤4611686018427387904:=kc
 obtain⟨ok0,hok⟩:=hok
 obtain⟨ok1,hok⟩:=hok
 obtain⟨ok2,hok⟩:=hok
 obtain⟨ok3,hok⟩:=hok
 simp only [T.wp]
 replace ok0:c0=mtext (k):=ok0
 subst ok0
 refine⟨_,a1,Int.natCast_nonneg j,hj,mtext (k),hld V1 _ 0 1 _ (Know.le.refl _) (by simp only [addr_add_eq,Int.toNat_natCast]; first | done | exact addr_at (by first | omega | (simp only [List.length_cons,List.length_nil]; first | done | omega))) rfl,(cL_markText V1 (k) (by omega)).mono ?_⟩
 rintro V2 _ ⟨le2,rfl,_⟩
 refine⟨fun _=>le2,_,rfl,fun hne=>by simp at hne,fun _=>?_⟩
 have v0:IntKind.i64.wrap (k+1)=k+1:=wrap_i64 (by omega)
 rw [v0]
 replace ok1:c1=(Int.tmod (k+1) 3 == 0):=ok1
 subst ok1
 refine⟨_,a1,Int.natCast_nonneg j,hj,(Int.tmod (k+1) 3 == 0),hld V2 _ 1 1 _ le2 (by simp only [addr_add_eq,Int.toNat_natCast]; first | done | exact addr_at (by first | omega | (simp only [List.length_cons,List.length_nil]; first | done | omega))) rfl,by decide,fun hne=>by simp at hne,fun _=>?_⟩
 have v1:IntKind.i64.wrap (k+1+1)=k+1+1:=wrap_i64 (by omega)
 rw [v1]
 replace ok2:okE mI (k+1+1) x2:=ok2
 refine⟨_,a1,Int.natCast_nonneg j,hj,c2,hld V2 _ 2 1 _ le2 (by simp only [addr_add_eq,Int.toNat_natCast]; first | done | exact addr_at (by first | omega | (simp only [List.length_cons,List.length_nil]; first | done | omega))) rfl,(cL_heldIntSL V2 c2 x2 w2 (k+1+1) (sc2.le le2) (by omega) (by omega) ok2).mono ?_⟩
 rintro V3 _ ⟨le3,rfl⟩
 have g3:¬ (k+1+1+((cntE mI x2:Nat):Int))<0:=by omega
 refine⟨nofun,_,rfl,fun hneg=>absurd (of_decide_eq_true hneg) g3,fun _=>?_⟩
 have l3:=(le2).trans le3
 replace ok3:okE mI (k+1+1+((cntE mI x2:Nat):Int)) x3:=ok3
 refine⟨_,a1,Int.natCast_nonneg j,hj,c3,hld V3 _ 3 1 _ l3 (by simp only [addr_add_eq,Int.toNat_natCast]; first | done | exact addr_at (by first | omega | (simp only [List.length_cons,List.length_nil]; first | done | omega))) rfl,(cL_heldIntSL V3 c3 x3 w3 (k+1+1+((cntE mI x2:Nat):Int)) (sc3.le l3) (by omega) (by omega) ok3).mono ?_⟩
 rintro V4 _ ⟨le4,rfl⟩
 have g4:¬ (k+1+1+((cntE mI x2:Nat):Int)+((cntE mI x3:Nat):Int))<0:=by omega
 refine⟨nofun,_,rfl,fun hneg=>absurd (of_decide_eq_true hneg) g4,fun _=>?_⟩
 have l4:=(l3).trans le4
 have ek:k+1+1+((cntE mI x2:Nat):Int)+((cntE mI x3:Nat):Int)=k+(((1+(1+(cntE mI x2+(cntE mI x3+0)))):Nat):Int):=by omega
 rw [ek]
 exact⟨_,rfl,hnext V4 l4⟩
theorem cL_heldRateS (V:Know) (s:SlV) (l:List DRate) (f:List Nat) (k:Int) (h:LR rRate V s l f) (hk0:0≤k) (hk1:k+cntE mRate l≤4611686018427387904) (hm:okE mRate k l) :
  CallX Tryz.prog V 139 [Sc.val .l s,.int .i64 k] (fun V' r=>V.le V'∧r=.int .i64 (k+cntE mRate l)):=by
 refine CallX.of_fits Tryz.mix (fL_heldRateS _ _) fun _=>?_
 simp only [tL_heldRateS]
 refine held_lp rRate mRate h hk0 hk1 hm ?_ fun V1 h1=>⟨h1,rfl⟩
 rintro N V1 j ⟨x0,x1,x2,x3,x4,xu⟩ k b o ⟨c0,c1,c2,c3,c4,cu⟩ w a1 hj k0 kc hld hR hok hnext
 obtain⟨⟨ec0,zc0⟩,hR⟩:=hR
 replace ec0:c0=x0:=ec0
 subst ec0
 replace zc0:c0.size≤9223372036854775807:=zc0
 obtain⟨⟨ec1,zc1⟩,hR⟩:=hR
 replace ec1:c1=x1:=ec1
 subst ec1
 replace zc1:c1.size≤9223372036854775807:=zc1
 obtain⟨ec2,hR⟩:=hR
 replace ec2:c2=x2:=ec2
 subst ec2
 obtain⟨w3,wr3,ec3,sc3,hR⟩:=hR
 subst ec3
 replace sc3:LR rI _ c3 x3 w3:=sc3
 obtain⟨ec4,hR⟩:=hR
 replace ec4:c4=x4:=ec4
 subst ec4
 replace hR:_=[]:=hR
 subst hR
 replace kc:k+(((1+(1+(1+(cntE mI x3+(1+0))))):Nat):Int)≤4611686018427387904:=kc
 obtain⟨ok0,hok⟩:=hok
 obtain⟨ok1,hok⟩:=hok
 obtain⟨ok2,hok⟩:=hok
 obtain⟨ok3,hok⟩:=hok
 obtain⟨ok4,hok⟩:=hok
 simp only [T.wp]
 replace ok0:c0=mtext (k):=ok0
 subst ok0
 refine⟨_,a1,Int.natCast_nonneg j,hj,mtext (k),hld V1 _ 0 1 _ (Know.le.refl _) (by simp only [addr_add_eq,Int.toNat_natCast]; first | done | exact addr_at (by first | omega | (simp only [List.length_cons,List.length_nil]; first | done | omega))) rfl,(cL_markText V1 (k) (by omega)).mono ?_⟩
 rintro V2 _ ⟨le2,rfl,_⟩
 refine⟨fun _=>le2,_,rfl,fun hne=>by simp at hne,fun _=>?_⟩
 have v0:IntKind.i64.wrap (k+1)=k+1:=wrap_i64 (by omega)
 rw [v0]
 replace ok1:c1=mtext (k+1):=ok1
 subst ok1
 refine⟨_,a1,Int.natCast_nonneg j,hj,mtext (k+1),hld V2 _ 1 1 _ le2 (by simp only [addr_add_eq,Int.toNat_natCast]; first | done | exact addr_at (by first | omega | (simp only [List.length_cons,List.length_nil]; first | done | omega))) rfl,(cL_markText V2 (k+1) (by omega)).mono ?_⟩
 rintro V3 _ ⟨le3,rfl,_⟩
 refine⟨fun _=>le3,_,rfl,fun hne=>by simp at hne,fun _=>?_⟩
 have l3:=(le2).trans le3
 have v1:IntKind.i64.wrap (k+1+1)=k+1+1:=wrap_i64 (by omega)
 rw [v1]
 replace ok2:c2=(Int.tmod (k+1+1) 3 == 0):=ok2
 subst ok2
 refine⟨_,a1,Int.natCast_nonneg j,hj,(Int.tmod (k+1+1) 3 == 0),hld V3 _ 2 1 _ l3 (by simp only [addr_add_eq,Int.toNat_natCast]; first | done | exact addr_at (by first | omega | (simp only [List.length_cons,List.length_nil]; first | done | omega))) rfl,by decide,fun hne=>by simp at hne,fun _=>?_⟩
 have v2:IntKind.i64.wrap (k+1+1+1)=k+1+1+1:=wrap_i64 (by omega)
 rw [v2]
 replace ok3:okE mI (k+1+1+1) x3:=ok3
 refine⟨_,a1,Int.natCast_nonneg j,hj,c3,hld V3 _ 3 1 _ l3 (by simp only [addr_add_eq,Int.toNat_natCast]; first | done | exact addr_at (by first | omega | (simp only [List.length_cons,List.length_nil]; first | done | omega))) rfl,(cL_heldIntSL V3 c3 x3 w3 (k+1+1+1) (sc3.le l3) (by omega) (by omega) ok3).mono ?_⟩
 rintro V4 _ ⟨le4,rfl⟩
 have g4:¬ (k+1+1+1+((cntE mI x3:Nat):Int))<0:=by omega
 refine⟨nofun,_,rfl,fun hneg=>absurd (of_decide_eq_true hneg) g4,fun _=>?_⟩
 have l4:=(l3).trans le4
 replace ok4:c4=(k+1+1+1+((cntE mI x3:Nat):Int)):=ok4
 subst ok4
 refine⟨_,a1,Int.natCast_nonneg j,hj,(k+1+1+1+((cntE mI x3:Nat):Int)),hld V4 _ 4 1 _ l4 (by simp only [addr_add_eq,Int.toNat_natCast]; first | done | exact addr_at (by first | omega | (simp only [List.length_cons,List.length_nil]; first | done | omega))) rfl,fun hne=>by simp at hne,fun _=>?_⟩
 have v4:IntKind.i64.wrap (k+1+1+1+((cntE mI x3:Nat):Int)+1)=k+1+1+1+((cntE mI x3:Nat):Int)+1:=wrap_i64 (by omega)
 rw [v4]
 have ek:k+1+1+1+((cntE mI x3:Nat):Int)+1=k+(((1+(1+(1+(cntE mI x3+(1+0))))):Nat):Int):=by omega
 rw [ek]
 exact⟨_,rfl,hnext V4 l4⟩
theorem cL_heldBook (V:Know) (c0:SlV) (x0:List DAcct) (w0:List Nat) (k:Int) (s0:LR rAcct V c0 x0 w0) (hk0:0≤k) (hk1:(k+((cntE mAcct x0:Nat):Int))≤4611686018427387904) (ok0:okE mAcct k x0) :
  CallX Tryz.prog V 77 [qv5 (c0,()),.int .i64 k] (fun V' r=>V.le V'∧r=.int .i64 (k+((cntE mAcct x0:Nat):Int))):=by
 refine CallX.of_fits Tryz.mix (fL_heldBook _ _) fun _=>?_
 simp only [tL_heldBook,T.wp]
 refine(cL_heldAcctS V c0 x0 w0 k s0 (by omega) (by omega) ok0).mono ?_
 rintro V1 _ ⟨le1,rfl⟩
 have hneg1:¬ (k+((cntE mAcct x0:Nat):Int))<0:=by omega
 refine⟨nofun,_,rfl,fun hneg=>absurd (of_decide_eq_true hneg) hneg1,fun _=>?_⟩
 exact⟨le1,rfl⟩
theorem cL_heldRates (V:Know) (c0:ByteArray) (c1:SlV) (x1:List DRate) (w1:List Nat) (k:Int) (s1:LR rRate V c1 x1 w1) (hk0:0≤k) (hk1:(k+((cntE mRate x1:Nat):Int))≤4611686018427387904) (ok1:okE mRate k x1) :
  CallX Tryz.prog V 78 [qv7 (c0,c1,()),.int .i64 k] (fun V' r=>V.le V'∧r=.int .i64 (k+((cntE mRate x1:Nat):Int))):=by
 refine CallX.of_fits Tryz.mix (fL_heldRates _ _) fun _=>?_
 simp only [tL_heldRates,T.wp]
 refine(cL_heldRateS V c1 x1 w1 k s1 (by omega) (by omega) ok1).mono ?_
 rintro V1 _ ⟨le1,rfl⟩
 have hneg1:¬ (k+((cntE mRate x1:Nat):Int))<0:=by omega
 refine⟨nofun,_,rfl,fun hneg=>absurd (of_decide_eq_true hneg) hneg1,fun _=>?_⟩
 exact⟨le1,rfl⟩
theorem cL_heldLedger (V:Know) (c0:SlV) (c1:SlV) (c2:ByteArray) (c3:SlV) (x0:List DAcct) (x1:List DRest) (x3:List DRate) (w0:List Nat) (w1:List Nat) (w3:List Nat) (k:Int) (s0:LR rAcct V c0 x0 w0) (s1:LR rRest V c1 x1 w1) (s3:LR rRate V c3 x3 w3) (hk0:0≤k) (hk1:(((k+((cntE mAcct x0:Nat):Int))+((cntE mRest x1:Nat):Int))+((cntE mRate x3:Nat):Int))≤4611686018427387904) (ok0:okE mAcct k x0) (ok1:okE mRest (k+((cntE mAcct x0:Nat):Int)) x1) (ok3:okE mRate ((k+((cntE mAcct x0:Nat):Int))+((cntE mRest x1:Nat):Int)) x3) :
  CallX Tryz.prog V 28 [qv3 (c0,c1,c2,c3,()),.int .i64 k] (fun V' r=>V.le V'∧r=.int .i64 (((k+((cntE mAcct x0:Nat):Int))+((cntE mRest x1:Nat):Int))+((cntE mRate x3:Nat):Int))):=by
 refine CallX.of_fits Tryz.mix (fL_heldLedger _ _) fun _=>?_
 simp only [tL_heldLedger,T.wp]
 refine(cL_heldBook V c0 x0 w0 k s0 (by omega) (by omega) ok0).mono ?_
 rintro V1 _ ⟨le1,rfl⟩
 have hneg1:¬ (k+((cntE mAcct x0:Nat):Int))<0:=by omega
 refine⟨nofun,_,rfl,fun hneg=>absurd (of_decide_eq_true hneg) hneg1,fun _=>?_⟩
 replace s1:=s1.le le1
 replace s3:=s3.le le1
 refine(cL_heldRestS V1 c1 x1 w1 (k+((cntE mAcct x0:Nat):Int)) s1 (by omega) (by omega) ok1).mono ?_
 rintro V2 _ ⟨le2,rfl⟩
 have hneg2:¬ ((k+((cntE mAcct x0:Nat):Int))+((cntE mRest x1:Nat):Int))<0:=by omega
 refine⟨nofun,_,rfl,fun hneg=>absurd (of_decide_eq_true hneg) hneg2,fun _=>?_⟩
 replace s3:=s3.le le2
 have l2:=le1.trans le2
 refine(cL_heldRates V2 c2 c3 x3 w3 ((k+((cntE mAcct x0:Nat):Int))+((cntE mRest x1:Nat):Int)) s3 (by omega) (by omega) ok3).mono ?_
 rintro V3 _ ⟨le3,rfl⟩
 have hneg3:¬ (((k+((cntE mAcct x0:Nat):Int))+((cntE mRest x1:Nat):Int))+((cntE mRate x3:Nat):Int))<0:=by omega
 refine⟨nofun,_,rfl,fun hneg=>absurd (of_decide_eq_true hneg) hneg3,fun _=>?_⟩
 have l3:=l2.trans le3
 exact⟨l3,rfl⟩
end Go.Proofs.YtagkjnpggkmehaaGreatDoor
namespace Go.Proofs.YtagkjnpggkmehaaGreatDoor
open Sx
set_option maxRecDepth 100000
def MkH {sh:List Sc} {α:Type} (P:Program) (g gh:Nat) (r:Rp sh α):Prop:=∀ (V:Know) (c:Scs sh) (x:α) (f:List Nat) (k:Int),r.R V c x f→f.Nodup→Wr V f→r.tot x≤1048576→0≤k→k≤1152921504606846976 →
 CallX P V g [Sh1.val (.g sh) c,.int .i64 k] (fun V' v=>LeBut f V V'∧Wr V' f∧∃ n:Int,v=.int .i64 (k+n)∧0≤n∧n≤67108864 ∧
  ∀ V2,(∀ b∈f,V2 b=V' b)→CallX P V2 gh [Sh1.val (.g sh) c,.int .i64 k] (fun V3 v=>V2.le V3∧v=.int .i64 (k+n)))
theorem Wr.but {V V':Know} {f g:List Nat} (h:Wr V f) (d:∀ b∈f,b ∉ g) (B:LeBut g V V'):Wr V' f:=fun b hb=>by obtain⟨q1,q2,q3⟩:=h b hb; exact⟨q1,q2,B b _ (d b hb) q3⟩
theorem ke_le {V V1 V':Know} {f:List Nat} (W:Wr V1 f) (ke:∀ b∈f,V b=V1 b) (le:V.le V'):∀ b∈f,V' b=V1 b:=fun b hb=>by obtain⟨q1,q2,q3⟩:=W b hb; rw [le _ _ ((ke b hb).trans q3),q3]
theorem cntE_le {sh:List Sc} {α:Type} {r:Rp sh α} {m:Mk α} {K:Nat} (hK:∀ x,m.cnt x≤K*(1+r.tot x)):∀ l,cntE m l≤K*(l.length+totE r l)
 | []=>by simp [cntE]
 | x :: l=>by
  have ih:=cntE_le hK l
  have h1:=hK x
  simp only [cntE,totE,List.length_cons]
  have e:K*(l.length+1+(r.tot x+totE r l))=K*(1+r.tot x)+K*(l.length+totE r l):=by rw [← Nat.mul_add]; congr 1; omega
  omega
theorem cnt_Rest (x:DRest):mRest.cnt x≤6*(1+rRest.tot x):=by
 have e:mRest.cnt x=(1+(1+(cntE mI x.2.2.1+(cntE mI x.2.2.2.1+0)))):=rfl
 have e2:rRest.tot x=(x.1.size+(x.2.2.1.length+totE rI x.2.2.1+(x.2.2.2.1.length+totE rI x.2.2.2.1+0))):=rfl
 rw [e,e2]
 have q2:=cntE_int x.2.2.1
 have q3:=cntE_int x.2.2.2.1
 omega
theorem cnt_Acct (x:DAcct):mAcct.cnt x≤6*(1+rAcct.tot x):=by
 have e:mAcct.cnt x=(1+(1+(1+(cntE mI x.2.2.2.1+0)))):=rfl
 have e2:rAcct.tot x=(x.1.size+(x.2.1.size+(x.2.2.2.1.length+totE rI x.2.2.2.1+0))):=rfl
 rw [e,e2]
 have q3:=cntE_int x.2.2.2.1
 omega
theorem cnt_Rate (x:DRate):mRate.cnt x≤6*(1+rRate.tot x):=by
 have e:mRate.cnt x=(1+(1+(1+(cntE mI x.2.2.2.1+(1+0))))):=rfl
 have e2:rRate.tot x=(x.1.size+(x.2.1.size+(x.2.2.2.1.length+totE rI x.2.2.2.1+0))):=rfl
 rw [e,e2]
 have q3:=cntE_int x.2.2.2.1
 omega
theorem mkH_Ledger:MkH Tryz.prog 27 28 rLedger:=by
 rintro V ⟨c0,c1,c2,c3,cu⟩ ⟨x0,x1,x2,x3,xu⟩ f k hx nd hw ht k0 k1
 obtain⟨w0,z0,rfl,s0,hx⟩:=hx
 replace s0:LR rAcct V c0 x0 w0:=s0
 obtain⟨w1,z1,rfl,s1,hx⟩:=hx
 replace s1:LR rRest V c1 x1 w1:=s1
 obtain⟨⟨e2,_⟩,hx⟩:=hx
 replace e2:c2=x2:=e2
 subst e2
 obtain⟨w3,z3,rfl,s3,hx⟩:=hx
 replace s3:LR rRate V c3 x3 w3:=s3
 replace hx:_=[]:=hx
 subst hx
 have et:rLedger.tot (x0,x1,c2,x3,xu)=(x0.length+totE rAcct x0+(x1.length+totE rRest x1+(c2.size+(x3.length+totE rRate x3+0)))):=rfl
 rw [et] at ht
 have q0:=cntE_le cnt_Acct x0
 have q1:=cntE_le cnt_Rest x1
 have q3:=cntE_le cnt_Rate x3
 have n0:=List.nodup_append.1 nd
 have n1:=List.nodup_append.1 n0.2.1
 have n3:=List.nodup_append.1 n1.2.1
 refine(cL_markLedger V c0 c1 c2 c3 x0 x1 x3 w0 w1 w3 k s0 s1 s3 n0.1 (fun y hy=>hw y (by simp [hy])) n1.1 (fun y hy=>hw y (by simp [hy])) n3.1 (fun y hy=>hw y (by simp [hy])) (fun y hy hm=>n0.2.2 y hy y (by simp [hm]) rfl) (fun y hy hm=>n0.2.2 y hy y (by simp [hm]) rfl) (fun y hy hm=>n1.2.2 y hy y (by simp [hm]) rfl) k0 (by omega)).mono ?_
 rintro V1 _ ⟨hb,rfl,y0,y1,y3,⟨M0,W0,k0k,n0n⟩,⟨M1,W1,k1k,n1n⟩,⟨M3,W3,k3k,n3n⟩⟩
 refine⟨hb,fun y hy=>?_,((cntE mAcct x0:Nat):Int)+((cntE mRest x1:Nat):Int)+((cntE mRate x3:Nat):Int),congrArg (Value.int .i64) (by omega),by omega,by omega,fun V2 he=>?_⟩
 ·simp only [List.mem_append,List.not_mem_nil,or_false] at hy
  rcases hy with hy | hy
  ·exact W0 y hy
  rcases hy with hy | hy
  ·exact W1 y hy
  exact W3 y hy
 rw [← n0n] at k1k
 rw [← n0n,← n1n] at k3k
 have key:=cL_heldLedger V2 c0 c1 c2 c3 y0 y1 y3 w0 w1 w3 k (M0.loc fun y hy=>he y (by simp [hy])) (M1.loc fun y hy=>he y (by simp [hy])) (M3.loc fun y hy=>he y (by simp [hy])) k0 (by rw [n0n,n1n,n3n]; omega) k0k k1k k3k
 rw [n0n,n1n,n3n] at key
 refine key.mono ?_
 rintro V3 _ ⟨le3,rfl⟩
 exact⟨le3,congrArg (Value.int .i64) (by omega)⟩
end Go.Proofs.YtagkjnpggkmehaaGreatDoor
namespace Go.Proofs.YtagkjnpggkmehaaGreatDoor
open Sx
set_option maxRecDepth 100000
theorem law_TextLedger {V:Know} (hV:HrI V) (a0:ByteArray) :
  CallX Tryz.prog V 5 [.string a0] (fun V' r=>V.le V'∧r=.bool true):=by
 refine CallX.of_fits Tryz.mix (fL_FnExactTextLedger _) fun _=>?_
 simp only [tL_FnExactTextLedger,T.wp]
 refine⟨fun _=>⟨(Know.le.refl _),rfl⟩,fun hs0=>?_⟩
 have sz0:a0.size≤1048576:=by
  have:=of_decide_eq_false hs0
  omega
 refine(cS_TextLedger trivial a0 sz0).mono ?_
 rintro V1 _ ⟨le1,wc0,wx0,wf0,wz1,rfl,Rw0,Ow,hw⟩
 refine⟨fun _=>le1,(wc0,wz1,()),rfl,?_⟩
 have l1:=le1
 refine(cI_TextLedger (HrI.le hV l1) a0 sz0).mono ?_
 rintro V2 _ ⟨le2,gc0,gx0,gf0,gz1,rfl,Rg0,Og,hg⟩
 refine⟨fun _=>le2,(gc0,gz1,()),rfl,?_⟩
 have nG0:∀ b∈gf0,V b=none:=fun b hb=>none_of_le l1 (Og.2.1 b hb)
 have mG0:∀ b∈gf0,V1 b=none:=fun b hb=>none_of_le (Know.le.refl _) (Og.2.1 b hb)
 have l2:=l1.trans le2
 have lw2:=le2
 obtain⟨eg0,eg1⟩:=rdLed_inj hw hg
 subst eg0
 subst eg1
 have G0:=Rg0
 have wG0:=Og.2.2
 have ndG0:=Og.1
 have tg0:rLedger.tot wx0≤1048576:=rdLed_tot hw
 refine(cL_eqLedger _ _ _ _ _ _ _ G0 (rLedger.le Rw0 lw2)).mono ?_
 rintro V3 _ ⟨rfl,b3,rfl,hb3⟩
 refine⟨fun _=>Know.le.refl _,b3,rfl,(fun h=>by simp [hb3.2 rfl] at h),fun _=>?_⟩
 refine⟨(fun h=>by simp at h),fun _=>?_⟩
 refine(mkH_Ledger _ _ _ _ 1 G0 ndG0 wG0 tg0 (by omega) (by omega)).mono ?_
 rintro V4 _ ⟨B4,WG0,m0,rfl,p4,q4,held0⟩
 refine⟨nofun,_,rfl,?_⟩
 have l4:=le_but l2 nG0 B4
 have lw4:=le_but lw2 mG0 B4
 have ke0:∀ b∈gf0,V4 b=V4 b:=fun _ _=>rfl
 obtain⟨kV0,ek0⟩:∃ U,U=V4:=⟨_,rfl⟩
 rw [← ek0] at WG0 held0
 replace ke0:∀ b∈gf0,V4 b=kV0 b:=fun b hb=>by rw [ek0]
 refine(held0 _ ke0).mono ?_
 rintro V5 _ ⟨le5,rfl⟩
 have hn5:¬ (1+m0)<0:=by omega
 refine⟨nofun,_,rfl,fun h=>absurd (of_decide_eq_true h) hn5,fun _=>?_⟩
 have l5:=l4.trans le5
 have lw5:=lw4.trans le5
 replace ke0:=ke_le WG0 ke0 le5
 refine⟨(fun h=>by simp at h),fun _=>?_⟩
 refine(cI_TextLedger (HrI.le hV l5) a0 sz0).mono ?_
 rintro V6 _ ⟨le6,qc0,qx0,qf0,qz1,rfl,Rq0,Oq,hq⟩
 refine⟨fun _=>le6,(qc0,qz1,()),rfl,?_⟩
 have l6:=l5.trans le6
 have lw6:=lw5.trans le6
 replace ke0:=ke_le WG0 ke0 le6
 obtain⟨eq0,eq1⟩:=rdLed_inj hw hq
 subst eq0
 subst eq1
 refine(cL_eqLedger _ _ _ _ _ _ _ Rq0 (rLedger.le Rw0 lw6)).mono ?_
 rintro V7 _ ⟨rfl,b7,rfl,hb7⟩
 refine⟨fun _=>Know.le.refl _,b7,rfl,(fun h=>by simp [hb7.2 rfl] at h),fun _=>?_⟩
 refine⟨(fun h=>by simp at h),fun _=>?_⟩
 refine(held0 _ ke0).mono ?_
 rintro V8 _ ⟨le8,rfl⟩
 have hn8:¬ (1+m0)<0:=by omega
 refine⟨nofun,_,rfl,fun h=>absurd (of_decide_eq_true h) hn8,fun _=>?_⟩
 have l8:=l6.trans le8
 have lw8:=lw6.trans le8
 replace ke0:=ke_le WG0 ke0 le8
 refine⟨(fun h=>by simp at h),fun _=>?_⟩
 exact⟨l8,rfl⟩
end Go.Proofs.YtagkjnpggkmehaaGreatDoor
namespace Go.Proofs.YtagkjnpggkmehaaGreatDoor
open Sx
def knowOf (W:World):Know:=fun b=>match W.heap[b]? with
 | some (.cells c t fr)=>(match c.toList with | [.tuple _]=>none | l=>some (l,(t,fr)))
 | _=>none
theorem knowOf_on (W:World):(knowOf W).on W:=by
 intro b c t h
 unfold knowOf at h
 split at h
 ·rename_i c' t' fr hh
  split at h
  ·cases h
  ·rename_i hne
   simp only [Option.some.injEq,Prod.mk.injEq] at h
   obtain⟨rfl,rfl⟩:=h
   rw [hh]
   unfold objOf
   split
   ·rename_i es he
    exact(hne es he).elim
   ·rfl
 ·cases h
theorem knowOf_eq {W:World} {b:Nat} {c:Array Value} {t:TypeId} {fr:Nat × Nat} (h:W.heap[b]?=some (.cells c t fr)) (hn:∀ es,c.toList≠[.tuple es]):knowOf W b=some (c.toList,(t,fr)):=by
 unfold knowOf
 rw [h]
 simp only
theorem cut_tuple {l l':List Value} {off n:Nat} (h:cutv l off n=some l') (hn:0<n) (ht:noTup l'=true):∀ es,l≠[.tuple es]:=by
 intro es e
 subst e
 unfold cutv at h
 split at h
 ·rename_i hle
  have h1:off=0∧n=1:=by simp at hle; omega
  obtain⟨rfl,rfl⟩:=h1
  simp at h
  subst h
  simp [noTup] at ht
 ·cases h
def Rd {sh:List Sc} {α:Type} (P:Program) (W:World) (t:TypeId) (r:Rp sh α):Prop :=
 ∀ {H:Type} {enc:TypeId × Value→H} {sp:Nat→Bool} {held:Bool} {fuel:Nat} {cs:List Value} {x:DataW H × List MemPlace},DataW.trod enc P W 0 sp held fuel t cs=some x →
  ∃ c a fp,cs=Scs.vals sh c∧r.R (knowOf W) c a fp
section
variable {H:Type} {enc:TypeId × Value→H} {P:Program} {W:World} {sp:Nat→Bool} {held:Bool} {fuel:Nat} {cs:List Value} {x:DataW H × List MemPlace}
theorem cells_cut {b o m:Nat} {c:Array Value} {t:TypeId} {fr:Nat × Nat} {row:List Value} (hm:0<m) (hb:W.heap[b]?=some (.cells c t fr)) (h:W.cells? 0 ⟨b,o,none⟩ m=some row):cutv c.toList o m=some row:=by
 unfold World.cells? at h
 rw [if_pos (Nat.zero_le _)] at h
 have hl:=Go.Lib.mapM_length h
 simp at hl
 have hat:∀ j,j<m→c[o+j]?=row[j]?:=by
  intro j hj
  obtain⟨v,hv,hc⟩:=Go.Lib.mapM_at h j j (by simp [hj])
  rw [addr_add_eq] at hc
  simp only [World.cell?,hb,Option.isSome_none,Bool.false_eq_true,if_false] at hc
  rw [hc,hv]
 unfold cutv
 have hlast:=hat (m-1) (by omega)
 have hlt:o+(m-1)<c.size:=by
  have:(row[m-1]?).isSome=true:=by simp [hl]; omega
  rw [← hlast] at this
  simpa using this
 rw [if_pos (by simp; omega)]
 congr 1
 apply List.ext_getElem?
 intro j
 by_cases hj:j<m
 ·rw [List.getElem?_take_of_lt hj,List.getElem?_drop,Array.getElem?_toList,hat j hj]
 ·rw [List.getElem?_eq_none (by simp; omega),List.getElem?_eq_none (by omega)]
theorem rows_flat {α β:Type} {f:α→List β} {m:Nat} (hf:∀ a,(f a).length=m):∀ {l:List α} {L:List β},(∀ (i:Nat) (h:i<l.length),cutv L (i*m) m=some (f l[i]))→∃ post,L=l.flatMap f++post
 | [],L,_=>⟨L,rfl⟩
 | a :: l,L,h=>by
  have h0:=h 0 (by simp)
  simp only [Nat.zero_mul,List.getElem_cons_zero] at h0
  unfold cutv at h0
  split at h0
  ·rename_i hm
   simp only [List.drop_zero,Option.some.injEq] at h0
   have e:L=f a++L.drop m:=by rw [← h0,List.take_append_drop]
   obtain⟨post,hp⟩:=rows_flat hf (l:=l) (L:=L.drop m) (fun i hi=>by
    have:=h (i+1) (by simpa using hi)
    simp only [List.getElem_cons_succ] at this
    have e2:(i+1)*m=(f a).length+i*m:=by rw [hf,Nat.add_mul,Nat.one_mul,Nat.add_comm]
    rw [e,e2,cutv_skip] at this
    rw [← this])
   exact⟨post,by rw [List.flatMap_cons,List.append_assoc,← hp]; exact e⟩
  ·cases h0
theorem els_of {sh:List Sc} {α:Type} {r:Rp sh α} {V:Know} {Q:Nat→Scs sh→Prop}:∀ (n:Nat),(∀ i,i<n→∃ c a f,Q i c∧r.R V c a f)→∃ cs l fps,List.length l=n∧Els r V cs l fps∧∀ (i:Nat) (h:i<cs.length),Q i cs[i]
 | 0,_=>⟨[],[],[],rfl,rfl,fun i h=>by simp at h⟩
 | n+1,h=>by
  obtain⟨cs,l,fps,h1,h2,h3⟩:=els_of n (fun i hi=>h i (by omega))
  obtain⟨c,a,f,hq,hr⟩:=h n (by omega)
  refine⟨cs++[c],l++[a],fps++f,by simp [h1],h2.snoc hr,fun i hi=>?_⟩
  have hcl:=h2.len
  by_cases hc:i<cs.length
  ·rw [List.getElem_append_left hc]; exact h3 i hc
  ·have:i=n:=by simp at hi; omega
   subst this
   rw [List.getElem_append_right (by omega)]
   simpa using hq
theorem rd_slice {sh:List Sc} {α:Type} {r:Rp sh α} {t e:TypeId} (hr:Rd P W e r) (ht:P.underlying t=some (.slice e)) (hm:P.cellsOf e=sh.length) (hpos:0<sh.length) (h:DataW.trod enc P W 0 sp held fuel t cs=some x) :
  ∃ s l f,cs=[.slice s.a s.n s.c]∧LR r (knowOf W) s l f:=by
 rcases DataW.trod_slice ht h with ⟨rfl,_⟩ | ⟨a,len,cap,elems,rest,n,_,rfl,_,_,hlc,hcap,hel,hall,_⟩
 ·exact⟨⟨none,0,0⟩,[],[],rfl,rfl,Nat.le_refl _,Nat.zero_le _,.inl ⟨rfl,fun _=>rfl,rfl⟩⟩
 ·have hmax:cap≤9223372036854775807:=hcap
  by_cases h0:len=0
  ·subst h0
   exact⟨⟨some a,0,cap⟩,[],[],rfl,rfl,Nat.zero_le _,Nat.zero_le _,.inl ⟨rfl,(fun h=>by cases h),rfl⟩⟩
  rw [hm] at hall
  -- the block
  have hrow:∀ i,i<len→∃ row y,W.cells? 0 (a.add (i*sh.length)) sh.length=some row∧DataW.trod enc P W 0 sp held n e row=some y:=by
   intro i hi
   have:=hall i hi
   have he:elems[i]?=some elems[i]:=by simp [hel,hi]
   rw [he,Option.bind_eq_some_iff] at this
   obtain⟨row,h1,h2⟩:=this
   exact⟨row,_,h1,h2⟩
  obtain⟨row0,y0,hc0,_⟩:=hrow 0 (by omega)
  obtain⟨bk,off,spot⟩:=a
  have hcell:∃ v,W.cell? ⟨bk,off,spot⟩=some v:=by
   unfold World.cells? at hc0
   rw [if_pos (Nat.zero_le _)] at hc0
   obtain⟨v,_,hv⟩:=Go.Lib.mapM_at hc0 0 0 (by simp [hpos])
   refine⟨v,?_⟩
   simpa [Addr.add] using hv
  obtain⟨v,hv⟩:=hcell
  unfold World.cell? at hv
  split at hv
  ·rename_i c ty fr hb
   split at hv
   ·cases hv
   ·rename_i hs
    have hspot:spot=none:=by simpa using hs
    subst hspot
    have hq:∀ i,i<len→∃ (c':Scs sh) (a':α) (f':List Nat),cutv c.toList (off+i*sh.length) sh.length=some (Scs.vals sh c')∧r.R (knowOf W) c' a' f':=by
     intro i hi
     obtain⟨row,y,h1,h2⟩:=hrow i hi
     rw [addr_add_eq] at h1
     obtain⟨c',a',f',rfl,hR⟩:=hr h2
     exact⟨c',a',f',cells_cut hpos hb h1,hR⟩
    obtain⟨cs,l,fps,k1,k2,k3⟩:=els_of (Q:=fun i c'=>cutv c.toList (off+i*sh.length) sh.length=some (Scs.vals sh c')) len hq
    have hoff:off≤c.toList.length:=by
     obtain⟨c',_,_,hc',_⟩:=hq 0 (by omega)
     unfold cutv at hc'
     split at hc'
     ·omega
     ·cases hc'
    have hpre:(c.toList.take off).length=off:=by rw [List.length_take]; omega
    have hflat:∃ post,c.toList.drop off=cs.flatMap (Scs.vals sh)++post:=by
     refine rows_flat (vals_len sh) fun i hi=>?_
     have:=k3 i hi
     rw [← List.take_append_drop off c.toList] at this
     have e2:off+i*sh.length=(c.toList.take off).length+i*sh.length:=by rw [hpre]
     rw [e2,cutv_skip] at this
     exact this
    obtain⟨post,hpost⟩:=hflat
    refine⟨⟨some ⟨bk,off,none⟩,len,cap⟩,l,bk :: fps,rfl,k1.symm,hlc,Nat.le_trans hlc hmax,.inr ⟨bk,c.toList.take off,post,(ty,fr),fps,cs,by rw [hpre],?_,k2,rfl⟩⟩
    obtain⟨c0,_,_,hc0',_⟩:=hq 0 (by omega)
    rw [knowOf_eq hb (cut_tuple hc0' hpos (vals_noTup sh c0)),← hpost,List.take_append_drop]
  ·cases hv
end
end Go.Proofs.YtagkjnpggkmehaaGreatDoor
