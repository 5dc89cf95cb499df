/-
  The laws' marks, told alike for all types.
-/
import Derived.Test.YtfiakghfncempaaGreatDoorMkB
import Derived.Test.YtfiakghfncempaaGreatDoorStr
namespace Go.Proofs.YtfiakghfncempaaGreatDoor
open Sx
set_option maxRecDepth 100000
theorem load_le {V V':Know} (hle:V.le V') {a:Addr} {n:Nat} {l:List Value} (h:loadV V a n=some l):loadV V' a n=some l:=by
 obtain⟨b,o,sp⟩:=a
 cases sp with
 | some _=>simp [loadV] at h
 | none =>
  simp only [loadV] at h ⊢
  cases hb:V b with
  | none=>rw [hb] at h; cases h
  | some y=>rw [hle b y hb]; rw [hb] at h; exact h
theorem held_lp {sh:List Sc} {α:Type} {P:Program} {K:Know→List Value→Prop} {V V0:Know} (r:Rp sh α) (m:Mk α) {s:SlV} {l:List α} {f:List Nat} {k0:Int} {row:LShs [.o (.o (.i .i64)),.o (.o (.i .i64))]→T}
  (h:LR r V s l f) (hk0:0≤k0) (hk1:k0+cntE m l≤4611686018427387904) (hm:okE m k0 l)
  (hrow:∀ (N:List LV→Know→Prop) (V1:Know) (j:Nat) (x:α) (k:Int) (b o:Nat) (c:Scs sh) (w:List Nat),s.a=some ⟨b,o,none⟩→(j:Int)<(s.n:Int)→0≤k→k+m.cnt x≤4611686018427387904 →
   (∀ (V2:Know) (a:Addr) (o' n:Nat) (l':List Value),V1.le V2→a=⟨b,o+j*sh.length+o',none⟩→cutv (Scs.vals sh c) o' n=some l'→loadV V2 a n=some l')→r.R V1 c x w→m.ok k x →
   (∀ V2,V1.le V2→N [.v (.int .i64 (k+m.cnt x)),.v (.int .i64 (IntKind.i64.wrap ((j:Int)+1)))] V2)→(row (k,(j:Int),())).wp P K V1 V1 [N])
  (hend:∀ V1,V.le V1→K V1 [.int .i64 (k0+cntE m l)]) :
  (T.lp [.o (.o (.i .i64)),.o (.o (.i .i64))] [.v (.int .i64 k0),.v (.int .i64 (0:Int))] fun y=>.br (decide (y.2.1<(s.n:Int))) (row y) (.ret [.int .i64 y.1])).wp P K V V0 []:=by
 have hn:=h.1
 have key:∀ (l:List α) (k:Int) (j:Nat) (hj:j<l.length),okE m k l→k+cntE m l≤4611686018427387904→m.ok (k+cntE m (l.take j)) l[j]∧k+cntE m (l.take j)+m.cnt l[j]≤4611686018427387904:=by
  intro l
  induction l with
  | nil=>intro k j hj; simp at hj
  | cons x l ih =>
   intro k j hj hm hk
   have hc:cntE m (x :: l)=m.cnt x+cntE m l:=rfl
   rw [hc] at hk
   cases j with
   | zero =>
    have e:k+((cntE m (List.take 0 (x :: l)):Nat):Int)=k:=by simp [cntE]
    rw [e]
    exact⟨hm.1,by show k+((m.cnt x:Nat):Int)≤_; omega⟩
   | succ j =>
    have e:cntE m (List.take (j+1) (x :: l))=m.cnt x+cntE m (l.take j):=rfl
    obtain⟨q1,q2⟩:=ih (k+m.cnt x) j (by simpa using hj) hm.2 (by omega)
    have e2:k+((cntE m (List.take (j+1) (x :: l)):Nat):Int)=k+m.cnt x+cntE m (l.take j):=by rw [e]; omega
    rw [e2]
    exact⟨q1,q2⟩
 simp only [T.wp]
 refine⟨fun y V'=>V.le V'∧∃ i:Nat,y.2.1=(i:Int)∧i≤l.length∧y.1=k0+cntE m (l.take i),fun y _=>((l.length:Int)-(y.2.1:Int)).toNat,⟨(k0,(0:Int),()),rfl,Know.le.refl _,0,rfl,Nat.zero_le _,by simp [cntE]⟩,?_⟩
 rintro⟨(q:Int),(i:Int),u⟩ V' ⟨hle,j,hj,hjl,hq⟩
 replace hj:i=(j:Int):=hj
 replace hq:q=k0+cntE m (l.take j):=hq
 subst hj hq
 have h63:=h.2.2.1
 refine⟨fun hlt=>?_,fun hge=>?_⟩
 ·have hi:j<l.length:=by
   have:(j:Int)<(s.n:Int):=of_decide_eq_true hlt
   omega
  obtain⟨k1,k2⟩:=key l k0 j hi hm hk1
  obtain⟨b,o,c,w,ha,part,hR,_⟩:=(h.le hle).part hi
  refine hrow _ V' j l[j] _ b o c w ha (by omega) (by omega) k2 (fun V2 a o' n l' le2 ea hc=>?_) hR k1 fun V2 le2=>?_
  ·rw [ea]
   have:=part o' n l' hc
   simp only [addr_add_eq] at this
   exact load_le le2 this
  ·refine⟨(k0+cntE m (l.take (j+1)),((j+1:Nat):Int),()),?_,⟨hle.trans le2,j+1,rfl,hi,rfl⟩,?_⟩
   ·rw [nxt hi (by omega),List.take_succ_eq_append_getElem hi,cntE_snoc]
    have e:k0+((cntE m (l.take j):Nat):Int)+((m.cnt l[j]:Nat):Int)=k0+((cntE m (l.take j)+m.cnt l[j]:Nat):Int):=by omega
    rw [e]; rfl
   ·show((l.length:Int)-((j+1:Nat):Int)).toNat<((l.length:Int)-(j:Int)).toNat
    omega
 ·have hi:j=l.length:=by
   have:¬ (j:Int)<(s.n:Int):=of_decide_eq_false hge
   omega
  subst hi
  rw [List.take_length]
  exact hend V' hle
theorem cL_heldIntSL (V:Know) (s:SlV) (l:List Lim) (f:List Nat) (k:Int) (h:LR rI V s l f) (hk0:0≤k) (hk1:k+cntE mI l≤4611686018427387904) (hm:okE mI k l) :
  CallX Tryz.prog V 145 [Sc.val .l s,.int .i64 k] (fun V' r=>V.le V'∧r=.int .i64 (k+cntE mI l)):=(cL_heldIntS' V s l f k h hk0 hk1 hm).mono (by
 rintro V' r ⟨rfl,rfl⟩
 exact⟨Know.le.refl _,rfl⟩)
theorem cL_heldAcctS (V:Know) (s:SlV) (l:List DAcct) (f:List Nat) (k:Int) (h:LR rAcct V s l f) (hk0:0≤k) (hk1:k+cntE mAcct l≤4611686018427387904) (hm:okE mAcct k l) :
  CallX Tryz.prog V 144 [Sc.val .l s,.int .i64 k] (fun V' r=>V.le V'∧r=.int .i64 (k+cntE mAcct l)):=by
 refine CallX.of_fits Tryz.mix (fL_heldAcctS _ _) fun _=>?_
 simp only [tL_heldAcctS]
 refine held_lp rAcct mAcct h hk0 hk1 hm ?_ fun V1 h1=>⟨h1,rfl⟩
 rintro N V1 j ⟨x0,x1,x2,x3,xu⟩ k b o ⟨c0,c1,c2,c3,cu⟩ w a1 hj k0 kc hld hR hok hnext
 obtain⟨⟨ec0,zc0⟩,hR⟩:=hR
 replace ec0:c0=x0:=ec0
 subst ec0
 replace zc0:c0.size≤9223372036854775807:=zc0
 obtain⟨⟨ec1,zc1⟩,hR⟩:=hR
 replace ec1:c1=x1:=ec1
 subst ec1
 replace zc1:c1.size≤9223372036854775807:=zc1
 obtain⟨ec2,hR⟩:=hR
 replace ec2:c2=x2:=ec2
 subst ec2
 obtain⟨w3,wr3,ec3,sc3,hR⟩:=hR
 subst ec3
 replace sc3:LR rI _ c3 x3 w3:=sc3
 replace hR:_=[]:=hR
 subst hR
 replace kc:k+(((1+(1+(1+(cntE mI x3+0)))):Nat):Int)≤4611686018427387904:=kc
 obtain⟨ok0,hok⟩:=hok
 obtain⟨ok1,hok⟩:=hok
 obtain⟨ok2,hok⟩:=hok
 obtain⟨ok3,hok⟩:=hok
 simp only [T.wp]
 replace ok0:c0=mtext (k):=ok0
 subst ok0
 refine⟨_,a1,Int.natCast_nonneg j,hj,mtext (k),hld V1 _ 0 1 _ (Know.le.refl _) (by simp only [addr_add_eq,Int.toNat_natCast]; first | done | exact addr_at (by first | omega | (simp only [List.length_cons,List.length_nil]; first | done | omega))) rfl,(cL_markText V1 (k) (by omega)).mono ?_⟩
 rintro V2 _ ⟨le2,rfl,_⟩
 refine⟨fun _=>le2,_,rfl,fun hne=>by simp at hne,fun _=>?_⟩
 have v0:IntKind.i64.wrap (k+1)=k+1:=wrap_i64 (by omega)
 rw [v0]
 replace ok1:c1=mtext (k+1):=ok1
 subst ok1
 refine⟨_,a1,Int.natCast_nonneg j,hj,mtext (k+1),hld V2 _ 1 1 _ le2 (by simp only [addr_add_eq,Int.toNat_natCast]; first | done | exact addr_at (by first | omega | (simp only [List.length_cons,List.length_nil]; first | done | omega))) rfl,(cL_markText V2 (k+1) (by omega)).mono ?_⟩
 rintro V3 _ ⟨le3,rfl,_⟩
 refine⟨fun _=>le3,_,rfl,fun hne=>by simp at hne,fun _=>?_⟩
 have l3:=(le2).trans le3
 have v1:IntKind.i64.wrap (k+1+1)=k+1+1:=wrap_i64 (by omega)
 rw [v1]
 replace ok2:c2=(Int.tmod (k+1+1) 3 == 0):=ok2
 subst ok2
 refine⟨_,a1,Int.natCast_nonneg j,hj,(Int.tmod (k+1+1) 3 == 0),hld V3 _ 2 1 _ l3 (by simp only [addr_add_eq,Int.toNat_natCast]; first | done | exact addr_at (by first | omega | (simp only [List.length_cons,List.length_nil]; first | done | omega))) rfl,by decide,fun hne=>by simp at hne,fun _=>?_⟩
 have v2:IntKind.i64.wrap (k+1+1+1)=k+1+1+1:=wrap_i64 (by omega)
 rw [v2]
 replace ok3:okE mI (k+1+1+1) x3:=ok3
 refine⟨_,a1,Int.natCast_nonneg j,hj,c3,hld V3 _ 3 1 _ l3 (by simp only [addr_add_eq,Int.toNat_natCast]; first | done | exact addr_at (by first | omega | (simp only [List.length_cons,List.length_nil]; first | done | omega))) rfl,(cL_heldIntSL V3 c3 x3 w3 (k+1+1+1) (sc3.le l3) (by omega) (by omega) ok3).mono ?_⟩
 rintro V4 _ ⟨le4,rfl⟩
 have g4:¬ (k+1+1+1+((cntE mI x3:Nat):Int))<0:=by omega
 refine⟨nofun,_,rfl,fun hneg=>absurd (of_decide_eq_true hneg) g4,fun _=>?_⟩
 have l4:=(l3).trans le4
 have ek:k+1+1+1+((cntE mI x3:Nat):Int)=k+(((1+(1+(1+(cntE mI x3+0)))):Nat):Int):=by omega
 rw [ek]
 exact⟨_,rfl,hnext V4 l4⟩
theorem cL_heldRestS (V:Know) (s:SlV) (l:List DRest) (f:List Nat) (k:Int) (h:LR rRest V s l f) (hk0:0≤k) (hk1:k+cntE mRest l≤4611686018427387904) (hm:okE mRest k l) :
  CallX Tryz.prog V 93 [Sc.val .l s,.int .i64 k] (fun V' r=>V.le V'∧r=.int .i64 (k+cntE mRest l)):=by
 refine CallX.of_fits Tryz.mix (fL_heldRestS _ _) fun _=>?_
 simp only [tL_heldRestS]
 refine held_lp rRest mRest h hk0 hk1 hm ?_ fun V1 h1=>⟨h1,rfl⟩
 rintro N V1 j ⟨x0,x1,x2,x3,xu⟩ k b o ⟨c0,c1,c2,c3,cu⟩ w a1 hj k0 kc hld hR hok hnext
 obtain⟨⟨ec0,zc0⟩,hR⟩:=hR
 replace ec0:c0=x0:=ec0
 subst ec0
 replace zc0:c0.size≤9223372036854775807:=zc0
 obtain⟨ec1,hR⟩:=hR
 replace ec1:c1=x1:=ec1
 subst ec1
 obtain⟨w2,wr2,ec2,sc2,hR⟩:=hR
 subst ec2
 replace sc2:LR rI _ c2 x2 w2:=sc2
 obtain⟨w3,wr3,ec3,sc3,hR⟩:=hR
 subst ec3
 replace sc3:LR rI _ c3 x3 w3:=sc3
 replace hR:_=[]:=hR
 subst hR
 replace kc:k+(((1+(1+(cntE mI x2+(cntE mI x3+0)))):Nat):Int)≤4611686018427387904:=kc
 obtain⟨ok0,hok⟩:=hok
 obtain⟨ok1,hok⟩:=hok
 obtain⟨ok2,hok⟩:=hok
 obtain⟨ok3,hok⟩:=hok
 simp only [T.wp]
 replace ok0:c0=mtext (k):=ok0
 subst ok0
 refine⟨_,a1,Int.natCast_nonneg j,hj,mtext (k),hld V1 _ 0 1 _ (Know.le.refl _) (by simp only [addr_add_eq,Int.toNat_natCast]; first | done | exact addr_at (by first | omega | (simp only [List.length_cons,List.length_nil]; first | done | omega))) rfl,(cL_markText V1 (k) (by omega)).mono ?_⟩
 rintro V2 _ ⟨le2,rfl,_⟩
 refine⟨fun _=>le2,_,rfl,fun hne=>by simp at hne,fun _=>?_⟩
 have v0:IntKind.i64.wrap (k+1)=k+1:=wrap_i64 (by omega)
 rw [v0]
 replace ok1:c1=(Int.tmod (k+1) 3 == 0):=ok1
 subst ok1
 refine⟨_,a1,Int.natCast_nonneg j,hj,(Int.tmod (k+1) 3 == 0),hld V2 _ 1 1 _ le2 (by simp only [addr_add_eq,Int.toNat_natCast]; first | done | exact addr_at (by first | omega | (simp only [List.length_cons,List.length_nil]; first | done | omega))) rfl,by decide,fun hne=>by simp at hne,fun _=>?_⟩
 have v1:IntKind.i64.wrap (k+1+1)=k+1+1:=wrap_i64 (by omega)
 rw [v1]
 replace ok2:okE mI (k+1+1) x2:=ok2
 refine⟨_,a1,Int.natCast_nonneg j,hj,c2,hld V2 _ 2 1 _ le2 (by simp only [addr_add_eq,Int.toNat_natCast]; first | done | exact addr_at (by first | omega | (simp only [List.length_cons,List.length_nil]; first | done | omega))) rfl,(cL_heldIntSL V2 c2 x2 w2 (k+1+1) (sc2.le le2) (by omega) (by omega) ok2).mono ?_⟩
 rintro V3 _ ⟨le3,rfl⟩
 have g3:¬ (k+1+1+((cntE mI x2:Nat):Int))<0:=by omega
 refine⟨nofun,_,rfl,fun hneg=>absurd (of_decide_eq_true hneg) g3,fun _=>?_⟩
 have l3:=(le2).trans le3
 replace ok3:okE mI (k+1+1+((cntE mI x2:Nat):Int)) x3:=ok3
 refine⟨_,a1,Int.natCast_nonneg j,hj,c3,hld V3 _ 3 1 _ l3 (by simp only [addr_add_eq,Int.toNat_natCast]; first | done | exact addr_at (by first | omega | (simp only [List.length_cons,List.length_nil]; first | done | omega))) rfl,(cL_heldIntSL V3 c3 x3 w3 (k+1+1+((cntE mI x2:Nat):Int)) (sc3.le l3) (by omega) (by omega) ok3).mono ?_⟩
 rintro V4 _ ⟨le4,rfl⟩
 have g4:¬ (k+1+1+((cntE mI x2:Nat):Int)+((cntE mI x3:Nat):Int))<0:=by omega
 refine⟨nofun,_,rfl,fun hneg=>absurd (of_decide_eq_true hneg) g4,fun _=>?_⟩
 have l4:=(l3).trans le4
 have ek:k+1+1+((cntE mI x2:Nat):Int)+((cntE mI x3:Nat):Int)=k+(((1+(1+(cntE mI x2+(cntE mI x3+0)))):Nat):Int):=by omega
 rw [ek]
 exact⟨_,rfl,hnext V4 l4⟩
theorem cL_heldRateS (V:Know) (s:SlV) (l:List DRate) (f:List Nat) (k:Int) (h:LR rRate V s l f) (hk0:0≤k) (hk1:k+cntE mRate l≤4611686018427387904) (hm:okE mRate k l) :
  CallX Tryz.prog V 146 [Sc.val .l s,.int .i64 k] (fun V' r=>V.le V'∧r=.int .i64 (k+cntE mRate l)):=by
 refine CallX.of_fits Tryz.mix (fL_heldRateS _ _) fun _=>?_
 simp only [tL_heldRateS]
 refine held_lp rRate mRate h hk0 hk1 hm ?_ fun V1 h1=>⟨h1,rfl⟩
 rintro N V1 j ⟨x0,x1,x2,x3,x4,xu⟩ k b o ⟨c0,c1,c2,c3,c4,cu⟩ w a1 hj k0 kc hld hR hok hnext
 obtain⟨⟨ec0,zc0⟩,hR⟩:=hR
 replace ec0:c0=x0:=ec0
 subst ec0
 replace zc0:c0.size≤9223372036854775807:=zc0
 obtain⟨⟨ec1,zc1⟩,hR⟩:=hR
 replace ec1:c1=x1:=ec1
 subst ec1
 replace zc1:c1.size≤9223372036854775807:=zc1
 obtain⟨ec2,hR⟩:=hR
 replace ec2:c2=x2:=ec2
 subst ec2
 obtain⟨w3,wr3,ec3,sc3,hR⟩:=hR
 subst ec3
 replace sc3:LR rI _ c3 x3 w3:=sc3
 obtain⟨ec4,hR⟩:=hR
 replace ec4:c4=x4:=ec4
 subst ec4
 replace hR:_=[]:=hR
 subst hR
 replace kc:k+(((1+(1+(1+(cntE mI x3+(1+0))))):Nat):Int)≤4611686018427387904:=kc
 obtain⟨ok0,hok⟩:=hok
 obtain⟨ok1,hok⟩:=hok
 obtain⟨ok2,hok⟩:=hok
 obtain⟨ok3,hok⟩:=hok
 obtain⟨ok4,hok⟩:=hok
 simp only [T.wp]
 replace ok0:c0=mtext (k):=ok0
 subst ok0
 refine⟨_,a1,Int.natCast_nonneg j,hj,mtext (k),hld V1 _ 0 1 _ (Know.le.refl _) (by simp only [addr_add_eq,Int.toNat_natCast]; first | done | exact addr_at (by first | omega | (simp only [List.length_cons,List.length_nil]; first | done | omega))) rfl,(cL_markText V1 (k) (by omega)).mono ?_⟩
 rintro V2 _ ⟨le2,rfl,_⟩
 refine⟨fun _=>le2,_,rfl,fun hne=>by simp at hne,fun _=>?_⟩
 have v0:IntKind.i64.wrap (k+1)=k+1:=wrap_i64 (by omega)
 rw [v0]
 replace ok1:c1=mtext (k+1):=ok1
 subst ok1
 refine⟨_,a1,Int.natCast_nonneg j,hj,mtext (k+1),hld V2 _ 1 1 _ le2 (by simp only [addr_add_eq,Int.toNat_natCast]; first | done | exact addr_at (by first | omega | (simp only [List.length_cons,List.length_nil]; first | done | omega))) rfl,(cL_markText V2 (k+1) (by omega)).mono ?_⟩
 rintro V3 _ ⟨le3,rfl,_⟩
 refine⟨fun _=>le3,_,rfl,fun hne=>by simp at hne,fun _=>?_⟩
 have l3:=(le2).trans le3
 have v1:IntKind.i64.wrap (k+1+1)=k+1+1:=wrap_i64 (by omega)
 rw [v1]
 replace ok2:c2=(Int.tmod (k+1+1) 3 == 0):=ok2
 subst ok2
 refine⟨_,a1,Int.natCast_nonneg j,hj,(Int.tmod (k+1+1) 3 == 0),hld V3 _ 2 1 _ l3 (by simp only [addr_add_eq,Int.toNat_natCast]; first | done | exact addr_at (by first | omega | (simp only [List.length_cons,List.length_nil]; first | done | omega))) rfl,by decide,fun hne=>by simp at hne,fun _=>?_⟩
 have v2:IntKind.i64.wrap (k+1+1+1)=k+1+1+1:=wrap_i64 (by omega)
 rw [v2]
 replace ok3:okE mI (k+1+1+1) x3:=ok3
 refine⟨_,a1,Int.natCast_nonneg j,hj,c3,hld V3 _ 3 1 _ l3 (by simp only [addr_add_eq,Int.toNat_natCast]; first | done | exact addr_at (by first | omega | (simp only [List.length_cons,List.length_nil]; first | done | omega))) rfl,(cL_heldIntSL V3 c3 x3 w3 (k+1+1+1) (sc3.le l3) (by omega) (by omega) ok3).mono ?_⟩
 rintro V4 _ ⟨le4,rfl⟩
 have g4:¬ (k+1+1+1+((cntE mI x3:Nat):Int))<0:=by omega
 refine⟨nofun,_,rfl,fun hneg=>absurd (of_decide_eq_true hneg) g4,fun _=>?_⟩
 have l4:=(l3).trans le4
 replace ok4:c4=(k+1+1+1+((cntE mI x3:Nat):Int)):=ok4
 subst ok4
 refine⟨_,a1,Int.natCast_nonneg j,hj,(k+1+1+1+((cntE mI x3:Nat):Int)),hld V4 _ 4 1 _ l4 (by simp only [addr_add_eq,Int.toNat_natCast]; first | done | exact addr_at (by first | omega | (simp only [List.length_cons,List.length_nil]; first | done | omega))) rfl,fun hne=>by simp at hne,fun _=>?_⟩
 have v4:IntKind.i64.wrap (k+1+1+1+((cntE mI x3:Nat):Int)+1)=k+1+1+1+((cntE mI x3:Nat):Int)+1:=wrap_i64 (by omega)
 rw [v4]
 have ek:k+1+1+1+((cntE mI x3:Nat):Int)+1=k+(((1+(1+(1+(cntE mI x3+(1+0))))):Nat):Int):=by omega
 rw [ek]
 exact⟨_,rfl,hnext V4 l4⟩
theorem cL_heldBook (V:Know) (c0:SlV) (x0:List DAcct) (w0:List Nat) (k:Int) (s0:LR rAcct V c0 x0 w0) (hk0:0≤k) (hk1:(k+((cntE mAcct x0:Nat):Int))≤4611686018427387904) (ok0:okE mAcct k x0) :
  CallX Tryz.prog V 92 [qv4 (c0,()),.int .i64 k] (fun V' r=>V.le V'∧r=.int .i64 (k+((cntE mAcct x0:Nat):Int))):=by
 refine CallX.of_fits Tryz.mix (fL_heldBook _ _) fun _=>?_
 simp only [tL_heldBook,T.wp]
 refine(cL_heldAcctS V c0 x0 w0 k s0 (by omega) (by omega) ok0).mono ?_
 rintro V1 _ ⟨le1,rfl⟩
 have hneg1:¬ (k+((cntE mAcct x0:Nat):Int))<0:=by omega
 refine⟨nofun,_,rfl,fun hneg=>absurd (of_decide_eq_true hneg) hneg1,fun _=>?_⟩
 exact⟨le1,rfl⟩
theorem cL_heldRates (V:Know) (c0:ByteArray) (c1:SlV) (x1:List DRate) (w1:List Nat) (k:Int) (s1:LR rRate V c1 x1 w1) (hk0:0≤k) (hk1:(k+((cntE mRate x1:Nat):Int))≤4611686018427387904) (ok1:okE mRate k x1) :
  CallX Tryz.prog V 94 [qv5 (c0,c1,()),.int .i64 k] (fun V' r=>V.le V'∧r=.int .i64 (k+((cntE mRate x1:Nat):Int))):=by
 refine CallX.of_fits Tryz.mix (fL_heldRates _ _) fun _=>?_
 simp only [tL_heldRates,T.wp]
 refine(cL_heldRateS V c1 x1 w1 k s1 (by omega) (by omega) ok1).mono ?_
 rintro V1 _ ⟨le1,rfl⟩
 have hneg1:¬ (k+((cntE mRate x1:Nat):Int))<0:=by omega
 refine⟨nofun,_,rfl,fun hneg=>absurd (of_decide_eq_true hneg) hneg1,fun _=>?_⟩
 exact⟨le1,rfl⟩
theorem cL_heldLedger (V:Know) (c0:SlV) (c1:SlV) (c2:ByteArray) (c3:SlV) (x0:List DAcct) (x1:List DRest) (x3:List DRate) (w0:List Nat) (w1:List Nat) (w3:List Nat) (k:Int) (s0:LR rAcct V c0 x0 w0) (s1:LR rRest V c1 x1 w1) (s3:LR rRate V c3 x3 w3) (hk0:0≤k) (hk1:(((k+((cntE mAcct x0:Nat):Int))+((cntE mRest x1:Nat):Int))+((cntE mRate x3:Nat):Int))≤4611686018427387904) (ok0:okE mAcct k x0) (ok1:okE mRest (k+((cntE mAcct x0:Nat):Int)) x1) (ok3:okE mRate ((k+((cntE mAcct x0:Nat):Int))+((cntE mRest x1:Nat):Int)) x3) :
  CallX Tryz.prog V 39 [qv3 (c0,c1,c2,c3,()),.int .i64 k] (fun V' r=>V.le V'∧r=.int .i64 (((k+((cntE mAcct x0:Nat):Int))+((cntE mRest x1:Nat):Int))+((cntE mRate x3:Nat):Int))):=by
 refine CallX.of_fits Tryz.mix (fL_heldLedger _ _) fun _=>?_
 simp only [tL_heldLedger,T.wp]
 refine(cL_heldBook V c0 x0 w0 k s0 (by omega) (by omega) ok0).mono ?_
 rintro V1 _ ⟨le1,rfl⟩
 have hneg1:¬ (k+((cntE mAcct x0:Nat):Int))<0:=by omega
 refine⟨nofun,_,rfl,fun hneg=>absurd (of_decide_eq_true hneg) hneg1,fun _=>?_⟩
 replace s1:=s1.le le1
 replace s3:=s3.le le1
 refine(cL_heldRestS V1 c1 x1 w1 (k+((cntE mAcct x0:Nat):Int)) s1 (by omega) (by omega) ok1).mono ?_
 rintro V2 _ ⟨le2,rfl⟩
 have hneg2:¬ ((k+((cntE mAcct x0:Nat):Int))+((cntE mRest x1:Nat):Int))<0:=by omega
 refine⟨nofun,_,rfl,fun hneg=>absurd (of_decide_eq_true hneg) hneg2,fun _=>?_⟩
 replace s3:=s3.le le2
 have l2:=le1.trans le2
 refine(cL_heldRates V2 c2 c3 x3 w3 ((k+((cntE mAcct x0:Nat):Int))+((cntE mRest x1:Nat):Int)) s3 (by omega) (by omega) ok3).mono ?_
 rintro V3 _ ⟨le3,rfl⟩
 have hneg3:¬ (((k+((cntE mAcct x0:Nat):Int))+((cntE mRest x1:Nat):Int))+((cntE mRate x3:Nat):Int))<0:=by omega
 refine⟨nofun,_,rfl,fun hneg=>absurd (of_decide_eq_true hneg) hneg3,fun _=>?_⟩
 have l3:=l2.trans le3
 exact⟨l3,rfl⟩
end Go.Proofs.YtfiakghfncempaaGreatDoor
namespace Go.Proofs.YtfiakghfncempaaGreatDoor
open Sx
set_option maxRecDepth 100000
def MkC {sh:List Sc} {α:Type} (P:Program) (g:Nat) (r:Rp sh α):Prop:=∀ (V:Know) (c:Scs sh) (x:α) (f:List Nat) (k:Int),r.R V c x f→f.Nodup→Wr V f→r.tot x≤1048576→0≤k→k≤1152921504606846976 →
 CallX P V g [Sh1.val (.g sh) c,.int .i64 k] (fun V' v=>LeBut f V V'∧∃ n:Int,v=.int .i64 (k+n)∧0≤n∧n≤67108864)
def MkCS {sh:List Sc} {α:Type} (P:Program) (g:Nat) (r:Rp sh α):Prop:=∀ (V:Know) (s:SlV) (l:List α) (f:List Nat) (k:Int),LR r V s l f→f.Nodup→Wr V f→l.length+totE r l≤1048576→0≤k→k≤1152921504606846976 →
 CallX P V g [Sc.val .l s,.int .i64 k] (fun V' v=>LeBut f V V'∧∃ n:Int,v=.int .i64 (k+n)∧0≤n∧n≤67108864)
def MkH {sh:List Sc} {α:Type} (P:Program) (g gh:Nat) (r:Rp sh α):Prop:=∀ (V:Know) (c:Scs sh) (x:α) (f:List Nat) (k:Int),r.R V c x f→f.Nodup→Wr V f→r.tot x≤1048576→0≤k→k≤1152921504606846976 →
 CallX P V g [Sh1.val (.g sh) c,.int .i64 k] (fun V' v=>LeBut f V V'∧Wr V' f∧∃ n:Int,v=.int .i64 (k+n)∧0≤n∧n≤67108864 ∧
  ∀ V2,(∀ b∈f,V2 b=V' b)→CallX P V2 gh [Sh1.val (.g sh) c,.int .i64 k] (fun V3 v=>V2.le V3∧v=.int .i64 (k+n)))
theorem Wr.but {V V':Know} {f g:List Nat} (h:Wr V f) (d:∀ b∈f,b ∉ g) (B:LeBut g V V'):Wr V' f:=fun b hb=>by obtain⟨q1,q2,q3⟩:=h b hb; exact⟨q1,q2,B b _ (d b hb) q3⟩
theorem ke_le {V V1 V':Know} {f:List Nat} (W:Wr V1 f) (ke:∀ b∈f,V b=V1 b) (le:V.le V'):∀ b∈f,V' b=V1 b:=fun b hb=>by obtain⟨q1,q2,q3⟩:=W b hb; rw [le _ _ ((ke b hb).trans q3),q3]
theorem cntE_le {sh:List Sc} {α:Type} {r:Rp sh α} {m:Mk α} {K:Nat} (hK:∀ x,m.cnt x≤K*(1+r.tot x)):∀ l,cntE m l≤K*(l.length+totE r l)
 | []=>by simp [cntE]
 | x :: l=>by
  have ih:=cntE_le hK l
  have h1:=hK x
  simp only [cntE,totE,List.length_cons]
  have e:K*(l.length+1+(r.tot x+totE r l))=K*(1+r.tot x)+K*(l.length+totE r l):=by rw [← Nat.mul_add]; congr 1; omega
  omega
theorem cnt_Acct (x:DAcct):mAcct.cnt x≤6*(1+rAcct.tot x):=by
 have e:mAcct.cnt x=(1+(1+(1+(cntE mI x.2.2.2.1+0)))):=rfl
 have e2:rAcct.tot x=(x.1.size+(x.2.1.size+(x.2.2.2.1.length+totE rI x.2.2.2.1+0))):=rfl
 rw [e,e2]
 have q3:=cntE_int x.2.2.2.1
 omega
theorem cnt_Rest (x:DRest):mRest.cnt x≤6*(1+rRest.tot x):=by
 have e:mRest.cnt x=(1+(1+(cntE mI x.2.2.1+(cntE mI x.2.2.2.1+0)))):=rfl
 have e2:rRest.tot x=(x.1.size+(x.2.2.1.length+totE rI x.2.2.1+(x.2.2.2.1.length+totE rI x.2.2.2.1+0))):=rfl
 rw [e,e2]
 have q2:=cntE_int x.2.2.1
 have q3:=cntE_int x.2.2.2.1
 omega
theorem cnt_Rate (x:DRate):mRate.cnt x≤6*(1+rRate.tot x):=by
 have e:mRate.cnt x=(1+(1+(1+(cntE mI x.2.2.2.1+(1+0))))):=rfl
 have e2:rRate.tot x=(x.1.size+(x.2.1.size+(x.2.2.2.1.length+totE rI x.2.2.2.1+0))):=rfl
 rw [e,e2]
 have q3:=cntE_int x.2.2.2.1
 omega
theorem cnt_String (x:DString):mString.cnt x≤6*(1+rString.tot x):=by
 have e:mString.cnt x=(1+0):=rfl
 have e2:rString.tot x=(x.1.size+0):=rfl
 rw [e,e2]
 omega
theorem mkC_Ledger:MkC Tryz.prog 35 rLedger:=by
 rintro V ⟨c0,c1,c2,c3,cu⟩ ⟨x0,x1,x2,x3,xu⟩ f k hx nd hw ht k0 k1
 obtain⟨w0,z0,rfl,s0,hx⟩:=hx
 replace s0:LR rAcct V c0 x0 w0:=s0
 obtain⟨w1,z1,rfl,s1,hx⟩:=hx
 replace s1:LR rRest V c1 x1 w1:=s1
 obtain⟨⟨e2,_⟩,hx⟩:=hx
 replace e2:c2=x2:=e2
 subst e2
 obtain⟨w3,z3,rfl,s3,hx⟩:=hx
 replace s3:LR rRate V c3 x3 w3:=s3
 replace hx:_=[]:=hx
 subst hx
 have et:rLedger.tot (x0,x1,c2,x3,xu)=(x0.length+totE rAcct x0+(x1.length+totE rRest x1+(c2.size+(x3.length+totE rRate x3+0)))):=rfl
 rw [et] at ht
 have q0:=cntE_le cnt_Acct x0
 have q1:=cntE_le cnt_Rest x1
 have q3:=cntE_le cnt_Rate x3
 have n0:=List.nodup_append.1 nd
 have n1:=List.nodup_append.1 n0.2.1
 have n3:=List.nodup_append.1 n1.2.1
 refine(cL_markLedger V c0 c1 c2 c3 x0 x1 x3 w0 w1 w3 k s0 s1 s3 n0.1 (fun y hy=>hw y (by simp [hy])) n1.1 (fun y hy=>hw y (by simp [hy])) n3.1 (fun y hy=>hw y (by simp [hy])) (fun y hy hm=>n0.2.2 y hy y (by simp [hm]) rfl) (fun y hy hm=>n0.2.2 y hy y (by simp [hm]) rfl) (fun y hy hm=>n1.2.2 y hy y (by simp [hm]) rfl) k0 (by omega)).mono ?_
 rintro V1 _ ⟨hb,rfl,y0,y1,y3,⟨M0,W0,k0k,n0n⟩,⟨M1,W1,k1k,n1n⟩,⟨M3,W3,k3k,n3n⟩⟩
 exact⟨hb,((cntE mAcct x0:Nat):Int)+((cntE mRest x1:Nat):Int)+((cntE mRate x3:Nat):Int),congrArg (Value.int .i64) (by omega),by omega,by omega⟩
theorem mkCS_String:MkCS Tryz.prog 36 rString:=by
 rintro V s l f k h nd hw ht k0 k1
 have q:=cntE_le cnt_String l
 refine(cL_markStringS V s l f k h nd hw k0 (by omega)).mono ?_
 rintro V1 _ ⟨hb,_,rfl,_⟩
 exact⟨hb,((cntE mString l:Nat):Int),rfl,by omega,by omega⟩
theorem mkCS_Int:MkCS Tryz.prog 37 rI:=by
 rintro V s l f k h nd hw ht k0 k1
 have q:=cntE_int l
 refine(cL_markIntS' V s l f k h nd hw k0 (by omega)).mono ?_
 rintro V1 _ ⟨hb,_,rfl,_⟩
 exact⟨hb,((cntE mI l:Nat):Int),rfl,by omega,by omega⟩
theorem mkC_Money:MkC Tryz.prog 38 rMoney:=by
 rintro V ⟨c0,c1,c2,cu⟩ ⟨x0,x1,x2,xu⟩ f k hx nd hw ht k0 k1
 obtain⟨⟨e0,_⟩,hx⟩:=hx
 replace e0:c0=x0:=e0
 subst e0
 obtain⟨e1,hx⟩:=hx
 replace e1:c1=x1:=e1
 subst e1
 obtain⟨w2,z2,rfl,s2,hx⟩:=hx
 replace s2:LR rI V c2 x2 w2:=s2
 replace hx:_=[]:=hx
 subst hx
 have et:rMoney.tot (c0,c1,x2,xu)=(c0.size+(x2.length+totE rI x2+0)):=rfl
 rw [et] at ht
 have q2:=cntE_int x2
 have n2:=List.nodup_append.1 nd
 refine(cL_markMoney V c0 c1 c2 x2 w2 k s2 n2.1 (fun y hy=>hw y (by simp [hy])) k0 (by omega)).mono ?_
 rintro V1 _ ⟨hb,rfl,y2,M2,W2,k2k,n2n⟩
 exact⟨hb,((cntE mI x2:Nat):Int),congrArg (Value.int .i64) (by omega),by omega,by omega⟩
theorem mkH_Ledger:MkH Tryz.prog 35 39 rLedger:=by
 rintro V ⟨c0,c1,c2,c3,cu⟩ ⟨x0,x1,x2,x3,xu⟩ f k hx nd hw ht k0 k1
 obtain⟨w0,z0,rfl,s0,hx⟩:=hx
 replace s0:LR rAcct V c0 x0 w0:=s0
 obtain⟨w1,z1,rfl,s1,hx⟩:=hx
 replace s1:LR rRest V c1 x1 w1:=s1
 obtain⟨⟨e2,_⟩,hx⟩:=hx
 replace e2:c2=x2:=e2
 subst e2
 obtain⟨w3,z3,rfl,s3,hx⟩:=hx
 replace s3:LR rRate V c3 x3 w3:=s3
 replace hx:_=[]:=hx
 subst hx
 have et:rLedger.tot (x0,x1,c2,x3,xu)=(x0.length+totE rAcct x0+(x1.length+totE rRest x1+(c2.size+(x3.length+totE rRate x3+0)))):=rfl
 rw [et] at ht
 have q0:=cntE_le cnt_Acct x0
 have q1:=cntE_le cnt_Rest x1
 have q3:=cntE_le cnt_Rate x3
 have n0:=List.nodup_append.1 nd
 have n1:=List.nodup_append.1 n0.2.1
 have n3:=List.nodup_append.1 n1.2.1
 refine(cL_markLedger V c0 c1 c2 c3 x0 x1 x3 w0 w1 w3 k s0 s1 s3 n0.1 (fun y hy=>hw y (by simp [hy])) n1.1 (fun y hy=>hw y (by simp [hy])) n3.1 (fun y hy=>hw y (by simp [hy])) (fun y hy hm=>n0.2.2 y hy y (by simp [hm]) rfl) (fun y hy hm=>n0.2.2 y hy y (by simp [hm]) rfl) (fun y hy hm=>n1.2.2 y hy y (by simp [hm]) rfl) k0 (by omega)).mono ?_
 rintro V1 _ ⟨hb,rfl,y0,y1,y3,⟨M0,W0,k0k,n0n⟩,⟨M1,W1,k1k,n1n⟩,⟨M3,W3,k3k,n3n⟩⟩
 refine⟨hb,fun y hy=>?_,((cntE mAcct x0:Nat):Int)+((cntE mRest x1:Nat):Int)+((cntE mRate x3:Nat):Int),congrArg (Value.int .i64) (by omega),by omega,by omega,fun V2 he=>?_⟩
 ·simp only [List.mem_append,List.not_mem_nil,or_false] at hy
  rcases hy with hy | hy
  ·exact W0 y hy
  rcases hy with hy | hy
  ·exact W1 y hy
  exact W3 y hy
 rw [← n0n] at k1k
 rw [← n0n,← n1n] at k3k
 have key:=cL_heldLedger V2 c0 c1 c2 c3 y0 y1 y3 w0 w1 w3 k (M0.loc fun y hy=>he y (by simp [hy])) (M1.loc fun y hy=>he y (by simp [hy])) (M3.loc fun y hy=>he y (by simp [hy])) k0 (by rw [n0n,n1n,n3n]; omega) k0k k1k k3k
 rw [n0n,n1n,n3n] at key
 refine key.mono ?_
 rintro V3 _ ⟨le3,rfl⟩
 exact⟨le3,congrArg (Value.int .i64) (by omega)⟩
end Go.Proofs.YtfiakghfncempaaGreatDoor
