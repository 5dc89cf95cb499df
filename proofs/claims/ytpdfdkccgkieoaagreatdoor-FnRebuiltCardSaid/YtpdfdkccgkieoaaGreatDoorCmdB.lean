/-
  Fields of commands: which a command has, when they are right, when they are zero; the program's CmdOk.
-/
import Derived.Test.YtpdfdkccgkieoaaGreatDoorPerfL
import Derived.Test.YtpdfdkccgkieoaaGreatDoorStr
import Derived.Test.YtpdfdkccgkieoaaGreatDoorTxt
import Derived.Test.YtpdfdkccgkieoaaGreatDoorRatX
namespace Go.Proofs.YtpdfdkccgkieoaaGreatDoor
open Sx
set_option maxRecDepth 100000
theorem addM_ok {x y z:DMoney} (h:addM x y=(z,true)) (k:∃ r,AddP x y r):MonP z∧z.1=x.1:=by
 obtain⟨r,hr⟩:=k
 have:=(addM_eq hr).symm.trans h
 subst this
 rcases hr with ⟨_,_,h1,h2,_⟩ | ⟨h1,_⟩
 ·exact⟨h1,h2⟩
 ·cases h1
open Classical in
theorem addP_ex (x y:DMoney):∃ r,AddP x y r:=by
 by_cases h:AlikeP x y∧∃ z:DMoney,MonP z∧z.1=x.1∧svM z=svM x+svM y
 ·obtain⟨h1,z,h2,h3,h4⟩:=h
  exact⟨(z,true),.inl ⟨rfl,h1,h2,h3,h4⟩⟩
 ·exact⟨(nilM,false),.inr ⟨rfl,rfl,h⟩⟩
theorem book_set {l:List DAcct} (h:BookOkP l) {i:Nat} (hi:i<l.length) {z:DMoney} (hz:MonP z):BookOkP (l.set i (l[i].1,z)):=by
 have hk:∀ (j:Nat) (hj:j<(l.set i (l[i].1,z)).length),(l.set i (l[i].1,z))[j].1=(l[j]'(by simpa using hj)).1:=fun j hj=>by
  rw [List.getElem_set]
  split
  ·rename_i ij; subst ij; rfl
  ·rfl
 refine⟨by rw [List.length_set]; exact h.1,fun j hj=>?_⟩
 obtain⟨q0,q1,q2,q3⟩:=h.2 j (by simpa using hj)
 refine⟨hj,by rw [hk]; exact q1,?_,fun h0=>by rw [hk,hk]; exact q3 h0⟩
 rw [List.getElem_set]
 split
 ·exact hz
 ·exact q2
theorem postB_ok {l:List DAcct} {n:ByteArray} {m:DMoney} {y:List DAcct} (h:postB l n m=(y,true)):BookOkP y:=by
 by_cases hb:BookOkP l
 ·cases hf:fnd n l with
  | none=>rw [postB_none hf] at h; simp at h
  | some i =>
   obtain⟨hi,_⟩:=fnd_at hf
   obtain⟨⟨z,ok⟩,ha⟩:∃ r,addM l[i].2 m=r:=⟨_,rfl⟩
   rw [postB_some hb hf hi ha] at h
   cases ok with
   | false=>simp at h
   | true =>
    simp only [if_true,Prod.mk.injEq,and_true] at h
    subst h
    exact book_set hb hi (addM_ok ha (addP_ex _ _)).1
 ·rw [postB_no hb] at h; simp at h
end Go.Proofs.YtpdfdkccgkieoaaGreatDoor
namespace Go.Proofs.YtpdfdkccgkieoaaGreatDoor
open Sx
set_option maxRecDepth 100000
theorem cI_sameInts:EqSC Tryz.prog 84 rI:=fun _ s s' _ _ _ _ h h'=>CallX.of_fits Tryz.mix (fI_sameInts s s') fun _=>tEqI_wp h h'
theorem cI_intSame:EqC Tryz.prog 83 rSigned:=by
 rintro V ⟨c0,c1,cu⟩ ⟨d0,d1,du⟩ ⟨x0,x1,xu⟩ ⟨y0,y1,yu⟩ f f' hx hy
 obtain⟨ec0,hx⟩:=hx
 replace ec0:c0=x0:=ec0
 subst ec0
 obtain⟨f1,fr1,ec1,sc1,hx⟩:=hx
 subst ec1
 replace sc1:LR rI _ c1 x1 f1:=sc1
 replace hx:_=[]:=hx
 subst hx
 obtain⟨ed0,hy⟩:=hy
 replace ed0:d0=y0:=ed0
 subst ed0
 obtain⟨g1,gr1,ed1,sd1,hy⟩:=hy
 subst ed1
 replace sd1:LR rI _ d1 y1 g1:=sd1
 replace hy:_=[]:=hy
 subst hy
 refine CallX.of_fits Tryz.mix (fI_intSame _ _) fun _=>?_
 simp only [tI_intSame,T.wp]
 refine⟨fun h0=>?_,fun h=>⟨by trivial,false,rfl,⟨(fun h=>by cases h),(fun e=>by cases e; simp at h)⟩⟩⟩
 refine(cI_sameInts _ _ _ _ _ _ _ sc1 sd1).mono ?_
 rintro V1 r ⟨rfl,b1,rfl,hb1⟩
 refine⟨nofun,b1,rfl,by trivial,b1,rfl,⟨fun h1=>?_,fun e=>by cases e; exact hb1.2 rfl⟩⟩
 have q0:c0=d0:=by simpa using h0
 subst q0
 have q1:x1=y1:=hb1.1 h1
 cases q1
 rfl
theorem cI_MoneySame:EqC Tryz.prog 40 rMoney:=by
 rintro V ⟨c0,c1,c2,cu⟩ ⟨d0,d1,d2,du⟩ ⟨x0,x1,x2,xu⟩ ⟨y0,y1,y2,yu⟩ f f' hx hy
 obtain⟨⟨ec0,zc0⟩,hx⟩:=hx
 replace ec0:c0=x0:=ec0
 subst ec0
 replace zc0:c0.size≤9223372036854775807:=zc0
 obtain⟨ec1,hx⟩:=hx
 replace ec1:c1=x1:=ec1
 subst ec1
 obtain⟨f2,fr2,ec2,sc2,hx⟩:=hx
 subst ec2
 replace sc2:LR rI _ c2 x2 f2:=sc2
 replace hx:_=[]:=hx
 subst hx
 obtain⟨⟨ed0,zd0⟩,hy⟩:=hy
 replace ed0:d0=y0:=ed0
 subst ed0
 replace zd0:d0.size≤9223372036854775807:=zd0
 obtain⟨ed1,hy⟩:=hy
 replace ed1:d1=y1:=ed1
 subst ed1
 obtain⟨g2,gr2,ed2,sd2,hy⟩:=hy
 subst ed2
 replace sd2:LR rI _ d2 y2 g2:=sd2
 replace hy:_=[]:=hy
 subst hy
 refine CallX.of_fits Tryz.mix (fI_MoneySame _ _) fun _=>?_
 simp only [tI_MoneySame,T.wp]
 refine⟨fun h0=>?_,fun h=>⟨by trivial,false,rfl,⟨(fun h=>by cases h),(fun e=>by cases e; simp at h)⟩⟩⟩
 refine(cI_intSame _ _ _ _ _ _ _ (rBool.mk (rSl.mk sc2 rNil.mk)) (rBool.mk (rSl.mk sd2 rNil.mk))).mono ?_
 rintro V1 r ⟨rfl,b1,rfl,hb1⟩
 refine⟨nofun,b1,rfl,by trivial,b1,rfl,⟨fun h1=>?_,fun e=>by cases e; exact hb1.2 rfl⟩⟩
 have q0:c0=d0:=text_eq.1 h0
 subst q0
 have q1:(c1,x2,())=(d1,y2,()):=hb1.1 h1
 cases q1
 rfl
theorem cI_BookSame_1:EqC Tryz.prog 39 rAcct:=by
 rintro V ⟨c0,c1,c2,c3,cu⟩ ⟨d0,d1,d2,d3,du⟩ ⟨x0,x1,x2,x3,xu⟩ ⟨y0,y1,y2,y3,yu⟩ f f' hx hy
 obtain⟨⟨ec0,zc0⟩,hx⟩:=hx
 replace ec0:c0=x0:=ec0
 subst ec0
 replace zc0:c0.size≤9223372036854775807:=zc0
 obtain⟨⟨ec1,zc1⟩,hx⟩:=hx
 replace ec1:c1=x1:=ec1
 subst ec1
 replace zc1:c1.size≤9223372036854775807:=zc1
 obtain⟨ec2,hx⟩:=hx
 replace ec2:c2=x2:=ec2
 subst ec2
 obtain⟨f3,fr3,ec3,sc3,hx⟩:=hx
 subst ec3
 replace sc3:LR rI _ c3 x3 f3:=sc3
 replace hx:_=[]:=hx
 subst hx
 obtain⟨⟨ed0,zd0⟩,hy⟩:=hy
 replace ed0:d0=y0:=ed0
 subst ed0
 replace zd0:d0.size≤9223372036854775807:=zd0
 obtain⟨⟨ed1,zd1⟩,hy⟩:=hy
 replace ed1:d1=y1:=ed1
 subst ed1
 replace zd1:d1.size≤9223372036854775807:=zd1
 obtain⟨ed2,hy⟩:=hy
 replace ed2:d2=y2:=ed2
 subst ed2
 obtain⟨g3,gr3,ed3,sd3,hy⟩:=hy
 subst ed3
 replace sd3:LR rI _ d3 y3 g3:=sd3
 replace hy:_=[]:=hy
 subst hy
 refine CallX.of_fits Tryz.mix (fI_BookSame_1 _ _) fun _=>?_
 simp only [tI_BookSame_1,T.wp]
 refine⟨fun h0=>?_,fun h=>⟨by trivial,false,rfl,⟨(fun h=>by cases h),(fun e=>by cases e; simp at h)⟩⟩⟩
 refine(cI_MoneySame _ _ _ _ _ _ _ (rStr.mk zc1 (rBool.mk (rSl.mk sc3 rNil.mk))) (rStr.mk zd1 (rBool.mk (rSl.mk sd3 rNil.mk)))).mono ?_
 rintro V1 r ⟨rfl,b1,rfl,hb1⟩
 refine⟨nofun,b1,rfl,by trivial,b1,rfl,⟨fun h1=>?_,fun e=>by cases e; exact hb1.2 rfl⟩⟩
 have q0:c0=d0:=text_eq.1 h0
 subst q0
 have q1:(c1,c2,x3,())=(d1,d2,y3,()):=hb1.1 h1
 cases q1
 rfl
theorem cI_ratSame:EqC Tryz.prog 43 rRat:=by
 rintro V ⟨c0,c1,c2,cu⟩ ⟨d0,d1,d2,du⟩ ⟨x0,x1,x2,xu⟩ ⟨y0,y1,y2,yu⟩ f f' hx hy
 obtain⟨ec0,hx⟩:=hx
 replace ec0:c0=x0:=ec0
 subst ec0
 obtain⟨f1,fr1,ec1,sc1,hx⟩:=hx
 subst ec1
 replace sc1:LR rI _ c1 x1 f1:=sc1
 obtain⟨f2,fr2,ec2,sc2,hx⟩:=hx
 subst ec2
 replace sc2:LR rI _ c2 x2 f2:=sc2
 replace hx:_=[]:=hx
 subst hx
 obtain⟨ed0,hy⟩:=hy
 replace ed0:d0=y0:=ed0
 subst ed0
 obtain⟨g1,gr1,ed1,sd1,hy⟩:=hy
 subst ed1
 replace sd1:LR rI _ d1 y1 g1:=sd1
 obtain⟨g2,gr2,ed2,sd2,hy⟩:=hy
 subst ed2
 replace sd2:LR rI _ d2 y2 g2:=sd2
 replace hy:_=[]:=hy
 subst hy
 refine CallX.of_fits Tryz.mix (fI_ratSame _ _) fun _=>?_
 simp only [tI_ratSame,T.wp]
 refine(cI_intSame _ _ _ _ _ _ _ (rBool.mk (rSl.mk sc1 rNil.mk)) (rBool.mk (rSl.mk sd1 rNil.mk))).mono ?_
 rintro V0 r ⟨rfl,b0,rfl,hb0⟩
 refine⟨nofun,b0,rfl,fun h0=>?_,fun h=>⟨by trivial,false,rfl,⟨(fun h=>by cases h),(fun e=>by cases e; simp [hb0.2 rfl] at h)⟩⟩⟩
 refine(cI_sameInts _ _ _ _ _ _ _ sc2 sd2).mono ?_
 rintro V2 r ⟨rfl,b2,rfl,hb2⟩
 refine⟨nofun,b2,rfl,by trivial,b2,rfl,⟨fun h2=>?_,fun e=>by cases e; exact hb2.2 rfl⟩⟩
 have q0:(c0,x1,())=(d0,y1,()):=hb0.1 h0
 cases q0
 have q2:x2=y2:=hb2.1 h2
 cases q2
 rfl
theorem cI_RestsSame_1:EqC Tryz.prog 42 rRest:=by
 rintro V ⟨c0,c1,c2,c3,cu⟩ ⟨d0,d1,d2,d3,du⟩ ⟨x0,x1,x2,x3,xu⟩ ⟨y0,y1,y2,y3,yu⟩ f f' hx hy
 obtain⟨⟨ec0,zc0⟩,hx⟩:=hx
 replace ec0:c0=x0:=ec0
 subst ec0
 replace zc0:c0.size≤9223372036854775807:=zc0
 obtain⟨ec1,hx⟩:=hx
 replace ec1:c1=x1:=ec1
 subst ec1
 obtain⟨f2,fr2,ec2,sc2,hx⟩:=hx
 subst ec2
 replace sc2:LR rI _ c2 x2 f2:=sc2
 obtain⟨f3,fr3,ec3,sc3,hx⟩:=hx
 subst ec3
 replace sc3:LR rI _ c3 x3 f3:=sc3
 replace hx:_=[]:=hx
 subst hx
 obtain⟨⟨ed0,zd0⟩,hy⟩:=hy
 replace ed0:d0=y0:=ed0
 subst ed0
 replace zd0:d0.size≤9223372036854775807:=zd0
 obtain⟨ed1,hy⟩:=hy
 replace ed1:d1=y1:=ed1
 subst ed1
 obtain⟨g2,gr2,ed2,sd2,hy⟩:=hy
 subst ed2
 replace sd2:LR rI _ d2 y2 g2:=sd2
 obtain⟨g3,gr3,ed3,sd3,hy⟩:=hy
 subst ed3
 replace sd3:LR rI _ d3 y3 g3:=sd3
 replace hy:_=[]:=hy
 subst hy
 refine CallX.of_fits Tryz.mix (fI_RestsSame_1 _ _) fun _=>?_
 simp only [tI_RestsSame_1,T.wp]
 refine⟨fun h0=>?_,fun h=>⟨by trivial,false,rfl,⟨(fun h=>by cases h),(fun e=>by cases e; simp at h)⟩⟩⟩
 refine(cI_ratSame _ _ _ _ _ _ _ (rBool.mk (rSl.mk sc2 (rSl.mk sc3 rNil.mk))) (rBool.mk (rSl.mk sd2 (rSl.mk sd3 rNil.mk)))).mono ?_
 rintro V1 r ⟨rfl,b1,rfl,hb1⟩
 refine⟨nofun,b1,rfl,by trivial,b1,rfl,⟨fun h1=>?_,fun e=>by cases e; exact hb1.2 rfl⟩⟩
 have q0:c0=d0:=text_eq.1 h0
 subst q0
 have q1:(c1,x2,x3,())=(d1,y2,y3,()):=hb1.1 h1
 cases q1
 rfl
theorem cI_decSame:EqC Tryz.prog 44 rDec:=by
 rintro V ⟨c0,c1,c2,cu⟩ ⟨d0,d1,d2,du⟩ ⟨x0,x1,x2,xu⟩ ⟨y0,y1,y2,yu⟩ f f' hx hy
 obtain⟨ec0,hx⟩:=hx
 replace ec0:c0=x0:=ec0
 subst ec0
 obtain⟨f1,fr1,ec1,sc1,hx⟩:=hx
 subst ec1
 replace sc1:LR rI _ c1 x1 f1:=sc1
 obtain⟨ec2,hx⟩:=hx
 replace ec2:c2=x2:=ec2
 subst ec2
 replace hx:_=[]:=hx
 subst hx
 obtain⟨ed0,hy⟩:=hy
 replace ed0:d0=y0:=ed0
 subst ed0
 obtain⟨g1,gr1,ed1,sd1,hy⟩:=hy
 subst ed1
 replace sd1:LR rI _ d1 y1 g1:=sd1
 obtain⟨ed2,hy⟩:=hy
 replace ed2:d2=y2:=ed2
 subst ed2
 replace hy:_=[]:=hy
 subst hy
 refine CallX.of_fits Tryz.mix (fI_decSame _ _) fun _=>?_
 simp only [tI_decSame,T.wp]
 refine(cI_intSame _ _ _ _ _ _ _ (rBool.mk (rSl.mk sc1 rNil.mk)) (rBool.mk (rSl.mk sd1 rNil.mk))).mono ?_
 rintro V0 r ⟨rfl,b0,rfl,hb0⟩
 refine⟨nofun,b0,rfl,fun h0=>?_,fun h=>⟨by trivial,false,rfl,⟨(fun h=>by cases h),(fun e=>by cases e; simp [hb0.2 rfl] at h)⟩⟩⟩
 refine⟨by trivial,_,rfl,⟨fun h2=>?_,fun e=>by cases e; simp⟩⟩
 have q0:(c0,x1,())=(d0,y1,()):=hb0.1 h0
 cases q0
 have q2:c2=d2:=by simpa using h2
 subst q2
 rfl
theorem cI_rateSame:EqC Tryz.prog 18 rRate:=by
 rintro V ⟨c0,c1,c2,c3,c4,cu⟩ ⟨d0,d1,d2,d3,d4,du⟩ ⟨x0,x1,x2,x3,x4,xu⟩ ⟨y0,y1,y2,y3,y4,yu⟩ f f' hx hy
 obtain⟨⟨ec0,zc0⟩,hx⟩:=hx
 replace ec0:c0=x0:=ec0
 subst ec0
 replace zc0:c0.size≤9223372036854775807:=zc0
 obtain⟨⟨ec1,zc1⟩,hx⟩:=hx
 replace ec1:c1=x1:=ec1
 subst ec1
 replace zc1:c1.size≤9223372036854775807:=zc1
 obtain⟨ec2,hx⟩:=hx
 replace ec2:c2=x2:=ec2
 subst ec2
 obtain⟨f3,fr3,ec3,sc3,hx⟩:=hx
 subst ec3
 replace sc3:LR rI _ c3 x3 f3:=sc3
 obtain⟨ec4,hx⟩:=hx
 replace ec4:c4=x4:=ec4
 subst ec4
 replace hx:_=[]:=hx
 subst hx
 obtain⟨⟨ed0,zd0⟩,hy⟩:=hy
 replace ed0:d0=y0:=ed0
 subst ed0
 replace zd0:d0.size≤9223372036854775807:=zd0
 obtain⟨⟨ed1,zd1⟩,hy⟩:=hy
 replace ed1:d1=y1:=ed1
 subst ed1
 replace zd1:d1.size≤9223372036854775807:=zd1
 obtain⟨ed2,hy⟩:=hy
 replace ed2:d2=y2:=ed2
 subst ed2
 obtain⟨g3,gr3,ed3,sd3,hy⟩:=hy
 subst ed3
 replace sd3:LR rI _ d3 y3 g3:=sd3
 obtain⟨ed4,hy⟩:=hy
 replace ed4:d4=y4:=ed4
 subst ed4
 replace hy:_=[]:=hy
 subst hy
 refine CallX.of_fits Tryz.mix (fI_rateSame _ _) fun _=>?_
 simp only [tI_rateSame,T.wp]
 refine⟨fun h0=>?_,fun h=>⟨by trivial,false,rfl,⟨(fun h=>by cases h),(fun e=>by cases e; simp at h)⟩⟩⟩
 refine⟨fun h1=>?_,fun h=>⟨by trivial,false,rfl,⟨(fun h=>by cases h),(fun e=>by cases e; simp at h)⟩⟩⟩
 refine(cI_decSame _ _ _ _ _ _ _ (rBool.mk (rSl.mk sc3 (rInt.mk rNil.mk))) (rBool.mk (rSl.mk sd3 (rInt.mk rNil.mk)))).mono ?_
 rintro V2 r ⟨rfl,b2,rfl,hb2⟩
 refine⟨nofun,b2,rfl,by trivial,b2,rfl,⟨fun h2=>?_,fun e=>by cases e; exact hb2.2 rfl⟩⟩
 have q0:c0=d0:=text_eq.1 h0
 subst q0
 have q1:c1=d1:=text_eq.1 h1
 subst q1
 have q2:(c2,x3,c4,())=(d2,y3,d4,()):=hb2.1 h2
 cases q2
 rfl
theorem cX_EqualFunc_Acct:EqSC Tryz.prog 38 rAcct [.func (.func 39) #[] #[]]:=fun _ s s' _ _ _ _ h h'=>CallX.of_fits Tryz.mix (fX_EqualFunc_Acct s s' 39) fun _=>tEqF_wp (g:=39) rfl cI_BookSame_1 h h'
theorem cX_EqualFunc_Rest:EqSC Tryz.prog 41 rRest [.func (.func 42) #[] #[]]:=fun _ s s' _ _ _ _ h h'=>CallX.of_fits Tryz.mix (fX_EqualFunc_Rest s s' 42) fun _=>tEqF_wp (g:=42) rfl cI_RestsSame_1 h h'
theorem cX_EqualFunc_Rate:EqSC Tryz.prog 17 rRate [.func (.func 18) #[] #[]]:=fun _ s s' _ _ _ _ h h'=>CallX.of_fits Tryz.mix (fX_EqualFunc_Rate s s' 18) fun _=>tEqF_wp (g:=18) rfl cI_rateSame h h'
theorem cI_BookSame:EqC Tryz.prog 15 rBook:=by
 rintro V ⟨c0,cu⟩ ⟨d0,du⟩ ⟨x0,xu⟩ ⟨y0,yu⟩ f f' hx hy
 obtain⟨f0,fr0,ec0,sc0,hx⟩:=hx
 subst ec0
 replace sc0:LR rAcct _ c0 x0 f0:=sc0
 replace hx:_=[]:=hx
 subst hx
 obtain⟨g0,gr0,ed0,sd0,hy⟩:=hy
 subst ed0
 replace sd0:LR rAcct _ d0 y0 g0:=sd0
 replace hy:_=[]:=hy
 subst hy
 refine CallX.of_fits Tryz.mix (fI_BookSame _ _) fun _=>?_
 simp only [tI_BookSame,T.wp]
 refine(cX_EqualFunc_Acct _ _ _ _ _ _ _ sc0 sd0).mono ?_
 rintro V0 r ⟨rfl,b0,rfl,hb0⟩
 refine⟨nofun,b0,rfl,by trivial,b0,rfl,⟨fun h0=>?_,fun e=>by cases e; exact hb0.2 rfl⟩⟩
 have q0:x0=y0:=hb0.1 h0
 cases q0
 rfl
theorem cI_RestsSame:EqSC Tryz.prog 16 rRest:=by
 intro V s s' l l' f f' h h'
 refine CallX.of_fits Tryz.mix (fI_RestsSame _ _) fun _=>?_
 simp only [tI_RestsSame,T.wp]
 refine(cX_EqualFunc_Rest V s s' l l' f f' h h').mono ?_
 rintro V' r ⟨rfl,b,rfl,hb⟩
 exact⟨nofun,b,rfl,rfl,b,rfl,hb⟩
theorem cI_LedgerSame:EqC Tryz.prog 7 rLedger:=by
 rintro V ⟨c0,c1,c2,c3,cu⟩ ⟨d0,d1,d2,d3,du⟩ ⟨x0,x1,x2,x3,xu⟩ ⟨y0,y1,y2,y3,yu⟩ f f' hx hy
 obtain⟨f0,fr0,ec0,sc0,hx⟩:=hx
 subst ec0
 replace sc0:LR rAcct _ c0 x0 f0:=sc0
 obtain⟨f1,fr1,ec1,sc1,hx⟩:=hx
 subst ec1
 replace sc1:LR rRest _ c1 x1 f1:=sc1
 obtain⟨⟨ec2,zc2⟩,hx⟩:=hx
 replace ec2:c2=x2:=ec2
 subst ec2
 replace zc2:c2.size≤9223372036854775807:=zc2
 obtain⟨f3,fr3,ec3,sc3,hx⟩:=hx
 subst ec3
 replace sc3:LR rRate _ c3 x3 f3:=sc3
 replace hx:_=[]:=hx
 subst hx
 obtain⟨g0,gr0,ed0,sd0,hy⟩:=hy
 subst ed0
 replace sd0:LR rAcct _ d0 y0 g0:=sd0
 obtain⟨g1,gr1,ed1,sd1,hy⟩:=hy
 subst ed1
 replace sd1:LR rRest _ d1 y1 g1:=sd1
 obtain⟨⟨ed2,zd2⟩,hy⟩:=hy
 replace ed2:d2=y2:=ed2
 subst ed2
 replace zd2:d2.size≤9223372036854775807:=zd2
 obtain⟨g3,gr3,ed3,sd3,hy⟩:=hy
 subst ed3
 replace sd3:LR rRate _ d3 y3 g3:=sd3
 replace hy:_=[]:=hy
 subst hy
 refine CallX.of_fits Tryz.mix (fI_LedgerSame _ _) fun _=>?_
 simp only [tI_LedgerSame,T.wp]
 refine(cI_BookSame _ _ _ _ _ _ _ (rSl.mk sc0 rNil.mk) (rSl.mk sd0 rNil.mk)).mono ?_
 rintro V0 r ⟨rfl,b0,rfl,hb0⟩
 refine⟨nofun,b0,rfl,fun h0=>?_,fun h=>⟨by trivial,false,rfl,⟨(fun h=>by cases h),(fun e=>by cases e; simp [hb0.2 rfl] at h)⟩⟩⟩
 refine(cI_RestsSame _ _ _ _ _ _ _ sc1 sd1).mono ?_
 rintro V1 r ⟨rfl,b1,rfl,hb1⟩
 refine⟨nofun,b1,rfl,fun h1=>?_,fun h=>⟨by trivial,false,rfl,⟨(fun h=>by cases h),(fun e=>by cases e; simp [hb1.2 rfl] at h)⟩⟩⟩
 refine⟨fun h2=>?_,fun h=>⟨by trivial,false,rfl,⟨(fun h=>by cases h),(fun e=>by cases e; simp at h)⟩⟩⟩
 refine(cX_EqualFunc_Rate _ _ _ _ _ _ _ sc3 sd3).mono ?_
 rintro V3 r ⟨rfl,b3,rfl,hb3⟩
 refine⟨nofun,b3,rfl,by trivial,b3,rfl,⟨fun h3=>?_,fun e=>by cases e; exact hb3.2 rfl⟩⟩
 have q0:(x0,())=(y0,()):=hb0.1 h0
 cases q0
 have q1:x1=y1:=hb1.1 h1
 cases q1
 have q2:c2=d2:=text_eq.1 h2
 subst q2
 have q3:x3=y3:=hb3.1 h3
 cases q3
 rfl
end Go.Proofs.YtpdfdkccgkieoaaGreatDoor
namespace Go.Proofs.YtpdfdkccgkieoaaGreatDoor
open Sx
set_option maxRecDepth 100000
abbrev OkE (V:Know) (p:Prop):Know→Value→Prop:=fun V' r=>V'=V∧∃ e,r=.bool e∧(e=true↔p)
theorem okE_no {V:Know} {p:Prop} (k:¬ p):OkE V p V (.bool false):=⟨rfl,false,rfl,⟨(fun e=>by cases e),fun e=>absurd e k⟩⟩
theorem okE_yes {V:Know} {p:Prop} (k:p):OkE V p V (.bool true):=⟨rfl,true,rfl,⟨fun _=>k,fun _=>rfl⟩⟩
theorem okE_dec {V:Know} {p q:Prop} [Decidable q] (h:q↔p):OkE V p V (.bool (decide q)):=⟨rfl,decide q,rfl,by rw [decide_eq_true_eq]; exact h⟩
theorem okE_b {V:Know} {p:Prop} {e:Bool} (h:e=true↔p):OkE V p V (.bool e):=⟨rfl,e,rfl,h⟩
theorem mem_limb {l:List Lim} {x:Int}:(x,())∈l↔∃ i,i<l.length∧limb l i=x:=by
 constructor
 ·intro h
  obtain⟨i,hi,e⟩:=List.getElem_of_mem h
  exact⟨i,hi,by rw [limb_lt hi,e]⟩
 ·rintro⟨i,hi,e⟩
  rw [limb_lt hi] at e
  have:l[i]=(x,()):=Prod.ext e rfl
  rw [← this]
  exact List.getElem_mem hi
theorem find_wp {P:Program} {K:Know→List Value→Prop} {V V0:Know} {s:SlV} {l:List Lim} {f:List Nat} {p:Int→Prop} {body:LShs [.o (.o (.i .i64))]→T} (h:LR rI V s l f)
  (hbody:∀ (i:Nat) (_:i<l.length) (N:List LV→Know→Prop),(p (limb l i)→K V [.int .i64 (i:Int)])→(¬ p (limb l i)→N [.v (.int .i64 (IntKind.i64.wrap ((i:Int)+1)))] V)→(body ((i:Int),())).wp P K V V [N])
  (hyes:∀ i:Nat,i<l.length→p (limb l i)→K V [.int .i64 (i:Int)]) (hno:(∀ i,i<l.length→¬ p (limb l i))→K V [.int .i64 (-1:Int)]) :
  (T.lp [.o (.o (.i .i64))] [.v (.int .i64 (0:Int))] fun y=>.br (decide (y.fst<(s.n:Int))) (body y) (.ret [.int .i64 (-1:Int)])).wp P K V V0 []:=by
 simp only [T.wp]
 have hn:=h.1
 have hb:=h.2.2.1
 refine⟨fun y V'=>V'=V∧∃ i:Nat,y.1=(i:Int)∧i≤l.length∧∀ j,j<i→¬ p (limb l j),fun y=>((l.length:Int)-(y.1:Int)).toNat,⟨((0:Int),()),rfl,rfl,0,rfl,by omega,fun j hj=>by omega⟩,?_⟩
 rintro⟨(i:Int),u⟩ V' ⟨rfl,k,hk,hle,hall⟩
 replace hk:i=(k:Int):=hk
 subst hk
 refine⟨fun hlt=>?_,fun hge=>?_⟩
 ·have h1:k<l.length:=by
   have:(k:Int)<(s.n:Int):=of_decide_eq_true hlt
   omega
  refine hbody k h1 _ (hyes k h1) fun he=>?_
  refine⟨(((k+1:Nat):Int),()),by rw [nxt h1 (by omega)]; rfl,⟨rfl,k+1,rfl,h1,fun j hj=>?_⟩,?_⟩
  ·by_cases e:j=k
   ·subst e; exact he
   ·exact hall j (by omega)
  ·show((l.length:Int)-((k+1:Nat):Int)).toNat<((l.length:Int)-(k:Int)).toNat
   omega
 ·have h1:k=l.length:=by
   have:¬ (k:Int)<(s.n:Int):=of_decide_eq_false hge
   omega
  subst h1
  exact hno hall
def AtOf (l:List Lim) (p:Int→Prop) (n:Int):Prop:=(0≤n∧∃ i,i<l.length∧p (limb l i))∨(n=-1∧∀ i,i<l.length→¬ p (limb l i))
theorem atOf_iff {l:List Lim} {p:Int→Prop} {n:Int} (h:AtOf l p n):n≥0↔∃ i,i<l.length∧p (limb l i):=by
 rcases h with ⟨h1,h2⟩ | ⟨h1,h2⟩
 ·exact⟨fun _=>h2,fun _=>h1⟩
 ·subst h1
  exact⟨fun h=>by omega,fun⟨i,hi,hp⟩=>absurd hp (h2 i hi)⟩
theorem cI_Index (V:Know) (s:SlV) (l:List Lim) (f:List Nat) (x:Int) (h:LR rI V s l f):CallX Tryz.prog V 131 [Sc.val .l s,.int .i64 x] (fun V' r=>V'=V∧∃ n,r=.int .i64 n∧AtOf l (fun y=>x=y) n):=by
 refine CallX.of_fits Tryz.mix (fX_Index_int _ _) fun _=>?_
 rw [tX_Index_int]
 refine find_wp (p:=fun y=>x=y) h (fun i hi N hy hN=>?_) (fun i hi he=>⟨rfl,_,rfl,.inl ⟨by omega,i,hi,he⟩⟩) (fun hno=>⟨rfl,_,rfl,.inr ⟨rfl,hno⟩⟩)
 obtain⟨b,o,a1,l1⟩:=h.int hi
 have hn:=h.1
 have e1:l[i].1=limb l i:=(limb_lt hi).symm
 rw [e1] at l1
 refine⟨_,a1,(by omega:(0:Int)≤(i:Int)),(by omega:(i:Int)<(s.n:Int)),limb l i,l1,fun he=>hy (by simpa using he),fun he=>⟨_,rfl,hN (by simpa using he)⟩⟩
theorem cI_Contains (V:Know) (s:SlV) (l:List Lim) (f:List Nat) (x:Int) (h:LR rI V s l f):CallX Tryz.prog V 86 [Sc.val .l s,.int .i64 x] (OkE V ((x,())∈l)):=by
 refine CallX.of_fits Tryz.mix (fX_Contains_int _ _) fun _=>?_
 simp only [tX_Contains_int,T.wp]
 refine(cI_Index V s l f x h).mono ?_
 rintro V1 r ⟨rfl,n,rfl,hn⟩
 refine⟨nofun,n,rfl,okE_dec ?_⟩
 rw [atOf_iff hn,mem_limb]
 exact⟨fun⟨i,hi,e⟩=>⟨i,hi,e.symm⟩,fun⟨i,hi,e⟩=>⟨i,hi,e.symm⟩⟩
def CodeP (s:ByteArray):Prop:=s.size=3∧∀ i,i<3→65≤at0 s i∧at0 s i≤90
theorem cI_IsCode (V:Know) (s:ByteArray):CallX Tryz.prog V 132 [.string s] (OkE V (CodeP s)):=by
 refine CallX.of_fits Tryz.mix (fI_IsCode _) fun _=>?_
 simp only [tI_IsCode,T.wp]
 refine⟨fun h=>okE_no fun k=>?_,fun h=>?_⟩
 ·have:¬ (s.size:Int)=3:=by simpa using h
  have:=k.1
  omega
 have q:(s.size:Int)=3:=by simpa using h
 refine⟨fun y V'=>V'=V∧∃ i:Nat,y.1=(i:Int)∧i≤3∧∀ j,j<i→65≤at0 s j∧at0 s j≤90,fun y=>(3-(y.1:Int)).toNat,⟨((0:Int),()),rfl,rfl,0,rfl,by omega,fun j hj=>by omega⟩,?_⟩
 rintro⟨(i:Int),u⟩ V' ⟨rfl,k,hk,hle,hall⟩
 replace hk:i=(k:Int):=hk
 subst hk
 refine⟨fun hlt=>?_,fun hge=>?_⟩
 ·have h3:(k:Int)<3:=of_decide_eq_true hlt
  have e0:(k:Int).toNat=k:=by omega
  dsimp only
  rw [e0]
  have hin:(0:Int)≤(k:Int)∧(k:Int)<(s.size:Int):=⟨by omega,by omega⟩
  refine⟨hin,fun h1=>okE_no fun kk=>?_,fun h1=>⟨hin,fun h2=>okE_no fun kk=>?_,fun h2=>?_⟩⟩
  ·have:=of_decide_eq_true h1
   have:=(kk.2 k (by omega)).1
   omega
  ·have:=of_decide_eq_true h2
   have:=(kk.2 k (by omega)).2
   omega
  ·refine⟨_,rfl,(((k+1:Nat):Int),()),by rw [wrap_i64 (by omega)]; rfl,⟨rfl,k+1,rfl,by omega,fun j hj=>?_⟩,?_⟩
   ·by_cases e:j=k
    ·subst e
     have:=of_decide_eq_false h1
     have:=of_decide_eq_false h2
     omega
    ·exact hall j (by omega)
   ·show(3-((k+1:Nat):Int)).toNat<(3-(k:Int)).toNat
    omega
 ·have h3:¬ (k:Int)<3:=of_decide_eq_false hge
  exact okE_yes ⟨by omega,fun i hi=>hall i (by omega)⟩
theorem cI_sameIntsC (V:Know) (s s':SlV) (l l':List Lim) (f f':List Nat) (h:LR rI V s l f) (h':LR rI V s' l' f'):CallX Tryz.prog V 84 [Sc.val .l s,Sc.val .l s'] (OkE V (l=l')):=CallX.of_fits Tryz.mix (fI_sameInts s s') fun _=>tEqI_wp h h'
theorem cI_intSameC (V:Know) (n n':Bool) (s s':SlV) (l l':List Lim) (f f':List Nat) (h:LR rI V s l f) (h':LR rI V s' l' f'):CallX Tryz.prog V 83 [qv1 (n,s,()),qv1 (n',s',())] (OkE V (n=n'∧l=l')):=by
 refine CallX.of_fits Tryz.mix (fI_intSame _ _) fun _=>?_
 simp only [tI_intSame,T.wp]
 refine⟨fun h1=>(cI_sameIntsC V s s' l l' f f' h h').mono ?_,fun h1=>okE_no fun k=>?_⟩
 ·have q:n=n':=by simpa using h1
  rintro V1 r ⟨rfl,e,rfl,he⟩
  exact⟨nofun,e,rfl,okE_b ⟨fun hh=>⟨q,he.1 hh⟩,fun k=>he.2 k.2⟩⟩
 ·have q:¬ n=n':=by simpa using h1
  exact q k.1
theorem cI_decSameC (V:Know) (n n':Bool) (s s':SlV) (x x':Int) (l l':List Lim) (f f':List Nat) (h:LR rI V s l f) (h':LR rI V s' l' f'):CallX Tryz.prog V 44 [decV n s x,decV n' s' x'] (OkE V ((n=n'∧l=l')∧x=x')):=by
 refine CallX.of_fits Tryz.mix (fI_decSame _ _) fun _=>?_
 simp only [tI_decSame,T.wp]
 refine(cI_intSameC V n n' s s' l l' f f' h h').mono ?_
 rintro V1 r ⟨rfl,e,rfl,he⟩
 refine⟨nofun,e,rfl,fun ht=>okE_b ⟨fun hh=>⟨he.1 ht,by simpa using hh⟩,fun k=>by simp [k.2]⟩,fun hf=>okE_no fun k=>?_⟩
 rw [he.2 k.1] at hf; cases hf
def ZeroD (n:Bool) (l:List Lim) (x:Int):Prop:=(n=false∧l=[])∧x=0
theorem cI_decIsZero (V:Know) (n:Bool) (s:SlV) (x:Int) (l:List Lim) (f:List Nat) (h:LR rI V s l f):CallX Tryz.prog V 130 [decV n s x] (OkE V (ZeroD n l x)):=by
 refine CallX.of_fits Tryz.mix (fI_decIsZero _) fun _=>?_
 simp only [tI_decIsZero,T.wp]
 refine(cI_decSameC V n false s ⟨none,0,0⟩ x 0 l [] f [] h lr_nil0).mono ?_
 rintro V1 r ⟨rfl,e,rfl,he⟩
 exact⟨nofun,e,rfl,okE_b he⟩
end Go.Proofs.YtpdfdkccgkieoaaGreatDoor
namespace Go.Proofs.YtpdfdkccgkieoaaGreatDoor
open Sx
set_option maxRecDepth 100000
def fieldsL (op:Int):List Lim :=
 if op=1 then [(0,()),(3,())] else if op=2 then [(0,()),(4,())] else if op=3 then [(0,()),(4,())] else if op=4 then [(0,()),(1,()),(4,())] else
 if op=5 then [(0,()),(1,()),(4,()),(7,())] else if op=6 then [(0,()),(4,()),(5,())] else if op=7 then [(0,()),(1,()),(2,()),(4,()),(6,()),(7,())] else
 if op=8 then [(0,()),(7,())] else if op=9 then [(8,())] else []
theorem cI_fieldsOf (V:Know) (op:Int):CallX Tryz.prog V 50 [.int .i64 op] (fun V' r=>V.le V'∧∃ s f,r=Sc.val .l s∧LR rI V' s (fieldsL op) f∧Own V V' f):=by
 refine CallX.of_fits Tryz.mix (fI_fieldsOf _) fun _=>?_
 have go:∀ (o:List Lim),fieldsL op=o→o.length≤6→∀ b cap spare,V b=none→o.length≤cap →
   V.le (kset V b (o.map cellI++spare,(3,(0,0))))∧∃ s f,Value.slice (some ⟨b,0,none⟩) o.length cap=Sc.val .l s∧LR rI (kset V b (o.map cellI++spare,(3,(0,0)))) s (fieldsL op) f∧Own V (kset V b (o.map cellI++spare,(3,(0,0)))) f:=by
  intro o ho hl b cap spare hb hc
  have k:=newI (V:=V) (b:=b) (cap:=cap) (o:=o) (spare:=spare) (t:=3) hb hc (by omega)
  exact⟨kset_le hb,⟨some ⟨b,0,none⟩,o.length,cap⟩,[b],rfl,by rw [ho]; exact k.1,k.2⟩
 simp only [tI_fieldsOf,T.wp]
 refine⟨fun h1=>?_,fun h1=>⟨fun h2=>?_,fun h2=>⟨fun h3=>?_,fun h3=>⟨fun h4=>?_,fun h4=>⟨fun h5=>?_,fun h5=>⟨fun h6=>?_,fun h6=>⟨fun h7=>?_,fun h7=>⟨fun h8=>?_,fun h8=>⟨fun h9=>?_,fun h9=>?_⟩⟩⟩⟩⟩⟩⟩⟩⟩
 ·obtain rfl:op=1:=by simpa using h1
  exact fun b cap spare hb hc _=>go [(0,()),(3,())] rfl (by decide) b cap spare hb hc
 ·obtain rfl:op=2:=by simpa using h2
  exact fun b cap spare hb hc _=>go [(0,()),(4,())] rfl (by decide) b cap spare hb hc
 ·obtain rfl:op=3:=by simpa using h3
  exact fun b cap spare hb hc _=>go [(0,()),(4,())] rfl (by decide) b cap spare hb hc
 ·obtain rfl:op=4:=by simpa using h4
  exact fun b cap spare hb hc _=>go [(0,()),(1,()),(4,())] rfl (by decide) b cap spare hb hc
 ·obtain rfl:op=5:=by simpa using h5
  exact fun b cap spare hb hc _=>go [(0,()),(1,()),(4,()),(7,())] rfl (by decide) b cap spare hb hc
 ·obtain rfl:op=6:=by simpa using h6
  exact fun b cap spare hb hc _=>go [(0,()),(4,()),(5,())] rfl (by decide) b cap spare hb hc
 ·obtain rfl:op=7:=by simpa using h7
  exact fun b cap spare hb hc _=>go [(0,()),(1,()),(2,()),(4,()),(6,()),(7,())] rfl (by decide) b cap spare hb hc
 ·obtain rfl:op=8:=by simpa using h8
  exact fun b cap spare hb hc _=>go [(0,()),(7,())] rfl (by decide) b cap spare hb hc
 ·obtain rfl:op=9:=by simpa using h9
  exact fun b cap spare hb hc _=>go [(8,())] rfl (by decide) b cap spare hb hc
 ·refine⟨Know.le.refl _,⟨none,0,0⟩,[],rfl,?_,Own.nil⟩
  have e:fieldsL op=[]:=by
   simp only [beq_eq_false_iff_ne,ne_eq] at h1 h2 h3 h4 h5 h6 h7 h8 h9
   unfold fieldsL
   rw [if_neg h1,if_neg h2,if_neg h3,if_neg h4,if_neg h5,if_neg h6,if_neg h7,if_neg h8,if_neg h9]
  rw [e]
  exact lr_nil0
abbrev noT:ByteArray:=⟨⟨[]⟩⟩
theorem ld_atC {V:Know} {b:Nat} {cs l:List Value} {t:KTy} (hV:V b=some (cs,t)) {k n:Nat} (h:cutv cs k n=some l):loadV V ((⟨b,0,none⟩:Addr).add k) n=some l:=by
 simp only [loadV,addr_add_eq,hV,Nat.zero_add]
 exact h
theorem ld_at2 {V:Know} {b:Nat} {cs l:List Value} {t:KTy} (hV:V b=some (cs,t)) {j k n:Nat} (h:cutv cs (j+k) n=some l):loadV V (((⟨b,0,none⟩:Addr).add j).add k) n=some l:=by
 simp only [loadV,addr_add_eq,hV,Nat.zero_add]
 exact h
end Go.Proofs.YtpdfdkccgkieoaaGreatDoor
