/-
  Copies that share no memory.
-/
import Derived.Test.YtahmmgiiojjhgaaGreatDoorTA
import Derived.Test.YtahmmgiiojjhgaaGreatDoorWr
import Derived.Test.YtahmmgiiojjhgaaGreatDoorLoopT
import Derived.Test.YtahmmgiiojjhgaaGreatDoorRep
import Derived.ChangeKeysEq
import Derived.Carry
import Derived.Test.YtahmmgiiojjhgaaGreatDoorChecked
import Derived.Conc.MuLone
import Derived.KernelRfl
namespace Go.Proofs.YtahmmgiiojjhgaaGreatDoor
open Go.Proofs.Tryz (prog)
open Go.IntKind
open Sx
set_option maxRecDepth 100000
theorem a8.mk {V:aa}:a8.R V () () []:=rfl
theorem np.mk {sh:List Sc} {α:Type} {r:Rp sh α} {V:aa} {c:aH sh} {x:α} {fp:List Nat} {n:Int} (h:r.R V c x fp):(np r).R V (n,c) (n,x) fp:=⟨rfl,h⟩
theorem bB.mk {sh:List Sc} {α:Type} {r:Rp sh α} {V:aa} {c:aH sh} {x:α} {fp:List Nat} {n:Bool} (h:r.R V c x fp):(bB r).R V (n,c) (n,x) fp:=⟨rfl,h⟩
theorem cr.mk {sh:List Sc} {α:Type} {r:Rp sh α} {V:aa} {c:aH sh} {x:α} {fp:List Nat} {n:ByteArray} (z:n.size<=9223372036854775807) (h:r.R V c x fp):(cr r).R V (n,c) (n,x) fp:=⟨⟨rfl,z⟩,h⟩
theorem cC.mk {se sh:List Sc} {α β:Type} {e:Rp se α} {r:Rp sh β} {V:aa} {s:ar} {l:List α} {c:aH sh} {x:β} {f g:List Nat} (hs:LR e V s l f) (h:r.R V c x g):(cC e r).R V (s,c) (l,x) (f++g):=⟨f,g,rfl,hs,h⟩
theorem fa {t:Nat} {left:Int} (h:¬ (t:Int)<=left):gy t left=-1:=if_neg h
abbrev DSigned:Type:=Bool × List (Int × Unit) × Unit
abbrev dA:Rp [.b,.l] DSigned:=bB (cC rI (a8))
abbrev a6:Type:=ByteArray × Bool × List (Int × Unit) × Unit
abbrev aY:Rp [.s,.b,.l] a6:=cr (bB (cC rI (a8)))
abbrev aE:Type:=ByteArray × ByteArray × Bool × List (Int × Unit) × Unit
abbrev aw:Rp [.s,.s,.b,.l] aE:=cr (cr (bB (cC rI (a8))))
abbrev DBook:Type:=List aE × Unit
abbrev iX:Rp [.l] DBook:=cC aw (a8)
abbrev DRat:Type:=Bool × List (Int × Unit) × List (Int × Unit) × Unit
abbrev rW:Rp [.b,.l,.l] DRat:=bB (cC rI (cC rI (a8)))
abbrev iY:Type:=ByteArray × Bool × List (Int × Unit) × List (Int × Unit) × Unit
abbrev aS:Rp [.s,.b,.l,.l] iY:=cr (bB (cC rI (cC rI (a8))))
abbrev DDec:Type:=Bool × List (Int × Unit) × Int × Unit
abbrev FX:Rp [.b,.l,.i .i64] DDec:=bB (cC rI (np (a8)))
abbrev aW:Type:=ByteArray × ByteArray × Bool × List (Int × Unit) × Int × Unit
abbrev az:Rp [.s,.s,.b,.l,.i .i64] aW:=cr (cr (bB (cC rI (np (a8)))))
abbrev iZ:Type:=ByteArray × List aW × Unit
abbrev cZ:Rp [.s,.l] iZ:=cr (cC az (a8))
abbrev ao:Type:=List aE × List iY × ByteArray × List aW × Unit
abbrev aj:Rp [.l,.l,.s,.l] ao:=cC aw (cC aS (cr (cC az (a8))))
theorem DZ:XS prog 191 rI:=fun _ s s' _ _ _ _ h h'=>aM (T4 s s') fun _=>E6 h h'
theorem FY:∀ l:List (Int × Unit),aC rI l=0
 | []=>rfl
 | _ :: l=>by rw [aC,FY l]; rfl
theorem D0:SzSC prog 121 rI:=by
 intro V s l f left h h0 h1;refine aM (TG _ _) fun _=>?_
 simp only [Df,T.wp];have hn:=h.1;have hb:=h.2.2.1;have hw:i64.wrap (left-(s.n:Int))=left-(s.n:Int):=wrap_i64 (by omega);rw [hw,FY];refine⟨fun h=>⟨by trivial,?_⟩,fun h=>⟨by trivial,?_⟩⟩
 ·have hh:left-(s.n:Int)<0:=by simpa using h
  rw [fa (by omega)]; rfl
 have hh:¬ left-(s.n:Int)<0:=by simpa using h
 rw [dC (by omega),hn]; rfl
theorem D1:MT prog 161 rI:=fun _ s _ _ h ht=>aM (TV s) fun _=>tToI_wp h ht
theorem pL:XT prog 120 dA:=by
 rintro V ⟨c0,c1,cu⟩ ⟨x0,x1,xu⟩ f left hx h0 h1;obtain⟨bL,hx⟩:=hx;replace bL:c0=x0:=bL;subst bL;obtain⟨f1,vv,cj,ee,hx⟩:=hx;subst cj;replace ee:LR rI _ c1 x1 f1:=ee;replace hx:_=[]:=hx;subst hx;refine aM (IT _ _) fun _=>?_
 simp only [xq,T.wp];refine(D0 _ _ _ _ left ee (by omega) (by omega)).mono ?_
 rintro V1 r ⟨rfl,rfl⟩;have t1:(x1.length+aC rI x1)=(x1.length+aC rI x1):=rfl;refine⟨nofun,gy ((x1.length+aC rI x1)) left,rfl,fun h=>?_,fun h1=>?_⟩
 ·have hh:=dk.1 (bq h)
  exact⟨by trivial,by show Value.int .i64 (-1)=Value.int .i64 (gy ((x1.length+aC rI x1+0)) left); rw [fa (by omega)]⟩
 have UU:(((x1.length+aC rI x1):Nat):Int)<=left:=Decidable.not_not.1 fun k=>(bU h1) (dk.2 k)
 rw [dC UU];refine⟨by trivial,?_⟩
 show Value.int .i64 (left-(((x1.length+aC rI x1):Nat):Int))=Value.int .i64 (gy ((x1.length+aC rI x1+0)) left)
 rw [dC (by omega)]
 congr 1 <;> omega
theorem pM:zy prog 160 dA:=by
 rintro V ⟨c0,c1,cu⟩ ⟨x0,x1,xu⟩ f hx ht;obtain⟨bL,hx⟩:=hx;replace bL:c0=x0:=bL;subst bL;obtain⟨f1,vv,cj,ee,hx⟩:=hx;subst cj;replace ee:LR rI _ c1 x1 f1:=ee;replace hx:_=[]:=hx;subst hx;replace ht:(x1.length+aC rI x1+0)<=1048576:=ht;refine aM (I5 _) fun _=>?_
 simp only [xz,T.wp];refine(D1 _ _ x1 _ ee (by omega)).mono ?_
 rintro V1 r ⟨eC,d1,k1,rfl,jw,UW⟩;refine⟨nofun,d1,rfl,?_⟩
 exact⟨eC,(c0,d1,()),_,rfl,(bB.mk (cC.mk jw a8.mk)),by simpa using UW⟩
theorem pN:SW prog 190 dA:=by
 rintro V ⟨c0,c1,cu⟩ ⟨d0,d1,du⟩ ⟨x0,x1,xu⟩ ⟨y0,y1,yu⟩ f f' hx hy;obtain⟨bL,hx⟩:=hx;replace bL:c0=x0:=bL;subst bL;obtain⟨f1,vv,cj,ee,hx⟩:=hx;subst cj;replace ee:LR rI _ c1 x1 f1:=ee;replace hx:_=[]:=hx;subst hx;obtain⟨gq,hy⟩:=hy;replace gq:d0=y0:=gq;subst gq;obtain⟨g1,gr1,ja,jw,hy⟩:=hy;subst ja;replace jw:LR rI _ d1 y1 g1:=jw;replace hy:_=[]:=hy;subst hy;refine aM (Jb _ _) fun _=>?_
 simp only [xC,T.wp];refine⟨fun h=>⟨by trivial,false,rfl,⟨(fun h=>by cases h),(fun e=>by cases e; simp at h)⟩⟩,fun h0=>?_⟩
 refine(DZ _ _ _ _ _ _ _ ee jw).mono ?_
 rintro V1 r ⟨rfl,b1,rfl,fW⟩;refine⟨nofun,b1,rfl,fun h=>⟨by trivial,false,rfl,⟨(fun h=>by cases h),(fun e=>by cases e; simp [fW.2 rfl] at h)⟩⟩,fun h1=>?_⟩
 refine⟨by trivial,true,rfl,⟨fun _=>?_,fun _=>rfl⟩⟩
 have q0:c0=d0:=by simpa using h0
 subst q0;have q1:x1=y1:=fW.1 (by simpa using h1);cases q1
 rfl
theorem Pu:XT prog 119 aY:=by
 rintro V ⟨c0,c1,c2,cu⟩ ⟨x0,x1,x2,xu⟩ f left hx h0 h1;obtain⟨⟨bL,dz⟩,hx⟩:=hx;replace bL:c0=x0:=bL;subst bL;replace dz:c0.size<=9223372036854775807:=dz;obtain⟨cj,hx⟩:=hx;replace cj:c1=x1:=cj;subst cj;obtain⟨f2,Hq,cW,dU,hx⟩:=hx;subst cW;replace dU:LR rI _ c2 x2 f2:=dU;replace hx:_=[]:=hx;subst hx;refine aM (N8 _ _) fun _=>?_
 simp only [z6,T.wp];have w0:i64.wrap (left-(c0.size:Int))=left-(c0.size:Int):=wrap_i64 (by omega);rw [w0];refine⟨fun h=>?_,fun h0=>?_⟩
 ·have hh:(left-(c0.size:Int))<0:=by simpa using h
  exact⟨by trivial,by show Value.int .i64 (-1)=Value.int .i64 (gy ((c0.size+(x2.length+aC rI x2+0))) left); rw [fa (by omega)]⟩
 have hh0:0<=(left-(c0.size:Int)):=by
  have:¬ (left-(c0.size:Int))<0:=by simpa using h0
  omega
 refine(pL _ _ (c1,x2,()) _ (left-(c0.size:Int)) (bB.mk (cC.mk dU a8.mk)) (by omega) (by omega)).mono ?_
 rintro V1 r ⟨rfl,rfl⟩;have t1:dA.cB (c1,x2,())=(x2.length+aC rI x2+0):=rfl;refine⟨nofun,gy (dA.cB (c1,x2,())) (left-(c0.size:Int)),rfl,fun h=>?_,fun h1=>?_⟩
 ·have hh:=dk.1 (bq h)
  exact⟨by trivial,by show Value.int .i64 (-1)=Value.int .i64 (gy ((c0.size+(x2.length+aC rI x2+0))) left); rw [fa (by omega)]⟩
 have UU:((dA.cB (c1,x2,()):Nat):Int)<=(left-(c0.size:Int)):=Decidable.not_not.1 fun k=>(bU h1) (dk.2 k)
 rw [dC UU];refine⟨by trivial,?_⟩
 show Value.int .i64 ((left-(c0.size:Int))-((dA.cB (c1,x2,()):Nat):Int))=Value.int .i64 (gy ((c0.size+(x2.length+aC rI x2+0))) left)
 rw [dC (by omega)]
 congr 1 <;> omega
theorem Pv:zy prog 159 aY:=by
 rintro V ⟨c0,c1,c2,cu⟩ ⟨x0,x1,x2,xu⟩ f hx ht;obtain⟨⟨bL,dz⟩,hx⟩:=hx;replace bL:c0=x0:=bL;subst bL;replace dz:c0.size<=9223372036854775807:=dz;obtain⟨cj,hx⟩:=hx;replace cj:c1=x1:=cj;subst cj;obtain⟨f2,Hq,cW,dU,hx⟩:=hx;subst cW;replace dU:LR rI _ c2 x2 f2:=dU;replace hx:_=[]:=hx;subst hx;replace ht:(c0.size+(x2.length+aC rI x2+0))<=1048576:=ht;refine aM (Oe _) fun _=>?_
 simp only [Ae,T.wp];refine(pM _ _ (c1,x2,()) _ (bB.mk (cC.mk dU a8.mk)) (by show(x2.length+aC rI x2+0)<=1048576; omega)).mono ?_
 rintro V1 r ⟨eC,⟨d1,d2,du1⟩,k1,rfl,jk,UW⟩;obtain⟨ja,jk⟩:=jk;replace ja:d1=c1:=ja;subst ja;obtain⟨k1f2,k1r2,ki,pO,jk⟩:=jk;subst ki;replace pO:LR rI _ d2 x2 k1f2:=pO;replace jk:_=[]:=jk;subst jk;refine⟨nofun,(d1,d2,()),rfl,?_⟩
 exact⟨eC,(c0,d1,d2,()),_,rfl,(cr.mk dz (bB.mk (cC.mk pO a8.mk))),by simpa using UW⟩
theorem Pw:SW prog 189 aY:=by
 rintro V ⟨c0,c1,c2,cu⟩ ⟨d0,d1,d2,du⟩ ⟨x0,x1,x2,xu⟩ ⟨y0,y1,y2,yu⟩ f f' hx hy;obtain⟨⟨bL,dz⟩,hx⟩:=hx;replace bL:c0=x0:=bL;subst bL;replace dz:c0.size<=9223372036854775807:=dz;obtain⟨cj,hx⟩:=hx;replace cj:c1=x1:=cj;subst cj;obtain⟨f2,Hq,cW,dU,hx⟩:=hx;subst cW;replace dU:LR rI _ c2 x2 f2:=dU;replace hx:_=[]:=hx;subst hx;obtain⟨⟨gq,AX⟩,hy⟩:=hy;replace gq:d0=y0:=gq;subst gq;replace AX:d0.size<=9223372036854775807:=AX;obtain⟨ja,hy⟩:=hy;replace ja:d1=y1:=ja;subst ja;obtain⟨g2,gr2,ki,pO,hy⟩:=hy;subst ki;replace pO:LR rI _ d2 y2 g2:=pO;replace hy:_=[]:=hy;subst hy;refine aM (On _ _) fun _=>?_
 simp only [Ak,T.wp];refine⟨fun h=>⟨by trivial,false,rfl,⟨(fun h=>by cases h),(fun e=>by cases e; simp at h)⟩⟩,fun h0=>?_⟩
 refine(pN _ _ _ _ _ _ _ (bB.mk (cC.mk dU a8.mk)) (bB.mk (cC.mk pO a8.mk))).mono ?_
 rintro V1 r ⟨rfl,b1,rfl,fW⟩;refine⟨nofun,b1,rfl,fun h=>⟨by trivial,false,rfl,⟨(fun h=>by cases h),(fun e=>by cases e; simp [fW.2 rfl] at h)⟩⟩,fun h1=>?_⟩
 refine⟨by trivial,true,rfl,⟨fun _=>?_,fun _=>rfl⟩⟩
 have q0:c0=d0:=aR.1 (by simpa using h0);subst q0;have q1:(c1,x2,())=(d1,y2,()):=fW.1 (by simpa using h1);cases q1
 rfl
theorem UX:XT prog 68 aw:=by
 rintro V ⟨c0,c1,c2,c3,cu⟩ ⟨x0,x1,x2,x3,xu⟩ f left hx h0 h1;obtain⟨⟨bL,dz⟩,hx⟩:=hx;replace bL:c0=x0:=bL;subst bL;replace dz:c0.size<=9223372036854775807:=dz;obtain⟨⟨cj,kJ⟩,hx⟩:=hx;replace cj:c1=x1:=cj;subst cj;replace kJ:c1.size<=9223372036854775807:=kJ;obtain⟨cW,hx⟩:=hx;replace cW:c2=x2:=cW;subst cW;obtain⟨f3,FZ,lG,cS,hx⟩:=hx;subst lG;replace cS:LR rI _ c3 x3 f3:=cS;replace hx:_=[]:=hx;subst hx;refine aM (Tm _ _) fun _=>?_
 simp only [CU,T.wp];have w0:i64.wrap (left-(c0.size:Int))=left-(c0.size:Int):=wrap_i64 (by omega);rw [w0];refine⟨fun h=>?_,fun h0=>?_⟩
 ·have hh:(left-(c0.size:Int))<0:=by simpa using h
  exact⟨by trivial,by show Value.int .i64 (-1)=Value.int .i64 (gy ((c0.size+(c1.size+(x3.length+aC rI x3+0)))) left); rw [fa (by omega)]⟩
 have hh0:0<=(left-(c0.size:Int)):=by
  have:¬ (left-(c0.size:Int))<0:=by simpa using h0
  omega
 refine(Pu _ _ (c1,c2,x3,()) _ (left-(c0.size:Int)) (cr.mk kJ (bB.mk (cC.mk cS a8.mk))) (by omega) (by omega)).mono ?_
 rintro V1 r ⟨rfl,rfl⟩;have t1:aY.cB (c1,c2,x3,())=(c1.size+(x3.length+aC rI x3+0)):=rfl;refine⟨nofun,gy (aY.cB (c1,c2,x3,())) (left-(c0.size:Int)),rfl,fun h=>?_,fun h1=>?_⟩
 ·have hh:=dk.1 (bq h)
  exact⟨by trivial,by show Value.int .i64 (-1)=Value.int .i64 (gy ((c0.size+(c1.size+(x3.length+aC rI x3+0)))) left); rw [fa (by omega)]⟩
 have UU:((aY.cB (c1,c2,x3,()):Nat):Int)<=(left-(c0.size:Int)):=Decidable.not_not.1 fun k=>(bU h1) (dk.2 k)
 rw [dC UU];refine⟨by trivial,?_⟩
 show Value.int .i64 ((left-(c0.size:Int))-((aY.cB (c1,c2,x3,()):Nat):Int))=Value.int .i64 (gy ((c0.size+(c1.size+(x3.length+aC rI x3+0)))) left)
 rw [dC (by omega)]
 congr 1 <;> omega
theorem UY:zy prog 95 aw:=by
 rintro V ⟨c0,c1,c2,c3,cu⟩ ⟨x0,x1,x2,x3,xu⟩ f hx ht;obtain⟨⟨bL,dz⟩,hx⟩:=hx;replace bL:c0=x0:=bL;subst bL;replace dz:c0.size<=9223372036854775807:=dz;obtain⟨⟨cj,kJ⟩,hx⟩:=hx;replace cj:c1=x1:=cj;subst cj;replace kJ:c1.size<=9223372036854775807:=kJ;obtain⟨cW,hx⟩:=hx;replace cW:c2=x2:=cW;subst cW;obtain⟨f3,FZ,lG,cS,hx⟩:=hx;subst lG;replace cS:LR rI _ c3 x3 f3:=cS;replace hx:_=[]:=hx;subst hx;replace ht:(c0.size+(c1.size+(x3.length+aC rI x3+0)))<=1048576:=ht;refine aM (Tv _) fun _=>?_
 simp only [C7,T.wp];refine(Pv _ _ (c1,c2,x3,()) _ (cr.mk kJ (bB.mk (cC.mk cS a8.mk))) (by show(c1.size+(x3.length+aC rI x3+0))<=1048576; omega)).mono ?_
 rintro V1 r ⟨eC,⟨d1,d2,d3,du1⟩,k1,rfl,jk,UW⟩;obtain⟨⟨ja,zd1⟩,jk⟩:=jk;replace ja:d1=c1:=ja;subst ja;replace zd1:d1.size<=9223372036854775807:=zd1;obtain⟨ki,jk⟩:=jk;replace ki:d2=c2:=ki;subst ki;obtain⟨k1f3,k1r3,F2,oA,jk⟩:=jk;subst F2;replace oA:LR rI _ d3 x3 k1f3:=oA;replace jk:_=[]:=jk;subst jk;refine⟨nofun,(d1,d2,d3,()),rfl,?_⟩
 exact⟨eC,(c0,d1,d2,d3,()),_,rfl,(cr.mk dz (cr.mk zd1 (bB.mk (cC.mk oA a8.mk)))),by simpa using UW⟩
theorem UZ:SW prog 116 aw:=by
 rintro V ⟨c0,c1,c2,c3,cu⟩ ⟨d0,d1,d2,d3,du⟩ ⟨x0,x1,x2,x3,xu⟩ ⟨y0,y1,y2,y3,yu⟩ f f' hx hy;obtain⟨⟨bL,dz⟩,hx⟩:=hx;replace bL:c0=x0:=bL;subst bL;replace dz:c0.size<=9223372036854775807:=dz;obtain⟨⟨cj,kJ⟩,hx⟩:=hx;replace cj:c1=x1:=cj;subst cj;replace kJ:c1.size<=9223372036854775807:=kJ;obtain⟨cW,hx⟩:=hx;replace cW:c2=x2:=cW;subst cW;obtain⟨f3,FZ,lG,cS,hx⟩:=hx;subst lG;replace cS:LR rI _ c3 x3 f3:=cS;replace hx:_=[]:=hx;subst hx;obtain⟨⟨gq,AX⟩,hy⟩:=hy;replace gq:d0=y0:=gq;subst gq;replace AX:d0.size<=9223372036854775807:=AX;obtain⟨⟨ja,zd1⟩,hy⟩:=hy;replace ja:d1=y1:=ja;subst ja;replace zd1:d1.size<=9223372036854775807:=zd1;obtain⟨ki,hy⟩:=hy;replace ki:d2=y2:=ki;subst ki;obtain⟨g3,gr3,F2,oA,hy⟩:=hy;subst F2;replace oA:LR rI _ d3 y3 g3:=oA;replace hy:_=[]:=hy;subst hy;refine aM (TE _ _) fun _=>?_
 simp only [Dd,T.wp];refine⟨fun h=>⟨by trivial,false,rfl,⟨(fun h=>by cases h),(fun e=>by cases e; simp at h)⟩⟩,fun h0=>?_⟩
 refine(Pw _ _ _ _ _ _ _ (cr.mk kJ (bB.mk (cC.mk cS a8.mk))) (cr.mk zd1 (bB.mk (cC.mk oA a8.mk)))).mono ?_
 rintro V1 r ⟨rfl,b1,rfl,fW⟩;refine⟨nofun,b1,rfl,fun h=>⟨by trivial,false,rfl,⟨(fun h=>by cases h),(fun e=>by cases e; simp [fW.2 rfl] at h)⟩⟩,fun h1=>?_⟩
 refine⟨by trivial,true,rfl,⟨fun _=>?_,fun _=>rfl⟩⟩
 have q0:c0=d0:=aR.1 (by simpa using h0);subst q0;have q1:(c1,c2,x3,())=(d1,d2,y3,()):=fW.1 (by simpa using h1);cases q1
 rfl
theorem Px:XS prog 58 aw:=fun _ s s' _ _ _ _ h h'=>aM (NO s s') fun _=>E5 (g:=116) rfl UZ h h'
theorem Py:SzSC prog 34 aw:=fun _ s _ _ left h h0 h1=>aM (Ng s left) fun _=>E7 (g:=68) rfl UX h h0 h1
theorem Pz:MT prog 46 aw:=fun _ s _ _ h ht=>aM (NA s) fun _=>E8 (g:=95) rfl (by omega) UY h ht
theorem U0:XT prog 11 iX:=by
 rintro V ⟨c0,cu⟩ ⟨x0,xu⟩ f left hx h0 h1;obtain⟨f0,fr0,bL,qQ,hx⟩:=hx;subst bL;replace qQ:LR aw _ c0 x0 f0:=qQ;replace hx:_=[]:=hx;subst hx;refine aM (S2 _ _) fun _=>?_
 simp only [CM,T.wp];refine(Py _ _ _ _ left qQ (by omega) (by omega)).mono ?_
 rintro V0 r ⟨rfl,rfl⟩;have t0:(x0.length+aC aw x0)=(x0.length+aC aw x0):=rfl;refine⟨nofun,gy ((x0.length+aC aw x0)) left,rfl,fun h=>?_,fun h0=>?_⟩
 ·have hh:=dk.1 (bq h)
  exact⟨by trivial,by show Value.int .i64 (-1)=Value.int .i64 (gy ((x0.length+aC aw x0+0)) left); rw [fa (by omega)]⟩
 have hp0:(((x0.length+aC aw x0):Nat):Int)<=left:=Decidable.not_not.1 fun k=>(bU h0) (dk.2 k)
 rw [dC hp0];refine⟨by trivial,?_⟩
 show Value.int .i64 (left-(((x0.length+aC aw x0):Nat):Int))=Value.int .i64 (gy ((x0.length+aC aw x0+0)) left)
 rw [dC (by omega)]
 congr 1 <;> omega
theorem U1:zy prog 18 iX:=by
 rintro V ⟨c0,cu⟩ ⟨x0,xu⟩ f hx ht;obtain⟨f0,fr0,bL,qQ,hx⟩:=hx;subst bL;replace qQ:LR aw _ c0 x0 f0:=qQ;replace hx:_=[]:=hx;subst hx;replace ht:(x0.length+aC aw x0+0)<=1048576:=ht;refine aM (S6 _) fun _=>?_
 simp only [CN,T.wp];refine(Pz _ _ x0 _ qQ (by omega)).mono ?_
 rintro V0 r ⟨iz,d0,k0,rfl,ym,U2⟩;refine⟨nofun,d0,rfl,?_⟩
 exact⟨iz,(d0,()),_,rfl,(cC.mk ym a8.mk),by simpa using U2⟩
theorem U3:SW prog 25 iX:=by
 rintro V ⟨c0,cu⟩ ⟨d0,du⟩ ⟨x0,xu⟩ ⟨y0,yu⟩ f f' hx hy;obtain⟨f0,fr0,bL,qQ,hx⟩:=hx;subst bL;replace qQ:LR aw _ c0 x0 f0:=qQ;replace hx:_=[]:=hx;subst hx;obtain⟨g0,gr0,gq,ym,hy⟩:=hy;subst gq;replace ym:LR aw _ d0 y0 g0:=ym;replace hy:_=[]:=hy;subst hy;refine aM (S' _ _) fun _=>?_
 simp only [CO,T.wp];refine(Px _ _ _ _ _ _ _ qQ ym).mono ?_
 rintro V0 r ⟨rfl,b0,rfl,vq⟩;refine⟨nofun,b0,rfl,fun h=>⟨by trivial,false,rfl,⟨(fun h=>by cases h),(fun e=>by cases e; simp [vq.2 rfl] at h)⟩⟩,fun h0=>?_⟩
 refine⟨by trivial,true,rfl,⟨fun _=>?_,fun _=>rfl⟩⟩
 have q0:x0=y0:=vq.1 (by simpa using h0);cases q0
 rfl
theorem Y5:XT prog 69 rW:=by
 rintro V ⟨c0,c1,c2,cu⟩ ⟨x0,x1,x2,xu⟩ f left hx h0 h1;obtain⟨bL,hx⟩:=hx;replace bL:c0=x0:=bL;subst bL;obtain⟨f1,vv,cj,ee,hx⟩:=hx;subst cj;replace ee:LR rI _ c1 x1 f1:=ee;obtain⟨f2,Hq,cW,dU,hx⟩:=hx;subst cW;replace dU:LR rI _ c2 x2 f2:=dU;replace hx:_=[]:=hx;subst hx;refine aM (X1 _ _) fun _=>?_
 simp only [IA,T.wp];refine(pL _ _ (c0,x1,()) _ left (bB.mk (cC.mk ee a8.mk)) (by omega) (by omega)).mono ?_
 rintro V0 r ⟨rfl,rfl⟩;have t0:dA.cB (c0,x1,())=(x1.length+aC rI x1+0):=rfl;refine⟨nofun,gy (dA.cB (c0,x1,())) left,rfl,fun h=>?_,fun h0=>?_⟩
 ·have hh:=dk.1 (bq h)
  exact⟨by trivial,by show Value.int .i64 (-1)=Value.int .i64 (gy ((x1.length+aC rI x1+(x2.length+aC rI x2+0))) left); rw [fa (by omega)]⟩
 have hp0:((dA.cB (c0,x1,()):Nat):Int)<=left:=Decidable.not_not.1 fun k=>(bU h0) (dk.2 k)
 rw [dC hp0];refine(D0 _ _ _ _ (left-((dA.cB (c0,x1,()):Nat):Int)) dU (by omega) (by omega)).mono ?_
 rintro V2 r ⟨rfl,rfl⟩;have t2:(x2.length+aC rI x2)=(x2.length+aC rI x2):=rfl;refine⟨nofun,gy ((x2.length+aC rI x2)) (left-((dA.cB (c0,x1,()):Nat):Int)),rfl,fun h=>?_,fun h2=>?_⟩
 ·have hh:=dk.1 (bq h)
  exact⟨by trivial,by show Value.int .i64 (-1)=Value.int .i64 (gy ((x1.length+aC rI x1+(x2.length+aC rI x2+0))) left); rw [fa (by omega)]⟩
 have hp2:(((x2.length+aC rI x2):Nat):Int)<=(left-((dA.cB (c0,x1,()):Nat):Int)):=Decidable.not_not.1 fun k=>(bU h2) (dk.2 k)
 rw [dC hp2];refine⟨by trivial,?_⟩
 show Value.int .i64 ((left-((dA.cB (c0,x1,()):Nat):Int))-(((x2.length+aC rI x2):Nat):Int))=Value.int .i64 (gy ((x1.length+aC rI x1+(x2.length+aC rI x2+0))) left)
 rw [dC (by omega)]
 congr 1 <;> omega
theorem Y6:zy prog 96 rW:=by
 rintro V ⟨c0,c1,c2,cu⟩ ⟨x0,x1,x2,xu⟩ f hx ht;obtain⟨bL,hx⟩:=hx;replace bL:c0=x0:=bL;subst bL;obtain⟨f1,vv,cj,ee,hx⟩:=hx;subst cj;replace ee:LR rI _ c1 x1 f1:=ee;obtain⟨f2,Hq,cW,dU,hx⟩:=hx;subst cW;replace dU:LR rI _ c2 x2 f2:=dU;replace hx:_=[]:=hx;subst hx;replace ht:(x1.length+aC rI x1+(x2.length+aC rI x2+0))<=1048576:=ht;refine aM (X8 _) fun _=>?_
 simp only [IJ,T.wp];refine(pM _ _ (c0,x1,()) _ (bB.mk (cC.mk ee a8.mk)) (by show(x1.length+aC rI x1+0)<=1048576; omega)).mono ?_
 rintro V0 r ⟨iz,⟨d0,d1,du0⟩,k0,rfl,gw,U2⟩;obtain⟨gq,gw⟩:=gw;replace gq:d0=c0:=gq;subst gq;obtain⟨PA,k0r1,ja,jw,gw⟩:=gw;subst ja;replace jw:LR rI _ d1 x1 PA:=jw;replace gw:_=[]:=gw;subst gw;refine⟨nofun,(d0,d1,()),rfl,?_⟩
 refine(D1 _ _ x2 _ (dU.le iz) (by omega)).mono ?_
 rintro V2 r ⟨bG,d2,k2,rfl,pO,J4⟩;refine⟨nofun,d2,rfl,?_⟩
 have hA2:=U2.append J4 iz bG;have yw:=iz.trans bG;replace jw:=jw.le bG;exact⟨yw,(d0,d1,d2,()),_,rfl,(bB.mk (cC.mk jw (cC.mk pO a8.mk))),by simpa using hA2⟩
theorem Y7:SW prog 117 rW:=by
 rintro V ⟨c0,c1,c2,cu⟩ ⟨d0,d1,d2,du⟩ ⟨x0,x1,x2,xu⟩ ⟨y0,y1,y2,yu⟩ f f' hx hy;obtain⟨bL,hx⟩:=hx;replace bL:c0=x0:=bL;subst bL;obtain⟨f1,vv,cj,ee,hx⟩:=hx;subst cj;replace ee:LR rI _ c1 x1 f1:=ee;obtain⟨f2,Hq,cW,dU,hx⟩:=hx;subst cW;replace dU:LR rI _ c2 x2 f2:=dU;replace hx:_=[]:=hx;subst hx;obtain⟨gq,hy⟩:=hy;replace gq:d0=y0:=gq;subst gq;obtain⟨g1,gr1,ja,jw,hy⟩:=hy;subst ja;replace jw:LR rI _ d1 y1 g1:=jw;obtain⟨g2,gr2,ki,pO,hy⟩:=hy;subst ki;replace pO:LR rI _ d2 y2 g2:=pO;replace hy:_=[]:=hy;subst hy;refine aM (Yc _ _) fun _=>?_
 simp only [IS,T.wp];refine(pN _ _ _ _ _ _ _ (bB.mk (cC.mk ee a8.mk)) (bB.mk (cC.mk jw a8.mk))).mono ?_
 rintro V0 r ⟨rfl,b0,rfl,vq⟩;refine⟨nofun,b0,rfl,fun h=>⟨by trivial,false,rfl,⟨(fun h=>by cases h),(fun e=>by cases e; simp [vq.2 rfl] at h)⟩⟩,fun h0=>?_⟩
 refine(DZ _ _ _ _ _ _ _ dU pO).mono ?_
 rintro V2 r ⟨rfl,b2,rfl,ow⟩;refine⟨nofun,b2,rfl,fun h=>⟨by trivial,false,rfl,⟨(fun h=>by cases h),(fun e=>by cases e; simp [ow.2 rfl] at h)⟩⟩,fun h2=>?_⟩
 refine⟨by trivial,true,rfl,⟨fun _=>?_,fun _=>rfl⟩⟩
 have q0:(c0,x1,())=(d0,y1,()):=vq.1 (by simpa using h0);cases q0
 have q2:x2=y2:=ow.1 (by simpa using h2);cases q2
 rfl
theorem U4:XT prog 35 aS:=by
 rintro V ⟨c0,c1,c2,c3,cu⟩ ⟨x0,x1,x2,x3,xu⟩ f left hx h0 h1;obtain⟨⟨bL,dz⟩,hx⟩:=hx;replace bL:c0=x0:=bL;subst bL;replace dz:c0.size<=9223372036854775807:=dz;obtain⟨cj,hx⟩:=hx;replace cj:c1=x1:=cj;subst cj;obtain⟨f2,Hq,cW,dU,hx⟩:=hx;subst cW;replace dU:LR rI _ c2 x2 f2:=dU;obtain⟨f3,FZ,lG,cS,hx⟩:=hx;subst lG;replace cS:LR rI _ c3 x3 f3:=cS;replace hx:_=[]:=hx;subst hx;refine aM (Ta _ _) fun _=>?_
 simp only [CP,T.wp];have w0:i64.wrap (left-(c0.size:Int))=left-(c0.size:Int):=wrap_i64 (by omega);rw [w0];refine⟨fun h=>?_,fun h0=>?_⟩
 ·have hh:(left-(c0.size:Int))<0:=by simpa using h
  exact⟨by trivial,by show Value.int .i64 (-1)=Value.int .i64 (gy ((c0.size+(x2.length+aC rI x2+(x3.length+aC rI x3+0)))) left); rw [fa (by omega)]⟩
 have hh0:0<=(left-(c0.size:Int)):=by
  have:¬ (left-(c0.size:Int))<0:=by simpa using h0
  omega
 refine(Y5 _ _ (c1,x2,x3,()) _ (left-(c0.size:Int)) (bB.mk (cC.mk dU (cC.mk cS a8.mk))) (by omega) (by omega)).mono ?_
 rintro V1 r ⟨rfl,rfl⟩;have t1:rW.cB (c1,x2,x3,())=(x2.length+aC rI x2+(x3.length+aC rI x3+0)):=rfl;refine⟨nofun,gy (rW.cB (c1,x2,x3,())) (left-(c0.size:Int)),rfl,fun h=>?_,fun h1=>?_⟩
 ·have hh:=dk.1 (bq h)
  exact⟨by trivial,by show Value.int .i64 (-1)=Value.int .i64 (gy ((c0.size+(x2.length+aC rI x2+(x3.length+aC rI x3+0)))) left); rw [fa (by omega)]⟩
 have UU:((rW.cB (c1,x2,x3,()):Nat):Int)<=(left-(c0.size:Int)):=Decidable.not_not.1 fun k=>(bU h1) (dk.2 k)
 rw [dC UU];refine⟨by trivial,?_⟩
 show Value.int .i64 ((left-(c0.size:Int))-((rW.cB (c1,x2,x3,()):Nat):Int))=Value.int .i64 (gy ((c0.size+(x2.length+aC rI x2+(x3.length+aC rI x3+0)))) left)
 rw [dC (by omega)]
 congr 1 <;> omega
theorem U5:zy prog 47 aS:=by
 rintro V ⟨c0,c1,c2,c3,cu⟩ ⟨x0,x1,x2,x3,xu⟩ f hx ht;obtain⟨⟨bL,dz⟩,hx⟩:=hx;replace bL:c0=x0:=bL;subst bL;replace dz:c0.size<=9223372036854775807:=dz;obtain⟨cj,hx⟩:=hx;replace cj:c1=x1:=cj;subst cj;obtain⟨f2,Hq,cW,dU,hx⟩:=hx;subst cW;replace dU:LR rI _ c2 x2 f2:=dU;obtain⟨f3,FZ,lG,cS,hx⟩:=hx;subst lG;replace cS:LR rI _ c3 x3 f3:=cS;replace hx:_=[]:=hx;subst hx;replace ht:(c0.size+(x2.length+aC rI x2+(x3.length+aC rI x3+0)))<=1048576:=ht;refine aM (Tg _) fun _=>?_
 simp only [CR,T.wp];refine(Y6 _ _ (c1,x2,x3,()) _ (bB.mk (cC.mk dU (cC.mk cS a8.mk))) (by show(x2.length+aC rI x2+(x3.length+aC rI x3+0))<=1048576; omega)).mono ?_
 rintro V1 r ⟨eC,⟨d1,d2,d3,du1⟩,k1,rfl,jk,UW⟩;obtain⟨ja,jk⟩:=jk;replace ja:d1=c1:=ja;subst ja;obtain⟨k1f2,k1r2,ki,pO,jk⟩:=jk;subst ki;replace pO:LR rI _ d2 x2 k1f2:=pO;obtain⟨k1f3,k1r3,F2,oA,jk⟩:=jk;subst F2;replace oA:LR rI _ d3 x3 k1f3:=oA;replace jk:_=[]:=jk;subst jk;refine⟨nofun,(d1,d2,d3,()),rfl,?_⟩
 exact⟨eC,(c0,d1,d2,d3,()),_,rfl,(cr.mk dz (bB.mk (cC.mk pO (cC.mk oA a8.mk)))),by simpa using UW⟩
theorem U6:SW prog 59 aS:=by
 rintro V ⟨c0,c1,c2,c3,cu⟩ ⟨d0,d1,d2,d3,du⟩ ⟨x0,x1,x2,x3,xu⟩ ⟨y0,y1,y2,y3,yu⟩ f f' hx hy;obtain⟨⟨bL,dz⟩,hx⟩:=hx;replace bL:c0=x0:=bL;subst bL;replace dz:c0.size<=9223372036854775807:=dz;obtain⟨cj,hx⟩:=hx;replace cj:c1=x1:=cj;subst cj;obtain⟨f2,Hq,cW,dU,hx⟩:=hx;subst cW;replace dU:LR rI _ c2 x2 f2:=dU;obtain⟨f3,FZ,lG,cS,hx⟩:=hx;subst lG;replace cS:LR rI _ c3 x3 f3:=cS;replace hx:_=[]:=hx;subst hx;obtain⟨⟨gq,AX⟩,hy⟩:=hy;replace gq:d0=y0:=gq;subst gq;replace AX:d0.size<=9223372036854775807:=AX;obtain⟨ja,hy⟩:=hy;replace ja:d1=y1:=ja;subst ja;obtain⟨g2,gr2,ki,pO,hy⟩:=hy;subst ki;replace pO:LR rI _ d2 y2 g2:=pO;obtain⟨g3,gr3,F2,oA,hy⟩:=hy;subst F2;replace oA:LR rI _ d3 y3 g3:=oA;replace hy:_=[]:=hy;subst hy;refine aM (Tl _ _) fun _=>?_
 simp only [CT,T.wp];refine⟨fun h=>⟨by trivial,false,rfl,⟨(fun h=>by cases h),(fun e=>by cases e; simp at h)⟩⟩,fun h0=>?_⟩
 refine(Y7 _ _ _ _ _ _ _ (bB.mk (cC.mk dU (cC.mk cS a8.mk))) (bB.mk (cC.mk pO (cC.mk oA a8.mk)))).mono ?_
 rintro V1 r ⟨rfl,b1,rfl,fW⟩;refine⟨nofun,b1,rfl,fun h=>⟨by trivial,false,rfl,⟨(fun h=>by cases h),(fun e=>by cases e; simp [fW.2 rfl] at h)⟩⟩,fun h1=>?_⟩
 refine⟨by trivial,true,rfl,⟨fun _=>?_,fun _=>rfl⟩⟩
 have q0:c0=d0:=aR.1 (by simpa using h0);subst q0;have q1:(c1,x2,x3,())=(d1,y2,y3,()):=fW.1 (by simpa using h1);cases q1
 rfl
theorem PB:XS prog 26 aS:=fun _ s s' _ _ _ _ h h'=>aM (Nb s s') fun _=>E5 (g:=59) rfl U6 h h'
theorem PC:SzSC prog 12 aS:=fun _ s _ _ left h h0 h1=>aM (MZ s left) fun _=>E7 (g:=35) rfl U4 h h0 h1
theorem PD:MT prog 19 aS:=fun _ s _ _ h ht=>aM (M7 s) fun _=>E8 (g:=47) rfl (by omega) U5 h ht
theorem Y8:XT prog 122 FX:=by
 rintro V ⟨c0,c1,c2,cu⟩ ⟨x0,x1,x2,xu⟩ f left hx h0 h1;obtain⟨bL,hx⟩:=hx;replace bL:c0=x0:=bL;subst bL;obtain⟨f1,vv,cj,ee,hx⟩:=hx;subst cj;replace ee:LR rI _ c1 x1 f1:=ee;obtain⟨cW,hx⟩:=hx;replace cW:c2=x2:=cW;subst cW;replace hx:_=[]:=hx;subst hx;refine aM (Yd _ _) fun _=>?_
 simp only [IU,T.wp];refine(pL _ _ (c0,x1,()) _ left (bB.mk (cC.mk ee a8.mk)) (by omega) (by omega)).mono ?_
 rintro V0 r ⟨rfl,rfl⟩;have t0:dA.cB (c0,x1,())=(x1.length+aC rI x1+0):=rfl;refine⟨nofun,gy (dA.cB (c0,x1,())) left,rfl,fun h=>?_,fun h0=>?_⟩
 ·have hh:=dk.1 (bq h)
  exact⟨by trivial,by show Value.int .i64 (-1)=Value.int .i64 (gy ((x1.length+aC rI x1+0)) left); rw [fa (by omega)]⟩
 have hp0:((dA.cB (c0,x1,()):Nat):Int)<=left:=Decidable.not_not.1 fun k=>(bU h0) (dk.2 k)
 rw [dC hp0];refine⟨by trivial,?_⟩
 show Value.int .i64 (left-((dA.cB (c0,x1,()):Nat):Int))=Value.int .i64 (gy ((x1.length+aC rI x1+0)) left)
 rw [dC (by omega)]
 congr 1 <;> omega
theorem Y9:zy prog 162 FX:=by
 rintro V ⟨c0,c1,c2,cu⟩ ⟨x0,x1,x2,xu⟩ f hx ht;obtain⟨bL,hx⟩:=hx;replace bL:c0=x0:=bL;subst bL;obtain⟨f1,vv,cj,ee,hx⟩:=hx;subst cj;replace ee:LR rI _ c1 x1 f1:=ee;obtain⟨cW,hx⟩:=hx;replace cW:c2=x2:=cW;subst cW;replace hx:_=[]:=hx;subst hx;replace ht:(x1.length+aC rI x1+0)<=1048576:=ht;refine aM (Yn _) fun _=>?_
 simp only [I6,T.wp];refine(pM _ _ (c0,x1,()) _ (bB.mk (cC.mk ee a8.mk)) (by show(x1.length+aC rI x1+0)<=1048576; omega)).mono ?_
 rintro V0 r ⟨iz,⟨d0,d1,du0⟩,k0,rfl,gw,U2⟩;obtain⟨gq,gw⟩:=gw;replace gq:d0=c0:=gq;subst gq;obtain⟨PA,k0r1,ja,jw,gw⟩:=gw;subst ja;replace jw:LR rI _ d1 x1 PA:=jw;replace gw:_=[]:=gw;subst gw;refine⟨nofun,(d0,d1,()),rfl,?_⟩
 exact⟨iz,(d0,d1,c2,()),_,rfl,(bB.mk (cC.mk jw (np.mk a8.mk))),by simpa using U2⟩
theorem Y':SW prog 192 FX:=by
 rintro V ⟨c0,c1,c2,cu⟩ ⟨d0,d1,d2,du⟩ ⟨x0,x1,x2,xu⟩ ⟨y0,y1,y2,yu⟩ f f' hx hy;obtain⟨bL,hx⟩:=hx;replace bL:c0=x0:=bL;subst bL;obtain⟨f1,vv,cj,ee,hx⟩:=hx;subst cj;replace ee:LR rI _ c1 x1 f1:=ee;obtain⟨cW,hx⟩:=hx;replace cW:c2=x2:=cW;subst cW;replace hx:_=[]:=hx;subst hx;obtain⟨gq,hy⟩:=hy;replace gq:d0=y0:=gq;subst gq;obtain⟨g1,gr1,ja,jw,hy⟩:=hy;subst ja;replace jw:LR rI _ d1 y1 g1:=jw;obtain⟨ki,hy⟩:=hy;replace ki:d2=y2:=ki;subst ki;replace hy:_=[]:=hy;subst hy;refine aM (Yt _ _) fun _=>?_
 simp only [Jc,T.wp];refine(pN _ _ _ _ _ _ _ (bB.mk (cC.mk ee a8.mk)) (bB.mk (cC.mk jw a8.mk))).mono ?_
 rintro V0 r ⟨rfl,b0,rfl,vq⟩;refine⟨nofun,b0,rfl,fun h=>⟨by trivial,false,rfl,⟨(fun h=>by cases h),(fun e=>by cases e; simp [vq.2 rfl] at h)⟩⟩,fun h0=>?_⟩
 refine⟨fun h=>⟨by trivial,false,rfl,⟨(fun h=>by cases h),(fun e=>by cases e; simp at h)⟩⟩,fun h2=>?_⟩
 refine⟨by trivial,true,rfl,⟨fun _=>?_,fun _=>rfl⟩⟩
 have q0:(c0,x1,())=(d0,y1,()):=vq.1 (by simpa using h0);cases q0
 have q2:c2=d2:=by simpa using h2
 subst q2
 rfl
theorem U7:XT prog 70 az:=by
 rintro V ⟨c0,c1,c2,c3,c4,cu⟩ ⟨x0,x1,x2,x3,x4,xu⟩ f left hx h0 h1;obtain⟨⟨bL,dz⟩,hx⟩:=hx;replace bL:c0=x0:=bL;subst bL;replace dz:c0.size<=9223372036854775807:=dz;obtain⟨⟨cj,kJ⟩,hx⟩:=hx;replace cj:c1=x1:=cj;subst cj;replace kJ:c1.size<=9223372036854775807:=kJ;obtain⟨cW,hx⟩:=hx;replace cW:c2=x2:=cW;subst cW;obtain⟨f3,FZ,lG,cS,hx⟩:=hx;subst lG;replace cS:LR rI _ c3 x3 f3:=cS;obtain⟨wa,hx⟩:=hx;replace wa:c4=x4:=wa;subst wa;replace hx:_=[]:=hx;subst hx;refine aM (Tn _ _) fun _=>?_
 simp only [CV,T.wp];have w0:i64.wrap (left-(c0.size:Int))=left-(c0.size:Int):=wrap_i64 (by omega);rw [w0];refine⟨fun h=>?_,fun h0=>?_⟩
 ·have hh:(left-(c0.size:Int))<0:=by simpa using h
  exact⟨by trivial,by show Value.int .i64 (-1)=Value.int .i64 (gy ((c0.size+(c1.size+(x3.length+aC rI x3+0)))) left); rw [fa (by omega)]⟩
 have hh0:0<=(left-(c0.size:Int)):=by
  have:¬ (left-(c0.size:Int))<0:=by simpa using h0
  omega
 have w1:i64.wrap ((left-(c0.size:Int))-(c1.size:Int))=(left-(c0.size:Int))-(c1.size:Int):=wrap_i64 (by omega);rw [w1];refine⟨fun h=>?_,fun h1=>?_⟩
 ·have hh:((left-(c0.size:Int))-(c1.size:Int))<0:=by simpa using h
  exact⟨by trivial,by show Value.int .i64 (-1)=Value.int .i64 (gy ((c0.size+(c1.size+(x3.length+aC rI x3+0)))) left); rw [fa (by omega)]⟩
 have hh1:0<=((left-(c0.size:Int))-(c1.size:Int)):=by
  have:¬ ((left-(c0.size:Int))-(c1.size:Int))<0:=by simpa using h1
  omega
 refine(Y8 _ _ (c2,x3,c4,()) _ ((left-(c0.size:Int))-(c1.size:Int)) (bB.mk (cC.mk cS (np.mk a8.mk))) (by omega) (by omega)).mono ?_
 rintro V2 r ⟨rfl,rfl⟩;have t2:FX.cB (c2,x3,c4,())=(x3.length+aC rI x3+0):=rfl;refine⟨nofun,gy (FX.cB (c2,x3,c4,())) ((left-(c0.size:Int))-(c1.size:Int)),rfl,fun h=>?_,fun h2=>?_⟩
 ·have hh:=dk.1 (bq h)
  exact⟨by trivial,by show Value.int .i64 (-1)=Value.int .i64 (gy ((c0.size+(c1.size+(x3.length+aC rI x3+0)))) left); rw [fa (by omega)]⟩
 have hp2:((FX.cB (c2,x3,c4,()):Nat):Int)<=((left-(c0.size:Int))-(c1.size:Int)):=Decidable.not_not.1 fun k=>(bU h2) (dk.2 k)
 rw [dC hp2];refine⟨by trivial,?_⟩
 show Value.int .i64 (((left-(c0.size:Int))-(c1.size:Int))-((FX.cB (c2,x3,c4,()):Nat):Int))=Value.int .i64 (gy ((c0.size+(c1.size+(x3.length+aC rI x3+0)))) left)
 rw [dC (by omega)]
 congr 1 <;> omega
theorem U8:zy prog 97 az:=by
 rintro V ⟨c0,c1,c2,c3,c4,cu⟩ ⟨x0,x1,x2,x3,x4,xu⟩ f hx ht;obtain⟨⟨bL,dz⟩,hx⟩:=hx;replace bL:c0=x0:=bL;subst bL;replace dz:c0.size<=9223372036854775807:=dz;obtain⟨⟨cj,kJ⟩,hx⟩:=hx;replace cj:c1=x1:=cj;subst cj;replace kJ:c1.size<=9223372036854775807:=kJ;obtain⟨cW,hx⟩:=hx;replace cW:c2=x2:=cW;subst cW;obtain⟨f3,FZ,lG,cS,hx⟩:=hx;subst lG;replace cS:LR rI _ c3 x3 f3:=cS;obtain⟨wa,hx⟩:=hx;replace wa:c4=x4:=wa;subst wa;replace hx:_=[]:=hx;subst hx;replace ht:(c0.size+(c1.size+(x3.length+aC rI x3+0)))<=1048576:=ht;refine aM (Tw _) fun _=>?_
 simp only [C8,T.wp];refine(Y9 _ _ (c2,x3,c4,()) _ (bB.mk (cC.mk cS (np.mk a8.mk))) (by show(x3.length+aC rI x3+0)<=1048576; omega)).mono ?_
 rintro V2 r ⟨bG,⟨d2,d3,d4,du2⟩,k2,rfl,jO,J4⟩;obtain⟨ki,jO⟩:=jO;replace ki:d2=c2:=ki;subst ki;obtain⟨PE,k2r3,F2,oA,jO⟩:=jO;subst F2;replace oA:LR rI _ d3 x3 PE:=oA;obtain⟨Za,jO⟩:=jO;replace Za:d4=c4:=Za;subst Za;replace jO:_=[]:=jO;subst jO;refine⟨nofun,(d2,d3,d4,()),rfl,?_⟩
 exact⟨bG,(c0,c1,d2,d3,d4,()),_,rfl,(cr.mk dz (cr.mk kJ (bB.mk (cC.mk oA (np.mk a8.mk))))),by simpa using J4⟩
theorem U9:SW prog 118 az:=by
 rintro V ⟨c0,c1,c2,c3,c4,cu⟩ ⟨d0,d1,d2,d3,d4,du⟩ ⟨x0,x1,x2,x3,x4,xu⟩ ⟨y0,y1,y2,y3,y4,yu⟩ f f' hx hy;obtain⟨⟨bL,dz⟩,hx⟩:=hx;replace bL:c0=x0:=bL;subst bL;replace dz:c0.size<=9223372036854775807:=dz;obtain⟨⟨cj,kJ⟩,hx⟩:=hx;replace cj:c1=x1:=cj;subst cj;replace kJ:c1.size<=9223372036854775807:=kJ;obtain⟨cW,hx⟩:=hx;replace cW:c2=x2:=cW;subst cW;obtain⟨f3,FZ,lG,cS,hx⟩:=hx;subst lG;replace cS:LR rI _ c3 x3 f3:=cS;obtain⟨wa,hx⟩:=hx;replace wa:c4=x4:=wa;subst wa;replace hx:_=[]:=hx;subst hx;obtain⟨⟨gq,AX⟩,hy⟩:=hy;replace gq:d0=y0:=gq;subst gq;replace AX:d0.size<=9223372036854775807:=AX;obtain⟨⟨ja,zd1⟩,hy⟩:=hy;replace ja:d1=y1:=ja;subst ja;replace zd1:d1.size<=9223372036854775807:=zd1;obtain⟨ki,hy⟩:=hy;replace ki:d2=y2:=ki;subst ki;obtain⟨g3,gr3,F2,oA,hy⟩:=hy;subst F2;replace oA:LR rI _ d3 y3 g3:=oA;obtain⟨Za,hy⟩:=hy;replace Za:d4=y4:=Za;subst Za;replace hy:_=[]:=hy;subst hy;refine aM (TF _ _) fun _=>?_
 simp only [De,T.wp];refine⟨fun h=>⟨by trivial,false,rfl,⟨(fun h=>by cases h),(fun e=>by cases e; simp at h)⟩⟩,fun h0=>?_⟩
 refine⟨fun h=>⟨by trivial,false,rfl,⟨(fun h=>by cases h),(fun e=>by cases e; simp at h)⟩⟩,fun h1=>?_⟩
 refine(Y' _ _ _ _ _ _ _ (bB.mk (cC.mk cS (np.mk a8.mk))) (bB.mk (cC.mk oA (np.mk a8.mk)))).mono ?_
 rintro V2 r ⟨rfl,b2,rfl,ow⟩;refine⟨nofun,b2,rfl,fun h=>⟨by trivial,false,rfl,⟨(fun h=>by cases h),(fun e=>by cases e; simp [ow.2 rfl] at h)⟩⟩,fun h2=>?_⟩
 refine⟨by trivial,true,rfl,⟨fun _=>?_,fun _=>rfl⟩⟩
 have q0:c0=d0:=aR.1 (by simpa using h0);subst q0;have q1:c1=d1:=aR.1 (by simpa using h1);subst q1;have q2:(c2,x3,c4,())=(d2,y3,d4,()):=ow.1 (by simpa using h2);cases q2
 rfl
theorem PF:XS prog 60 az:=fun _ s s' _ _ _ _ h h'=>aM (NR s s') fun _=>E5 (g:=118) rfl U9 h h'
theorem PG:SzSC prog 36 az:=fun _ s _ _ left h h0 h1=>aM (Nj s left) fun _=>E7 (g:=70) rfl U7 h h0 h1
theorem PH:MT prog 48 az:=fun _ s _ _ h ht=>aM (ND s) fun _=>E8 (g:=97) rfl (by omega) U8 h ht
theorem PI:XT prog 13 cZ:=by
 rintro V ⟨c0,c1,cu⟩ ⟨x0,x1,xu⟩ f left hx h0 h1;obtain⟨⟨bL,dz⟩,hx⟩:=hx;replace bL:c0=x0:=bL;subst bL;replace dz:c0.size<=9223372036854775807:=dz;obtain⟨f1,vv,cj,ee,hx⟩:=hx;subst cj;replace ee:LR az _ c1 x1 f1:=ee;replace hx:_=[]:=hx;subst hx;refine aM (M4 _ _) fun _=>?_
 simp only [zD,T.wp];have w0:i64.wrap (left-(c0.size:Int))=left-(c0.size:Int):=wrap_i64 (by omega);rw [w0];refine⟨fun h=>?_,fun h0=>?_⟩
 ·have hh:(left-(c0.size:Int))<0:=by simpa using h
  exact⟨by trivial,by show Value.int .i64 (-1)=Value.int .i64 (gy ((c0.size+(x1.length+aC az x1+0))) left); rw [fa (by omega)]⟩
 have hh0:0<=(left-(c0.size:Int)):=by
  have:¬ (left-(c0.size:Int))<0:=by simpa using h0
  omega
 refine(PG _ _ _ _ (left-(c0.size:Int)) ee (by omega) (by omega)).mono ?_
 rintro V1 r ⟨rfl,rfl⟩;have t1:(x1.length+aC az x1)=(x1.length+aC az x1):=rfl;refine⟨nofun,gy ((x1.length+aC az x1)) (left-(c0.size:Int)),rfl,fun h=>?_,fun h1=>?_⟩
 ·have hh:=dk.1 (bq h)
  exact⟨by trivial,by show Value.int .i64 (-1)=Value.int .i64 (gy ((c0.size+(x1.length+aC az x1+0))) left); rw [fa (by omega)]⟩
 have UU:(((x1.length+aC az x1):Nat):Int)<=(left-(c0.size:Int)):=Decidable.not_not.1 fun k=>(bU h1) (dk.2 k)
 rw [dC UU];refine⟨by trivial,?_⟩
 show Value.int .i64 ((left-(c0.size:Int))-(((x1.length+aC az x1):Nat):Int))=Value.int .i64 (gy ((c0.size+(x1.length+aC az x1+0))) left)
 rw [dC (by omega)]
 congr 1 <;> omega
theorem PJ:zy prog 20 cZ:=by
 rintro V ⟨c0,c1,cu⟩ ⟨x0,x1,xu⟩ f hx ht;obtain⟨⟨bL,dz⟩,hx⟩:=hx;replace bL:c0=x0:=bL;subst bL;replace dz:c0.size<=9223372036854775807:=dz;obtain⟨f1,vv,cj,ee,hx⟩:=hx;subst cj;replace ee:LR az _ c1 x1 f1:=ee;replace hx:_=[]:=hx;subst hx;replace ht:(c0.size+(x1.length+aC az x1+0))<=1048576:=ht;refine aM (M8 _) fun _=>?_
 simp only [zE,T.wp];refine(PH _ _ x1 _ ee (by omega)).mono ?_
 rintro V1 r ⟨eC,d1,k1,rfl,jw,UW⟩;refine⟨nofun,d1,rfl,?_⟩
 exact⟨eC,(c0,d1,()),_,rfl,(cr.mk dz (cC.mk jw a8.mk)),by simpa using UW⟩
theorem PK:SW prog 27 cZ:=by
 rintro V ⟨c0,c1,cu⟩ ⟨d0,d1,du⟩ ⟨x0,x1,xu⟩ ⟨y0,y1,yu⟩ f f' hx hy;obtain⟨⟨bL,dz⟩,hx⟩:=hx;replace bL:c0=x0:=bL;subst bL;replace dz:c0.size<=9223372036854775807:=dz;obtain⟨f1,vv,cj,ee,hx⟩:=hx;subst cj;replace ee:LR az _ c1 x1 f1:=ee;replace hx:_=[]:=hx;subst hx;obtain⟨⟨gq,AX⟩,hy⟩:=hy;replace gq:d0=y0:=gq;subst gq;replace AX:d0.size<=9223372036854775807:=AX;obtain⟨g1,gr1,ja,jw,hy⟩:=hy;subst ja;replace jw:LR az _ d1 y1 g1:=jw;replace hy:_=[]:=hy;subst hy;refine aM (Nc _ _) fun _=>?_
 simp only [zF,T.wp];refine⟨fun h=>⟨by trivial,false,rfl,⟨(fun h=>by cases h),(fun e=>by cases e; simp at h)⟩⟩,fun h0=>?_⟩
 refine(PF _ _ _ _ _ _ _ ee jw).mono ?_
 rintro V1 r ⟨rfl,b1,rfl,fW⟩;refine⟨nofun,b1,rfl,fun h=>⟨by trivial,false,rfl,⟨(fun h=>by cases h),(fun e=>by cases e; simp [fW.2 rfl] at h)⟩⟩,fun h1=>?_⟩
 refine⟨by trivial,true,rfl,⟨fun _=>?_,fun _=>rfl⟩⟩
 have q0:c0=d0:=aR.1 (by simpa using h0);subst q0;have q1:x1=y1:=fW.1 (by simpa using h1);cases q1
 rfl
theorem J5:XT prog 4 aj:=by
 rintro V ⟨c0,c1,c2,c3,cu⟩ ⟨x0,x1,x2,x3,xu⟩ f left hx h0 h1;obtain⟨f0,fr0,bL,qQ,hx⟩:=hx;subst bL;replace qQ:LR aw _ c0 x0 f0:=qQ;obtain⟨f1,vv,cj,ee,hx⟩:=hx;subst cj;replace ee:LR aS _ c1 x1 f1:=ee;obtain⟨⟨cW,F3⟩,hx⟩:=hx;replace cW:c2=x2:=cW;subst cW;replace F3:c2.size<=9223372036854775807:=F3;obtain⟨f3,FZ,lG,cS,hx⟩:=hx;subst lG;replace cS:LR az _ c3 x3 f3:=cS;replace hx:_=[]:=hx;subst hx;refine aM (Ij _ _) fun _=>?_
 simp only [w9,T.wp];refine(U0 _ _ (x0,()) _ left (cC.mk qQ a8.mk) (by omega) (by omega)).mono ?_
 rintro V0 r ⟨rfl,rfl⟩;have t0:iX.cB (x0,())=(x0.length+aC aw x0+0):=rfl;refine⟨nofun,gy (iX.cB (x0,())) left,rfl,fun h=>?_,fun h0=>?_⟩
 ·have hh:=dk.1 (bq h)
  exact⟨by trivial,by show Value.int .i64 (-1)=Value.int .i64 (gy ((x0.length+aC aw x0+(x1.length+aC aS x1+(c2.size+(x3.length+aC az x3+0))))) left); rw [fa (by omega)]⟩
 have hp0:((iX.cB (x0,()):Nat):Int)<=left:=Decidable.not_not.1 fun k=>(bU h0) (dk.2 k)
 rw [dC hp0];refine(PC _ _ _ _ (left-((iX.cB (x0,()):Nat):Int)) ee (by omega) (by omega)).mono ?_
 rintro V1 r ⟨rfl,rfl⟩;have t1:(x1.length+aC aS x1)=(x1.length+aC aS x1):=rfl;refine⟨nofun,gy ((x1.length+aC aS x1)) (left-((iX.cB (x0,()):Nat):Int)),rfl,fun h=>?_,fun h1=>?_⟩
 ·have hh:=dk.1 (bq h)
  exact⟨by trivial,by show Value.int .i64 (-1)=Value.int .i64 (gy ((x0.length+aC aw x0+(x1.length+aC aS x1+(c2.size+(x3.length+aC az x3+0))))) left); rw [fa (by omega)]⟩
 have UU:(((x1.length+aC aS x1):Nat):Int)<=(left-((iX.cB (x0,()):Nat):Int)):=Decidable.not_not.1 fun k=>(bU h1) (dk.2 k)
 rw [dC UU];refine(PI _ _ (c2,x3,()) _ ((left-((iX.cB (x0,()):Nat):Int))-(((x1.length+aC aS x1):Nat):Int)) (cr.mk F3 (cC.mk cS a8.mk)) (by omega) (by omega)).mono ?_
 rintro V2 r ⟨rfl,rfl⟩;have t2:cZ.cB (c2,x3,())=(c2.size+(x3.length+aC az x3+0)):=rfl;refine⟨nofun,gy (cZ.cB (c2,x3,())) ((left-((iX.cB (x0,()):Nat):Int))-(((x1.length+aC aS x1):Nat):Int)),rfl,fun h=>?_,fun h2=>?_⟩
 ·have hh:=dk.1 (bq h)
  exact⟨by trivial,by show Value.int .i64 (-1)=Value.int .i64 (gy ((x0.length+aC aw x0+(x1.length+aC aS x1+(c2.size+(x3.length+aC az x3+0))))) left); rw [fa (by omega)]⟩
 have hp2:((cZ.cB (c2,x3,()):Nat):Int)<=((left-((iX.cB (x0,()):Nat):Int))-(((x1.length+aC aS x1):Nat):Int)):=Decidable.not_not.1 fun k=>(bU h2) (dk.2 k)
 rw [dC hp2];refine⟨by trivial,?_⟩
 show Value.int .i64 (((left-((iX.cB (x0,()):Nat):Int))-(((x1.length+aC aS x1):Nat):Int))-((cZ.cB (c2,x3,()):Nat):Int))=Value.int .i64 (gy ((x0.length+aC aw x0+(x1.length+aC aS x1+(c2.size+(x3.length+aC az x3+0))))) left)
 rw [dC (by omega)]
 congr 1 <;> omega
theorem mB:zy prog 6 aj:=by
 rintro V ⟨c0,c1,c2,c3,cu⟩ ⟨x0,x1,x2,x3,xu⟩ f hx ht;obtain⟨f0,fr0,bL,qQ,hx⟩:=hx;subst bL;replace qQ:LR aw _ c0 x0 f0:=qQ;obtain⟨f1,vv,cj,ee,hx⟩:=hx;subst cj;replace ee:LR aS _ c1 x1 f1:=ee;obtain⟨⟨cW,F3⟩,hx⟩:=hx;replace cW:c2=x2:=cW;subst cW;replace F3:c2.size<=9223372036854775807:=F3;obtain⟨f3,FZ,lG,cS,hx⟩:=hx;subst lG;replace cS:LR az _ c3 x3 f3:=cS;replace hx:_=[]:=hx;subst hx;replace ht:(x0.length+aC aw x0+(x1.length+aC aS x1+(c2.size+(x3.length+aC az x3+0))))<=1048576:=ht;refine aM (Ik _) fun _=>?_
 simp only [xb,T.wp];refine(U1 _ _ (x0,()) _ (cC.mk qQ a8.mk) (by show(x0.length+aC aw x0+0)<=1048576; omega)).mono ?_
 rintro V0 r ⟨iz,⟨d0,du0⟩,k0,rfl,gw,U2⟩;obtain⟨k0f0,k0r0,gq,ym,gw⟩:=gw;subst gq;replace ym:LR aw _ d0 x0 k0f0:=ym;replace gw:_=[]:=gw;subst gw;refine⟨nofun,(d0,()),rfl,?_⟩
 refine(PD _ _ x1 _ (ee.le iz) (by omega)).mono ?_
 rintro V1 r ⟨eC,d1,k1,rfl,jw,UW⟩;refine⟨nofun,d1,rfl,?_⟩
 have hA1:=U2.append UW iz eC;have RD:=iz.trans eC;replace ym:=ym.le eC;refine(PJ _ _ (c2,x3,()) _ (cr.mk F3 (cC.mk (cS.le RD) a8.mk)) (by show(c2.size+(x3.length+aC az x3+0))<=1048576; omega)).mono ?_
 rintro V2 r ⟨bG,⟨d2,d3,du2⟩,k2,rfl,jO,J4⟩;obtain⟨⟨ki,Zb⟩,jO⟩:=jO;replace ki:d2=c2:=ki;subst ki;replace Zb:d2.size<=9223372036854775807:=Zb;obtain⟨PE,k2r3,F2,oA,jO⟩:=jO;subst F2;replace oA:LR az _ d3 x3 PE:=oA;replace jO:_=[]:=jO;subst jO;refine⟨nofun,(d2,d3,()),rfl,?_⟩
 have hA2:=hA1.append J4 RD bG;have yw:=RD.trans bG;replace ym:=ym.le bG;replace jw:=jw.le bG;exact⟨yw,(d0,d1,d2,d3,()),_,rfl,(cC.mk ym (cC.mk jw (cr.mk Zb (cC.mk oA a8.mk)))),by simpa using hA2⟩
theorem mC:SW prog 8 aj:=by
 rintro V ⟨c0,c1,c2,c3,cu⟩ ⟨d0,d1,d2,d3,du⟩ ⟨x0,x1,x2,x3,xu⟩ ⟨y0,y1,y2,y3,yu⟩ f f' hx hy;obtain⟨f0,fr0,bL,qQ,hx⟩:=hx;subst bL;replace qQ:LR aw _ c0 x0 f0:=qQ;obtain⟨f1,vv,cj,ee,hx⟩:=hx;subst cj;replace ee:LR aS _ c1 x1 f1:=ee;obtain⟨⟨cW,F3⟩,hx⟩:=hx;replace cW:c2=x2:=cW;subst cW;replace F3:c2.size<=9223372036854775807:=F3;obtain⟨f3,FZ,lG,cS,hx⟩:=hx;subst lG;replace cS:LR az _ c3 x3 f3:=cS;replace hx:_=[]:=hx;subst hx;obtain⟨g0,gr0,gq,ym,hy⟩:=hy;subst gq;replace ym:LR aw _ d0 y0 g0:=ym;obtain⟨g1,gr1,ja,jw,hy⟩:=hy;subst ja;replace jw:LR aS _ d1 y1 g1:=jw;obtain⟨⟨ki,Zb⟩,hy⟩:=hy;replace ki:d2=y2:=ki;subst ki;replace Zb:d2.size<=9223372036854775807:=Zb;obtain⟨g3,gr3,F2,oA,hy⟩:=hy;subst F2;replace oA:LR az _ d3 y3 g3:=oA;replace hy:_=[]:=hy;subst hy;refine aM (Il _ _) fun _=>?_
 simp only [xc,T.wp];refine(U3 _ _ _ _ _ _ _ (cC.mk qQ a8.mk) (cC.mk ym a8.mk)).mono ?_
 rintro V0 r ⟨rfl,b0,rfl,vq⟩;refine⟨nofun,b0,rfl,fun h=>⟨by trivial,false,rfl,⟨(fun h=>by cases h),(fun e=>by cases e; simp [vq.2 rfl] at h)⟩⟩,fun h0=>?_⟩
 refine(PB _ _ _ _ _ _ _ ee jw).mono ?_
 rintro V1 r ⟨rfl,b1,rfl,fW⟩;refine⟨nofun,b1,rfl,fun h=>⟨by trivial,false,rfl,⟨(fun h=>by cases h),(fun e=>by cases e; simp [fW.2 rfl] at h)⟩⟩,fun h1=>?_⟩
 refine(PK _ _ _ _ _ _ _ (cr.mk F3 (cC.mk cS a8.mk)) (cr.mk Zb (cC.mk oA a8.mk))).mono ?_
 rintro V2 r ⟨rfl,b2,rfl,ow⟩;refine⟨nofun,b2,rfl,fun h=>⟨by trivial,false,rfl,⟨(fun h=>by cases h),(fun e=>by cases e; simp [ow.2 rfl] at h)⟩⟩,fun h2=>?_⟩
 refine⟨by trivial,true,rfl,⟨fun _=>?_,fun _=>rfl⟩⟩
 have q0:(x0,())=(y0,()):=vq.1 (by simpa using h0);cases q0
 have q1:x1=y1:=fW.1 (by simpa using h1);cases q1
 have q2:(c2,x3,())=(d2,y3,()):=ow.1 (by simpa using h2);cases q2
 rfl
theorem semx_mk {P:Program} {V:aa} {t:TypeId}:sV P V (sU.mk t).ye (fun V' r=>∃ b,V b=none/\V'=aB V b (B1 [],(0,(1,0)))/\r=.map (some b)):=by
 intro w hw;refine⟨_,_,_,(show(sU.mk t).ye.run P w=.ok (.map (some w.heap.size)) (w.alloc (.map #[] 0)) from rfl),⟨rfl,rfl,rfl,by simp,fun b hb _=>heap_alloc_old w _ hb,fun b hb hn=>?_⟩,fun b c u hb=>?_,w.heap.size,hw.fI,rfl,rfl⟩
 ·rw [bh (by omega)]; exact hn
 by_cases e:b=w.heap.size
 ·subst e
  rw [av] at hb;simp only [Option.some.injEq,Prod.mk.injEq] at hb;obtain⟨rfl,rfl⟩:=hb;rw [heap_alloc_new,qj]
 rw [bh e] at hb;have:=hw b c u hb;rw [heap_alloc_old w _ (Array.getElem?_eq_some_iff.1 this).1]; exact this
theorem map_set {V:aa} {w:World} (hw:V.on w) {m k k':Nat} {es es':List MapEntry} (hV:V m=some (B1 es,(k,(1,0)))) :
  Fr V (aB V m (B1 es',(k',(1,0)))) w { w with heap:=w.heap.setIfInBounds m (.map es'.toArray k') }/\(aB V m (B1 es',(k',(1,0)))).on { w with heap:=w.heap.setIfInBounds m (.map es'.toArray k') }:=by
 have hm:=hw _ _ _ hV;have aN:=(Array.getElem?_eq_some_iff.1 hm).1;have ho:∀ b,b≠m->(w.heap.setIfInBounds m (.map es'.toArray k'))[b]?=w.heap[b]?:=fun b hb=>Array.getElem?_setIfInBounds_ne (Ne.symm hb)
 refine⟨⟨rfl,rfl,rfl,by simp,fun b hb hn=>ho b (fun e=>by rw [e,hV] at hn; cases hn),fun b hb hn=>?_⟩,fun b c u hb=>?_⟩
 ·rw [bh (fun e=>by rw [e,hV] at hn; cases hn)]; exact hn
 by_cases e:b=m
 ·subst e
  rw [av] at hb;simp only [Option.some.injEq,Prod.mk.injEq] at hb;obtain⟨rfl,rfl⟩:=hb;rw [qj];show(w.heap.setIfInBounds b _)[b]?=_
  rw [Array.getElem?_setIfInBounds_self_of_lt aN]
 rw [bh e] at hb;rw [<- hw b c u hb];exact ho b e
structure wb (P:Program) (T S:TypeId):Prop where
 und:P.underlying T=some (.struct (P.fieldsOf T))
 held:P.stoodInHeld T=false
 fs:(P.fieldsOf T).toList=[(P.fieldsOf T)[0]!,(P.fieldsOf T)[1]!]
 nm : (P.fieldsOf T)[0]!.name ≠ "_" ∧ (P.fieldsOf T)[1]!.name ≠ "_"
 ty:(P.fieldsOf T)[0]!.type=S/\(P.fieldsOf T)[1]!.type=S
 off:(P.fieldsOf T)[0]!.offset=0/\(P.fieldsOf T)[1]!.offset=1
 str:P.underlying S=some .string
def jZ (p:ByteArray × ByteArray):Value:=.agg #[.string p.1,.string p.2]
theorem toL_eq (a b:ByteArray):(a.toList == b.toList)=decide (a=b):=by
 by_cases h:a=b
 ·rw [decide_eq_true h]; exact aR.2 h
 rw [decide_eq_false h]; exact E4.2 h
section
variable {P:Program} {T S:TypeId} (hT:wb P T S) (w:World)
include hT
theorem D2 (a b:ByteArray):(part S #[.string a,.string b] 0).run P w=.ok (.string a) w:=by
 simp [part,isAgg,run_underlying hT.str]
theorem D3 (a b:ByteArray):(part S #[.string a,.string b] 1).run P w=.ok (.string b) w:=by
 simp [part,isAgg,run_underlying hT.str]
theorem PL (p q:ByteArray × ByteArray):(Op.equal T (jZ p) (jZ q)).run P w=.ok (decide (p=q)) w:=by
 have h:=run_equalIn_struct w 9999 T #[.string p.1,.string p.2] #[.string q.1,.string q.2] hT.und hT.held;show(Op.equalIn (9999+1) T _ _).run P w=_
 unfold jZ;rw [h,hT.fs];have n0:=hT.nm.1;have n1:=hT.nm.2;have es:∀ (a b:ByteArray),(Op.equalIn 9999 S (.string a) (.string b)).run P w=.ok (decide (a=b)) w:=fun a b=>by
  rw [<- toL_eq]; exact run_equalIn_string w 9998 S a b hT.str
 obtain⟨p1,p2⟩:=p;obtain⟨q1,q2⟩:=q;simp only [Op.eqFields,hT.ty.1,hT.ty.2,hT.off.1,hT.off.2,Sem.run_bind,D2 hT,Result.andThen_ok,es,ne_eq,n0,n1,not_false_eq_true,if_true]
 by_cases h1:p1=q1
 ·rw [decide_eq_true h1]
  simp only [Bool.not_true,Bool.false_eq_true,if_false,Sem.run_bind,D3 hT,Result.andThen_ok,es]
  by_cases h2:p2=q2
  ·rw [decide_eq_true h2]
   simp [h1,h2]
  rw [decide_eq_false h2];simp [h1,h2]
 rw [decide_eq_false h1];simp [h1]
theorem Ct (e:Bool) (n:Nat) (s:ByteArray):(Instr.checkKey e (n+1) S (.string s)).run P w=.ok () w:=by
 simp [Instr.checkKey,run_underlying hT.str]
theorem AY (e:Bool) (n:Nat) (p:ByteArray × ByteArray):(Instr.checkKey e (n+1+1) T (jZ p)).run P w=.ok () w:=by
 have n0:=hT.nm.1;have n1:=hT.nm.2;unfold jZ;rw [Instr.checkKey];simp only [Sem.run_bind,run_underlying hT.und,Result.andThen_ok];rw [<- Array.forIn_toList,hT.fs];simp [hT.ty.1,hT.ty.2,hT.off.1,hT.off.2,n0,n1,D2 hT,D3 hT,Ct hT]
theorem mR (e:Bool) (p:ByteArray × ByteArray):(Instr.checkKey e 10000 T (jZ p)).run P w=.ok () w:=AY hT w e 9998 p
end
def J6 (i:Nat) (p:ByteArray × ByteArray):MapEntry:=⟨jZ p,.bool true,i⟩
def eE:Nat->List (ByteArray × ByteArray)->List MapEntry
 | _,[]=>[]
 | i,p :: l=>J6 i p :: eE (i+1) l
theorem AZ:∀ (l:List (ByteArray × ByteArray)) (i:Nat) (p:ByteArray × ByteArray),eE i (l++[p])=eE i l++[J6 (i+l.length) p]
 | [],i,p=>rfl
 | q :: l,i,p=>by
  show J6 i q :: eE (i+1) (l++[p])=_
  rw [AZ l (i+1) p,List.length_cons,show i+1+l.length=i+(l.length+1) by omega]; rfl
theorem xV {P:Program} {T S:TypeId} (hT:wb P T S) (w:World) (p:ByteArray × ByteArray):∀ (l:List (ByteArray × ByteArray)) (i j:Nat),
  ∃ o,(Instr.findAsking T (jZ p) (eE i l) j).run P w=.ok o w/\(p∈l->∃ k,o=some (k,.bool true))/\(p ∉ l->o=none)
 | [],i,j=>⟨none,by simp [Instr.findAsking,eE],(fun h=>by cases h),fun _=>rfl⟩
 | q :: l,i,j=>by
  obtain⟨o,h1,h2,h3⟩:=xV hT w p l (i+1) (j+1);have e:=PL hT w p q
  by_cases hpq:p=q
  ·refine⟨some (j,.bool true),?_,fun _=>⟨j,rfl⟩,fun h=>absurd (by rw [hpq]; exact List.mem_cons_self) h⟩
   rw [decide_eq_true hpq] at e;simp only [Instr.findAsking,eE,Sem.run_bind];show((Op.equal T (jZ p) (jZ q)).run P w).andThen _=_
   rw [e];simp [J6]
  refine⟨o,?_,fun h=>h2 ((List.mem_cons.1 h).resolve_left hpq),fun h=>h3 (fun k=>h (List.mem_cons_of_mem _ k))⟩
  rw [decide_eq_false hpq] at e;simp only [Instr.findAsking,eE,Sem.run_bind];show((Op.equal T (jZ p) (jZ q)).run P w).andThen _=_
  rw [e];simpa using h1
theorem uD {P:Program} {T S:TypeId} (hT:wb P T S) (w:World) (p:ByteArray × ByteArray) (l:List (ByteArray × ByteArray)) :
  ∃ o,(Instr.findKey T (jZ p) (eE 0 l)).run P w=.ok o w/\(p∈l->∃ k,o=some (k,.bool true))/\(p ∉ l->o=none):=by
 obtain⟨o,h1,h2,h3⟩:=xV hT w p l 0 0;cases l with
 | nil =>
  refine⟨none,?_,(fun h=>by cases h),fun _=>rfl⟩
  simp [Instr.findKey,run_underlying hT.und,eE,Instr.findNow]
 | cons q l =>
  refine⟨o,?_,h2,h3⟩
  simp only [Instr.findKey,run_underlying hT.und,Sem.run_bind,Result.andThen_ok];have:Instr.findNow (.struct (P.fieldsOf T)) (jZ p) (eE 0 (q :: l)) 0=none:=rfl;rw [this];exact h1
theorem J7 {P:Program} {V:aa} {M T S E m:Nat} {l:List (ByteArray × ByteArray)} (hM:P.underlying M=some (.map T E)) (hz:∀ w,(zeroValue E).run P w=.ok (.bool false) w) (hT:wb P T S)
  (hV:V m=some (B1 (eE 0 l),(l.length,(1,0)))) (p:ByteArray × ByteArray) :
  sV P V (sU.lk M (.map (some m)) (jZ p) false).ye (fun V' r=>V'=V/\∃ e,r=.bool e/\(e=true↔p∈l)):=by
 intro w hw;have hm:=hw _ _ _ hV;rw [qj] at hm;obtain⟨o,h1,h2,h3⟩:=uD hT w p l;have hg:(getObj m).run P w=.ok (.map (eE 0 l).toArray l.length) w:=by simp [getObj,Sem.run,hm]
 by_cases h:p∈l
 ·obtain⟨k,rfl⟩:=h2 h
  refine⟨.bool true,w,V,?_,Fr.refl V w,hw,rfl,true,rfl,⟨fun _=>h,fun _=>rfl⟩⟩
  simp [sU.ye,Instr.lookup,run_underlying hM,hg,mR hT,h1]
 have:=h3 h;subst this;refine⟨.bool false,w,V,?_,Fr.refl V w,hw,rfl,false,rfl,⟨(fun e=>by cases e),fun e=>absurd e h⟩⟩
 simp [sU.ye,Instr.lookup,run_underlying hM,hg,mR hT,h1,hz]
theorem J8 {P:Program} {V:aa} {M T S E m:Nat} {l:List (ByteArray × ByteArray)} (hM:P.underlying M=some (.map T E)) (hT:wb P T S)
  (hV:V m=some (B1 (eE 0 l),(l.length,(1,0)))) (p:ByteArray × ByteArray) (h:p ∉ l) :
  sV P V (sU.up M (.map (some m)) (jZ p) (.bool true)).ye (fun V' r=>V'=aB V m (B1 (eE 0 (l++[p])),((l++[p]).length,(1,0)))/\r=.tuple #[]):=by
 intro w hw;have hm:=hw _ _ _ hV;rw [qj] at hm;have aN:=(Array.getElem?_eq_some_iff.1 hm).1;obtain⟨o,h1,h2,h3⟩:=uD hT w p l;have:=h3 h;subst this;have hg:(getObj m).run P w=.ok (.map (eE 0 l).toArray l.length) w:=by simp [getObj,Sem.run,hm]
 obtain⟨f1,f2⟩:=map_set (k':=(l++[p]).length) (es':=eE 0 (l++[p])) hw hV;refine⟨_,_,_,?_,f1,f2,rfl,rfl⟩
 have hs:(setObj m (.map (eE 0 (l++[p])).toArray (l++[p]).length)).run P w=.ok () { w with heap:=w.heap.setIfInBounds m (.map (eE 0 (l++[p])).toArray (l++[p]).length) }:=by
  simp [setObj,Sem.run,hm]
 have e:(eE 0 l).toArray.push { key:=jZ p,val:=.bool true,born:=l.length }=(eE 0 (l++[p])).toArray:=by
  rw [AZ];simp [J6]
 have e2:l.length+1=(l++[p]).length:=by simp
 simp only [sU.ye,Instr.mapUpdate,run_underlying hM,Sem.run_bind,Result.andThen_ok,hg,mR hT,h1,e,e2,hs]
 rfl
def jx (neg:Bool) (n d:List aI):Prop:=eD neg n/\hZ d/\0<d.length/\d.length<=18/\n.length<=18/\Int.gcd (af n) (af d)=1
def mS (x:Int):Prop:=97<=x/\x<=122
def kj (x:Int):Prop:=48<=x/\x<=57
def gH (s:ByteArray):Prop:=1<=s.size/\s.size<=12/\mS (de s 0)/\∀ i,i<s.size->mS (de s i)\/kj (de s i)
def cG (neg:Bool) (l:List aI) (sc:Int):Prop:=eD neg l/\l.length<=6/\0<=sc/\sc<=30
def bJ (r:aW):Prop:=known r.1=true/\known r.2.1=true/\r.1≠r.2.1/\cG r.2.2.1 r.2.2.2.1 r.2.2.2.2.1/\0<bQ r.2.2.1 r.2.2.2.1/\r.2.2.2.1.length<=2
def fh (a b:ByteArray):Prop:=Op.bytesLess a.toList b.toList=true
def oC (l:List aE) (i:Nat):Prop:=∃ h:i<l.length,gH l[i].1/\bp l[i].2.1 l[i].2.2.1 l[i].2.2.2.1/\(0<i->fh l[i-1].1 l[i].1)
def cq (l:List aE):Prop:=l.length<=12/\∀ i,i<l.length->oC l i
def oD (l:List iY) (i:Nat):Prop:=∃ h:i<l.length,known l[i].1=true/\jx l[i].2.1 l[i].2.2.1 l[i].2.2.2.1/\pd (bQ l[i].2.1 l[i].2.2.1)≠0/\(0<i->fh l[i-1].1 l[i].1)
def lH (l:List iY):Prop:=∀ i,i<l.length->oD l i
def dn (r:aW):ByteArray × ByteArray:=(r.1,r.2.1)
def F4 (l:List aW) (i:Nat):Prop:=∃ h:i<l.length,bJ l[i]/\∀ (j:Nat) (hj:j<l.length),j<i->dn l[j]≠dn l[i]
def fb (p:ByteArray) (l:List aW):Prop:=known p=true/\l.length<=12/\∀ i,i<l.length->F4 l i
def a7 (x:ao):Prop:=cq x.1/\lH x.2.1/\fb x.2.2.1 x.2.2.2.1
theorem nD {V:aa} {c:aH [.s,.s,.b,.l]} {x:aE} {f:List Nat} (h:aw.R V c x f):∃ s g,c=(x.1,x.2.1,x.2.2.1,s,())/\LR rI V s x.2.2.2.1 g:=by
 obtain⟨c0,c1,c2,c3,cu⟩:=c;obtain⟨x0,x1,x2,x3,xu⟩:=x;obtain⟨⟨e0,_⟩,h⟩:=h;replace e0:c0=x0:=e0;subst e0;obtain⟨⟨e1,_⟩,h⟩:=h;replace e1:c1=x1:=e1;subst e1;obtain⟨e2,h⟩:=h;replace e2:c2=x2:=e2;subst e2;obtain⟨g,g2,_,hs,_⟩:=h;exact⟨c3,g,rfl,hs⟩
theorem qv {V:aa} {c:aH [.s,.b,.l,.l]} {x:iY} {f:List Nat} (h:aS.R V c x f):∃ s s' g g',c=(x.1,x.2.1,s,s',())/\LR rI V s x.2.2.1 g/\LR rI V s' x.2.2.2.1 g':=by
 obtain⟨c0,c1,c2,c3,cu⟩:=c;obtain⟨x0,x1,x2,x3,xu⟩:=x;obtain⟨⟨e0,_⟩,h⟩:=h;replace e0:c0=x0:=e0;subst e0;obtain⟨e1,h⟩:=h;replace e1:c1=x1:=e1;subst e1;obtain⟨g,g2,_,hs,h⟩:=h;obtain⟨g',g3,_,CB,_⟩:=h;exact⟨c2,c3,g,g',rfl,hs,CB⟩
theorem iq {V:aa} {c:aH [.s,.s,.b,.l,.i .i64]} {x:aW} {f:List Nat} (h:az.R V c x f):∃ s g,c=(x.1,x.2.1,x.2.2.1,s,x.2.2.2.2.1,())/\LR rI V s x.2.2.2.1 g:=by
 obtain⟨c0,c1,c2,c3,c4,cu⟩:=c;obtain⟨x0,x1,x2,x3,x4,xu⟩:=x;obtain⟨⟨e0,_⟩,h⟩:=h;replace e0:c0=x0:=e0;subst e0;obtain⟨⟨e1,_⟩,h⟩:=h;replace e1:c1=x1:=e1;subst e1;obtain⟨e2,h⟩:=h;replace e2:c2=x2:=e2;subst e2;obtain⟨g,g2,_,hs,h⟩:=h;obtain⟨e4,_⟩:=h;replace e4:c4=x4:=e4;subst e4;exact⟨c3,g,rfl,hs⟩
theorem yz {P:Program} {K:aa->List Value->Prop} {V V0:aa} {n:Nat} {p:Nat->Prop} {body:cH [.o (.o (.i .i64))]->T} {tail:T} {Ns:List (List LV->aa->Prop)} (hn:n<=9223372036854775807)
  (lB:∀ (V':aa) (i:Nat) (N:List LV->aa->Prop),V.le V'->i<n->(∀ j,j<i->p j)->(∀ V2,V'.le V2->¬ p i->K V2 [.bool false])->(∀ V2,V'.le V2->p i->N [.v (.int .i64 (i64.wrap ((i:Int)+1)))] V2)->(body ((i:Int),())).wp P K V' V' (Ns++[N]))
  (JW:∀ V',V.le V'->(∀ i,i<n->p i)->∀ N,tail.wp P K V' V' (Ns++[N])) (Pp:∀ V' i,V.le V'->i<n->¬ p i->K V' [.bool false]) :
  (T.lp [.o (.o (.i .i64))] [.v (.int .i64 (0:Int))] fun y=>.br (decide (y.fst<(n:Int))) (body y) tail).wp P K V V0 Ns:=by
 simp only [T.wp];refine⟨fun y V'=>V.le V'/\∃ i:Nat,y.1=(i:Int)/\i<=n/\∀ j,j<i->p j,fun y=>((n:Int)-(y.1:Int)).toNat,⟨((0:Int),()),rfl,aa.le.refl _,0,rfl,by omega,fun j hj=>by omega⟩,?_⟩
 rintro⟨(i:Int),u⟩ V' ⟨hV,k,hk,hle,bC⟩;replace hk:i=(k:Int):=hk;subst hk;refine⟨fun aN=>?_,fun cg=>?_⟩
 ·have h1:k<n:=by
   have:(k:Int)<(n:Int):=bq aN;omega
  refine lB V' k _ hV h1 bC (fun V2 h2 bR=>Pp V2 k (hV.trans h2) h1 bR) fun V2 h2 he=>?_
  refine⟨(((k+1:Nat):Int),()),by rw [kD h1 (by omega)]; rfl,⟨hV.trans h2,k+1,rfl,h1,fun j hj=>?_⟩,?_⟩
  ·by_cases e:j=k
   ·subst e; exact he
   exact bC j (by omega)
  show((n:Int)-((k+1:Nat):Int)).toNat<((n:Int)-(k:Int)).toNat
  omega
 have h1:k=n:=by
  have:¬ (k:Int)<(n:Int):=bU cg;omega
 subst h1;exact JW V' hV bC _
def D4 (_:aa):Prop:=True
def wc (V:aa):Prop:=iS V
theorem D4.le {V V':aa} (_:D4 V) (_:V.le V'):D4 V':=trivial
theorem wc.le {V V':aa} (h:wc V) (k:V.le V'):wc V':=iS.le h k
theorem mD {V:aa} (_:D4 V) (x:ByteArray):ae prog V 37 [.string x] (fun V' r=>V.le V'/\r=.bool (known x)):=mA V x
theorem j0 {V:aa} (h:wc V) (x:ByteArray):ae prog V 52 [.string x] (fun V' r=>V.le V'/\r=.bool (known x)):=(pG h x).mono (by
 rintro V' r ⟨rfl,rfl⟩;exact⟨aa.le.refl _,rfl⟩)
theorem PM {V:aa} (_:D4 V) (c0:ByteArray) (c1:Bool) (c2:ar) (l:List aI) (f:List Nat) (h:LR rI V c2 l f):ae prog V 73 [ct (c0,c1,c2,())] (fun V' r=>V.le V'/\∃ e,r=.bool e/\(e=true↔bp c0 c1 l)):=ia c0 c1 c2 l f h
theorem PN {V:aa} (hV:wc V) (c0:ByteArray) (c1:Bool) (c2:ar) (l:List aI) (f:List Nat) (h:LR rI V c2 l f):ae prog V 99 [ct (c0,c1,c2,())] (fun V' r=>V.le V'/\∃ e,r=.bool e/\(e=true↔bp c0 c1 l)):=jv hV c0 c1 c2 l f h
theorem one_can {g:List aI} (h:Can g):af g=1↔g.length=1/\ab g 0=1:=by
 constructor
 ·intro e
  have hp:=(gX h).2 (by omega);have h1:=iO h hp;have hl:g.length=1:=by
   by_cases k:g.length=1
   ·exact k
   have h2:=gD (show 1<=g.length-1 by omega);simp at h2;omega
  refine⟨hl,?_⟩
  rw [af,hl] at e;simpa [ak] using e
 rintro⟨hl,e⟩;rw [af,hl];simp [ak,e]
theorem jx.mk {neg:Bool} {n d g:List aI} (h1:eD neg n) (h2:hZ d) (h3:¬ d.length=0) (h4:¬ (d.length:Int) > 18) (h5:¬ (n.length:Int) > 18) (hg:af g=(Int.gcd (af n) (af d):Int)):af g=1↔jx neg n d:=by
 rw [hg];constructor
 ·intro e
  exact⟨h1,h2,by omega,by omega,by omega,by omega⟩
 intro h;have:=h.2.2.2.2.2;omega
abbrev jb (V:aa) (p:Prop):aa->Value->Prop:=fun V' r=>V.le V'/\∃ e,r=.bool e/\(e=true↔p)
theorem ck {V:aa} {p:Prop} {V':aa} (h:V.le V') (k:¬ p):jb V p V' (.bool false):=⟨h,false,rfl,⟨(fun e=>by cases e),fun e=>absurd e k⟩⟩
theorem A0 (V:aa) (c0:Bool) (c1 c2:ar) (n d:List aI) (f g:List Nat) (h:LR rI V c1 n f) (h':LR rI V c2 d g):ae prog V 74 [lS (c0,c1,c2,())] (jb V (jx c0 n d)):=by
 refine aM (X2 _) fun _=>?_
 simp only [IB,T.wp];have hn:=h.1;have hd:=h'.1;refine(jY V c0 c1 n f h).mono ?_
 rintro V0 r ⟨rfl,e,rfl,he⟩;refine⟨nofun,e,rfl,(fun hf=>ck (aa.le.refl _) fun k=>by rw [he.2 k.1] at hf; cases hf),fun ht=>?_⟩
 have ht':e=true:=by simpa using ht
 refine(pK V0 c2 d g h').mono ?_
 rintro V1 r ⟨rfl,e2,rfl,fq⟩;refine⟨nofun,e2,rfl,(fun hf=>ck (aa.le.refl _) fun k=>by rw [fq.2 k.2.1] at hf; cases hf),fun we=>?_⟩
 have Zc:e2=true:=by simpa using we
 refine⟨fun hz=>ck (aa.le.refl _) fun k=>?_,fun hz=>⟨fun SJ=>ck (aa.le.refl _) fun k=>?_,fun SJ=>⟨fun hz3=>ck (aa.le.refl _) fun k=>?_,fun hz3=>?_⟩⟩⟩
 ·have:(c2.n:Int)=0:=by simpa using hz
  have:=k.2.2.1;omega
 ·have:(c2.n:Int) > 18:=bq SJ
  have:=k.2.2.2.1;omega
 ·have:(c1.n:Int) > 18:=bq hz3
  have:=k.2.2.2.2.1;omega
 have q1:¬ d.length=0:=by
  have:¬ (c2.n:Int)=0:=by simpa using hz
  omega
 have q2:¬ (d.length:Int) > 18:=by
  have:¬ (c2.n:Int) > 18:=bU SJ;omega
 have q3:¬ (n.length:Int) > 18:=by
  have:¬ (c1.n:Int) > 18:=bU hz3;omega
 refine(UT V1 c1 c2 n d f g h h' (he.1 ht').1 (fq.1 Zc)).mono ?_
 rintro V2 r ⟨hle,s,gg,fg,rfl,hL,hO,hc,hv⟩;refine⟨nofun,s,rfl,?_⟩
 intro b4 c4 sp hb4 hc4 _;have k4:=ju (V:=V2) (b:=b4) (cap:=c4) (o:=[(1,())]) (spare:=sp) (t:=3) hb4 hc4 (by simp);have oy:=aG (x:=([((1:Int),())].map ag++sp,((3:TypeId),((0,0):Nat × Nat)))) hb4;have c1c:Can [((1:Int),())]:=⟨ur (by decide),.inr (by decide)⟩;refine(kT _ s ⟨some ⟨b4,0,none⟩,1,c4⟩ gg [(1,())] _ _ (hL.le oy) k4.1).mono ?_
 rintro V3 r ⟨rfl,rfl⟩;refine⟨nofun,_,rfl,hle.trans oy,_,rfl,?_⟩
 rw [<- jx.mk (he.1 ht') (fq.1 Zc) q1 q2 q3 hv,show(af gg=1↔af gg=af [((1:Int),())]) by rw [iW],<- cmp_eq hc c1c];exact beq_iff_eq
theorem J9 (V:aa) (c0:Bool) (c1 c2:ar) (n d:List aI) (f g:List Nat) (h:LR rI V c1 n f) (h':LR rI V c2 d g):ae prog V 100 [lS (c0,c1,c2,())] (jb V (jx c0 n d)):=by
 refine aM (X9 _) fun _=>?_
 simp only [IK,T.wp];have hn:=h.1;have hd:=h'.1;refine(AV V c0 c1 n f h).mono ?_
 rintro V0 r ⟨rfl,e,rfl,he⟩;refine⟨nofun,e,rfl,(fun hf=>ck (aa.le.refl _) fun k=>by rw [he.2 k.1] at hf; cases hf),fun ht=>?_⟩
 have ht':e=true:=by simpa using ht
 refine(JX V0 c2 d g h').mono ?_
 rintro V1 r ⟨rfl,e2,rfl,fq⟩;refine⟨nofun,e2,rfl,(fun hf=>ck (aa.le.refl _) fun k=>by rw [fq.2 k.2.1] at hf; cases hf),fun we=>?_⟩
 have Zc:e2=true:=by simpa using we
 refine⟨fun hz=>ck (aa.le.refl _) fun k=>?_,fun hz=>⟨fun SJ=>ck (aa.le.refl _) fun k=>?_,fun SJ=>⟨fun hz3=>ck (aa.le.refl _) fun k=>?_,fun hz3=>?_⟩⟩⟩
 ·have:(c2.n:Int)=0:=by simpa using hz
  have:=k.2.2.1;omega
 ·have:(c2.n:Int) > 18:=bq SJ
  have:=k.2.2.2.1;omega
 ·have:(c1.n:Int) > 18:=bq hz3
  have:=k.2.2.2.2.1;omega
 have q1:¬ d.length=0:=by
  have:¬ (c2.n:Int)=0:=by simpa using hz
  omega
 have q2:¬ (d.length:Int) > 18:=by
  have:¬ (c2.n:Int) > 18:=bU SJ;omega
 have q3:¬ (n.length:Int) > 18:=by
  have:¬ (c1.n:Int) > 18:=bU hz3;omega
 refine(US V1 c1 c2 n d f g h h' (he.1 ht').1.1 (fq.1 Zc).1 (by omega) (by omega)).mono ?_
 rintro V2 r ⟨hle,s,gg,fg,rfl,hL,hO,hc,hv⟩;have key:=jx.mk (he.1 ht') (fq.1 Zc) q1 q2 q3 hv;rw [one_can hc] at key;have hng:=hL.1;refine⟨nofun,s,rfl,fun vC=>?_,fun kb=>ck hle fun k=>?_⟩
 ·have h1:gg.length=1:=by
   have:(s.n:Int)=1:=by simpa using vC
   omega
  obtain⟨b1,o1,a1,l1⟩:=hL.int (show 0<gg.length by omega);rw [<- aV (show 0<gg.length by omega)] at l1;refine⟨_,a1,Int.le_refl _,(by omega:(0:Int)<(s.n:Int)),ab gg 0,l1,hle,_,rfl,?_⟩
  rw [<- key];exact⟨fun hh=>⟨h1,by simpa using hh⟩,fun hh=>by simpa using hh.2⟩
 have:¬ (s.n:Int)=1:=by simpa using kb
 have:=(key.2 k).1;omega
theorem PO (V:aa) (c0:Bool) (c1 c2:ar) (n d:List aI) (f g:List Nat) (h:LR rI V c1 n f) (h':LR rI V c2 d g) (hr:jx c0 n d):ae prog V 101 [lS (c0,c1,c2,())] (fun V' r=>V.le V'/\r=.int .i64 (pd (bQ c0 n))):=by
 refine aM (N5 _) fun _=>?_
 simp only [zY,T.wp];refine(J9 V c0 c1 c2 n d f g h h').mono ?_
 rintro V1 r ⟨hle,e,rfl,he⟩;have gB:=he.2 hr;subst gB;refine⟨nofun,true,rfl,nofun,fun _=>(rV V1 c0 c1 n f (h.le hle) hr.1.1.1).mono ?_⟩
 rintro V2 r ⟨rfl,rfl⟩;exact⟨nofun,_,rfl,hle,rfl⟩
theorem D5 (V:aa) (s:ar) (l:List aI) (f:List Nat) (h:LR rI V s l f) (hl:l.length<=50):ae prog V 215 [qL s] (fun V' r=>V'=V/\∃ s',r=qL s'/\LR rI V s' (db l) f):=by
 refine aM (Uc _) fun _=>?_
 simp only [Dy,T.wp];refine(hY V s l f h).mono ?_
 rintro V1 r ⟨rfl,s',rfl,-,hL⟩;have hn:=hL.1;have:(db l).length<=l.length:=by unfold db; rw [List.length_take]; exact Nat.min_le_right _ _
 refine⟨nofun,s',rfl,fun v'=>?_,fun _=>⟨rfl,s',rfl,hL⟩⟩
 have:(s'.n:Int) > 50:=bq v';omega
theorem trim_id {l:List aI} (h:Can l):db l=l:=uv (dS h.1).1 h (dS h.1).2
theorem oE (V:aa) (c0:Bool) (s:ar) (l:List aI) (f:List Nat) (h:LR rI V s l f) (hc:Can l) (hl:l.length<=50) :
  ae prog V 158 [.bool c0,qL s] (fun V' r=>V.le V'/\∃ s' f',r=cV (c0 && decide (0<l.length),s',())/\LR rI V' s' l f'/\cQ V V' f'):=by
 refine aM (Ad _ _) fun _=>?_
 simp only [rQ,T.wp];refine(D5 V s l f h hl).mono ?_
 rintro V1 r ⟨rfl,s1,rfl,hL⟩;rw [trim_id hc] at hL;obtain⟨r1,r2⟩:=hL.rdI;have hn:=hL.1;have fin:∀ (q:Bool),q=(c0 && decide (0<l.length))->∀ b cap spare,V1 b=none->0+s1.n<=cap->V1.le (aB V1 b (([]++l.map ag)++spare,(3,(0,0))))/\∃ s' f',packed [cV (q,(⟨some ⟨b,0,none⟩,0+s1.n,cap⟩:ar),())]=cV (c0 && decide (0<l.length),s',())/\LR rI (aB V1 b (([]++l.map ag)++spare,(3,(0,0)))) s' l f'/\cQ V1 (aB V1 b (([]++l.map ag)++spare,(3,(0,0)))) f':=by
  intro q hq b cap spare hb dd;have k:=ju (V:=V1) (b:=b) (cap:=cap) (o:=l) (spare:=spare) (t:=3) hb (by omega) (by omega);refine⟨aG hb,⟨some ⟨b,0,none⟩,0+s1.n,cap⟩,[b],by rw [hq]; rfl,?_,k.2⟩
  rw [Nat.zero_add,hn];exact k.1
 refine⟨nofun,s1,rfl,fun dN=>⟨l.map ag,r1,r2,⟨r2,(by omega:(0+s1.n)*8<=140737488355328),(by omega:0+s1.n<=9223372036854775807)⟩,fun b cap spare hb dd _=>fin _ ?_ b cap spare hb dd⟩,fun df=>⟨l.map ag,r1,r2,⟨r2,(by omega:(0+s1.n)*8<=140737488355328),(by omega:0+s1.n<=9223372036854775807)⟩,fun b cap spare hb dd _=>fin _ ?_ b cap spare hb dd⟩⟩
 ·have:c0=true:=dN
  subst this;show decide ((s1.n:Int) > 0)=(true && decide (0<l.length))
  rw [Bool.true_and];exact decide_eq_decide.2 (by omega)
 have:c0=false:=df;subst this
 rfl
theorem F5 {q:Bool} {o:List aI} (hc:Can o) (hl:o.length<=50):eD (q && decide (0<o.length)) o/\bQ (q && decide (0<o.length)) o=bQ q o:=by
 refine⟨⟨⟨hc,hl⟩,fun h=>by simp at h; exact h.2⟩,?_⟩
 by_cases hz:0<o.length
 ·simp [hz]
 have:af o=0:=(vK hc).1 (by omega);unfold bQ;cases q <;> simp [this]
theorem U' (V:aa) (c0:Bool) (c1 c2:ar) (d0:Bool) (d1 d2:ar) (n d m e:List aI) (f g f' g':List Nat) (h1:LR rI V c1 n f) (h2:LR rI V c2 d g) (h3:LR rI V d1 m f') (h4:LR rI V d2 e g') (hr:jx c0 n d) (hs:jx d0 m e) :
  ae prog V 129 [lS (c0,c1,c2,()),lS (d0,d1,d2,())] (fun V' r=>V.le V'/\r=.int .i64 (pd (bQ c0 n*af e-bQ d0 m*af d))):=by
 refine aM (TN _ _) fun _=>?_
 simp only [Dk,T.wp];have z1:=hr.2.2.2.1;have z2:=hr.2.2.2.2.1;have z3:=hs.2.2.2.1;have z4:=hs.2.2.2.2.1;refine(A0 V c0 c1 c2 n d f g h1 h2).mono ?_
 rintro V1 r ⟨aF,b1,rfl,fW⟩;have fW:=fW.2 hr;subst fW;refine⟨nofun,true,rfl,nofun,fun _=>(A0 V1 d0 d1 d2 m e f' g' (h3.le aF) (h4.le aF)).mono ?_⟩
 rintro V2 r ⟨bm,b2,rfl,ow⟩;have ow:=ow.2 hs;subst ow;have l2:=aF.trans bm;refine⟨nofun,true,rfl,nofun,fun _=>(qt V2 c1 d2 n e f g' (h1.le l2) (h4.le l2) hr.1.1.1.1 hs.2.1.1.1 (by omega) (by omega)).mono ?_⟩
 rintro V3 r ⟨bS,s3,o3,f3,rfl,L3,_,C3,v3⟩;have n3:=Ru (a:=n) (b:=e) hs.2.1.1 C3 hr.1.1.1.1 v3;refine⟨fun _=>bS,s3,rfl,(oE V3 c0 s3 o3 f3 L3 C3 (by omega)).mono ?_⟩
 rintro V4 r ⟨jm,s4,f4,rfl,L4,_⟩;have l4:=(l2.trans bS).trans jm;refine⟨fun _=>jm,(c0 && decide (0<o3.length),s4,()),rfl,(qt V4 d1 c2 m d f' g (h3.le l4) (h2.le l4) hs.1.1.1.1 hr.2.1.1.1 (by omega) (by omega)).mono ?_⟩
 rintro V5 r ⟨fu,s5,o5,f5,rfl,L5,_,C5,v5⟩;have n5:=Ru (a:=m) (b:=d) hr.2.1.1 C5 hs.1.1.1.1 v5;refine⟨fun _=>fu,s5,rfl,(oE V5 d0 s5 o5 f5 L5 C5 (by omega)).mono ?_⟩
 rintro V6 r ⟨rk,s6,f6,rfl,L6,_⟩;obtain⟨uE,e3⟩:=F5 (q:=c0) C3 (by omega);obtain⟨ok5,e5⟩:=F5 (q:=d0) C5 (by omega);refine⟨fun _=>rk,(d0 && decide (0<o5.length),s6,()),rfl,(DX V6 _ s4 _ s6 o3 o5 f4 f6 ((L4.le fu).le rk) L6 uE ok5).mono ?_⟩
 rintro V7 r ⟨rfl,rfl⟩;refine⟨fun _=>aa.le.refl _,_,rfl,(l4.trans fu).trans rk,?_⟩
 have q1:bQ c0 o3=bQ c0 n*af e:=by
  unfold bQ;rw [v3];split
  ·rw [Int.neg_mul]
  rfl
 have q2:bQ d0 o5=bQ d0 m*af d:=by
  unfold bQ;rw [v5];split
  ·rw [Int.neg_mul]
  rfl
 rw [e3,e5,q1,q2]
 rfl
theorem PQ (V:aa) (c0:Bool) (c1 c2:ar) (n d:List aI) (f g:List Nat) (h:LR rI V c1 n f) (h':LR rI V c2 d g) (hr:jx c0 n d):ae prog V 75 [lS (c0,c1,c2,())] (fun V' r=>V.le V'/\r=.int .i64 (pd (bQ c0 n))):=by
 refine aM (NV _) fun _=>?_
 simp only [zT,T.wp];have z:ae prog V 130 [] (fun V' r=>V.le V'/\∃ s b,r=lS (false,⟨none,0,0⟩,s,())/\LR rI V' s [(1,())] [b]):=by
  refine aM N9 fun _=>?_
  simp only [z7,T.wp];intro b cap spare hb dd _;have k:=ju (V:=V) (b:=b) (cap:=cap) (o:=[(1,())]) (spare:=spare) (t:=3) hb dd (by simp);exact⟨aG hb,⟨some ⟨b,0,none⟩,1,cap⟩,b,rfl,k.1⟩
 have hz:jx false [] [((1:Int),())]:=⟨⟨⟨⟨eU,.inl rfl⟩,by simp⟩,fun h=>by cases h⟩,⟨⟨ur (by decide),.inr (by decide)⟩,by simp⟩,by simp,by simp,by simp,by rw [iW]; rfl⟩
 refine z.mono ?_
 rintro V1 r ⟨aF,s,b,rfl,L1⟩;refine⟨fun _=>aF,(false,⟨none,0,0⟩,s,()),rfl,(U' V1 c0 c1 c2 false ⟨none,0,0⟩ s n d [] [(1,())] f g [] [b] (h.le aF) (h'.le aF) ⟨rfl,Nat.le_refl _,by simp,.inl ⟨rfl,fun _=>rfl,rfl⟩⟩ L1 hr hz).mono ?_⟩
 rintro V2 r ⟨bm,rfl⟩;refine⟨fun _=>bm,_,rfl,aF.trans bm,?_⟩
 rw [iW];have:bQ false []*af d=0:=by simp [bQ,jX]
 rw [this,Int.mul_one,Int.sub_zero]
 rfl
theorem A1 (V:aa) (c0:Bool) (c1:ar) (l:List aI) (f:List Nat) (h:LR rI V c1 l f) (hi:eD c0 l):ae prog V 44 [cV (c0,c1,())] (fun V' r=>V'=V/\r=.int .i64 (pd (bQ c0 l))):=by
 refine aM (Nu _) fun _=>?_
 simp only [zK,T.wp];refine(DX V c0 c1 false ⟨none,0,0⟩ l [] f [] h ⟨rfl,Nat.le_refl _,by simp,.inl ⟨rfl,fun _=>rfl,rfl⟩⟩ hi ⟨⟨⟨eU,.inl rfl⟩,by simp⟩,fun h=>by cases h⟩).mono ?_
 rintro V1 r ⟨rfl,rfl⟩;refine⟨nofun,_,rfl,by trivial,?_⟩
 have:bQ false []=0:=by simp [bQ,jX]
 rw [this,Int.sub_zero]
 rfl
theorem PR (V:aa) (x:Int):ae prog V 217 [.int .i64 x] (fun V' r=>V'=V/\r=.bool (decide (0<=x/\x<=30))):=by
 refine aM (Ox _) fun _=>?_
 simp only [Ap,T.wp];refine⟨fun h=>⟨by trivial,?_⟩,fun h=>⟨by trivial,?_⟩⟩
 ·have:x>=0:=bq h
  show Value.bool (decide (x<=30))=_
  rw [decide_eq_decide.2 (show x<=30↔(0<=x/\x<=30) from⟨fun k=>⟨this,k⟩,fun k=>k.2⟩)]
 have:¬ x>=0:=bU h;rw [decide_eq_false (show ¬ (0<=x/\x<=30) from fun k=>this k.1)]
 rfl
theorem A2 (V:aa) (c0:Bool) (c1:ar) (x:Int) (l:List aI) (f:List Nat) (h:LR rI V c1 l f):ae prog V 131 [cA (c0,c1,x,())] (fun V' r=>V'=V/\∃ e,r=.bool e/\(e=true↔cG c0 l x)):=by
 refine aM (Yh _) fun _=>?_
 simp only [IY,T.wp];have hn:=h.1;refine(jY V c0 c1 l f h).mono ?_
 rintro V1 r ⟨rfl,e,rfl,he⟩;refine⟨nofun,e,rfl,fun ht=>⟨fun h6=>?_,fun h6=>⟨by trivial,false,rfl,⟨(fun h=>by cases h),fun k=>?_⟩⟩⟩,fun hf=>⟨by trivial,false,rfl,⟨(fun h=>by cases h),fun k=>by rw [he.2 k.1] at hf; cases hf⟩⟩⟩
 ·have q:(c1.n:Int)<=6:=bq h6
  refine(pJ V1 x 0 30).mono ?_
  rintro V2 r ⟨rfl,rfl⟩;refine⟨nofun,_,rfl,by trivial,_,rfl,⟨fun hd=>⟨he.1 ht,by omega,(bq hd).1,(bq hd).2⟩,fun k=>decide_eq_true k.2.2⟩⟩
 have q:¬ (c1.n:Int)<=6:=bU h6;have:=k.2.1;omega
theorem J' (V:aa) (c0:Bool) (c1:ar) (x:Int) (l:List aI) (f:List Nat) (h:LR rI V c1 l f):ae prog V 168 [cA (c0,c1,x,())] (fun V' r=>V'=V/\∃ e,r=.bool e/\(e=true↔cG c0 l x)):=by
 refine aM (Yr _) fun _=>?_
 simp only [I9,T.wp];have hn:=h.1;refine(AV V c0 c1 l f h).mono ?_
 rintro V1 r ⟨rfl,e,rfl,he⟩;refine⟨nofun,e,rfl,fun ht=>⟨fun h6=>?_,fun h6=>⟨by trivial,false,rfl,⟨(fun h=>by cases h),fun k=>?_⟩⟩⟩,fun hf=>⟨by trivial,false,rfl,⟨(fun h=>by cases h),fun k=>by rw [he.2 k.1] at hf; cases hf⟩⟩⟩
 ·have q:(c1.n:Int)<=6:=bq h6
  refine(PR V1 x).mono ?_
  rintro V2 r ⟨rfl,rfl⟩;refine⟨nofun,_,rfl,by trivial,_,rfl,⟨fun hd=>⟨he.1 ht,by omega,(bq hd).1,(bq hd).2⟩,fun k=>decide_eq_true k.2.2⟩⟩
 have q:¬ (c1.n:Int)<=6:=bU h6;have:=k.2.1;omega
theorem yA {z:Int}:pd z > 0↔0<z:=by
 unfold pd;split
 ·omega
 split <;> omega
theorem Zd {s:ByteArray}:gH s↔(∀ i,i<s.size->mS (de s i)\/kj (de s i))/\0<s.size/\s.size<=12/\97<=de s 0:=by
 unfold gH;constructor
 ·rintro⟨h1,h2,h3,h4⟩
  exact⟨h4,h1,h2,h3.1⟩
 rintro⟨h1,h2,h3,h4⟩;refine⟨h2,h3,?_,h1⟩
 rcases h1 0 h2 with h | h
 ·exact h
 have:=h.2;omega
theorem A3 (V:aa) (x:Int):ae prog V 163 [.int .u8 x] (fun V' r=>V'=V/\∃ e,r=.bool e/\(e=true↔mS x)):=by
 refine aM (Oh _) fun _=>?_
 simp only [Af,T.wp];refine⟨fun h=>⟨by trivial,_,rfl,?_⟩,fun h=>⟨by trivial,_,rfl,⟨(fun k=>by cases k),fun k=>?_⟩⟩⟩
 ·have:x>=97:=bq h
  exact⟨fun k=>⟨this,bq k⟩,fun k=>decide_eq_true k.2⟩
 have:¬ x>=97:=bU h;exact absurd k.1 this
theorem A4 (V:aa) (x:Int):ae prog V 164 [.int .u8 x] (fun V' r=>V'=V/\∃ e,r=.bool e/\(e=true↔kj x)):=by
 refine aM (Oi _) fun _=>?_
 simp only [Ag,T.wp];refine⟨fun h=>⟨by trivial,_,rfl,?_⟩,fun h=>⟨by trivial,_,rfl,⟨(fun k=>by cases k),fun k=>?_⟩⟩⟩
 ·have:x>=48:=bq h
  exact⟨fun k=>⟨this,bq k⟩,fun k=>decide_eq_true k.2⟩
 have:¬ x>=48:=bU h;exact absurd k.1 this
theorem qw (V:aa) (s:ByteArray) (hs:s.size<=9223372036854775807):ae prog V 98 [.string s] (fun V' r=>V'=V/\∃ e,r=.bool e/\(e=true↔gH s)):=by
 refine aM (Tz _) fun _=>?_
 simp only [C9,T.wp];have no:∀ {V':aa},¬ gH s->V'=V'/\∃ e,packed [Value.bool false]=.bool e/\(e=true↔gH s):=fun h=>⟨rfl,false,rfl,⟨(fun k=>by cases k),fun k=>absurd k h⟩⟩
 refine⟨fun h=>⟨by trivial,false,rfl,⟨(fun k=>by cases k),fun k=>?_⟩⟩,fun h=>⟨fun h2=>⟨by trivial,false,rfl,⟨(fun k=>by cases k),fun k=>?_⟩⟩,fun h2=>?_⟩⟩
 ·have:(s.size:Int)<1:=bq h
  have:=k.1;omega
 ·have:(s.size:Int) > 12:=bq h2
  have:=k.2.1;omega
 have q1:¬ (s.size:Int)<1:=bU h;have q2:¬ (s.size:Int) > 12:=bU h2;refine⟨⟨by omega,by omega⟩,(A3 V _).mono ?_⟩
 rintro V1 r ⟨rfl,e,rfl,he⟩;refine⟨nofun,e,rfl,fun hf=>⟨by trivial,false,rfl,⟨(fun k=>by cases k),fun k=>?_⟩⟩,fun ht=>?_⟩
 ·rw [he.2 k.2.2.1] at hf
  cases hf
 have Pr:=he.1 (by simpa using ht);replace Pr:mS (de s 0):=Pr;refine⟨fun y V'=>V'=V1/\∃ i:Nat,y.1=(i:Int)/\1<=i/\i<=s.size/\∀ j,1<=j->j<i->mS (de s j)\/kj (de s j),fun y=>((s.size:Int)-(y.1:Int)).toNat,⟨((1:Int),()),rfl,rfl,1,rfl,by omega,by omega,fun j h1 h2=>by omega⟩,?_⟩
 rintro⟨(i:Int),u⟩ V' ⟨rfl,k,hk,h1k,Ze,bC⟩;replace hk:i=(k:Int):=hk;subst hk;refine⟨fun aN=>?_,fun cg=>?_⟩
 ·have Ka:k<s.size:=by
   have:(k:Int)<(s.size:Int):=bq aN;omega
  have gM:(0:Int)<=(k:Int)/\(k:Int)<(s.size:Int):=⟨by omega,by omega⟩;have next:mS (de s k)\/kj (de s k)->∃ y':cH [.o (.o (.i .i64))],[LV.v (.int .i64 (i64.wrap ((k:Int)+1)))]=cH.nf _ y'/\(V'=V'/\∃ i:Nat,y'.1=(i:Int)/\1<=i/\i<=s.size/\∀ j,1<=j->j<i->mS (de s j)\/kj (de s j))/\((s.size:Int)-(y'.1:Int)).toNat<((s.size:Int)-(k:Int)).toNat:=by
   intro hp;refine⟨(((k+1:Nat):Int),()),by rw [kD Ka hs]; rfl,⟨rfl,k+1,rfl,by omega,Ka,fun j h1 h2=>?_⟩,?_⟩
   ·by_cases e:j=k
    ·subst e; exact hp
    exact bC j h1 (by omega)
   show((s.size:Int)-((k+1:Nat):Int)).toNat<((s.size:Int)-(k:Int)).toNat
   omega
  refine⟨gM,(A3 V' _).mono ?_⟩
  rintro V2 r ⟨rfl,e1,rfl,gB⟩;replace gB:e1=true↔mS (de s k):=gB;refine⟨nofun,e1,rfl,fun hf=>⟨gM,(A4 V2 _).mono ?_⟩,fun ht1=>⟨_,rfl,next (.inl (gB.1 (by simpa using ht1)))⟩⟩
  rintro V3 r ⟨rfl,e2,rfl,fq⟩;replace fq:e2=true↔kj (de s k):=fq;refine⟨nofun,e2,rfl,fun hf2=>⟨by trivial,false,rfl,⟨(fun k=>by cases k),fun kw=>?_⟩⟩,fun we=>⟨_,rfl,next (.inr (fq.1 (by simpa using we)))⟩⟩
  rcases kw.2.2.2 k Ka with hh | hh
  ·rw [gB.2 hh] at hf; cases hf
  rw [fq.2 hh] at hf2; cases hf2
 have Ka:k=s.size:=by
  have:¬ (k:Int)<(s.size:Int):=bU cg;omega
 subst Ka;refine⟨rfl,true,rfl,⟨fun _=>⟨by omega,by omega,Pr,fun i hi=>?_⟩,fun _=>rfl⟩⟩
 by_cases e:i=0
 ·subst e; exact .inl Pr
 exact bC i (by omega) hi
theorem wg (V:aa) (s:ByteArray) (a b c d:Int) (hs:s.size<=9223372036854775807):ae prog V 124 [.string s,.int .u8 a,.int .u8 b,.int .u8 c,.int .u8 d]
  (fun V' r=>V'=V/\∃ e,r=.bool e/\(e=true↔(∀ i,i<s.size->(a<=de s i/\de s i<=b)\/(c<=de s i/\de s i<=d))/\0<s.size)):=by
 refine aM (TI _ _ _ _ _) fun _=>?_
 simp only [Dh,T.wp];refine⟨fun y V'=>V'=V/\∃ i:Nat,y.1=(i:Int)/\i<=s.size/\∀ j,j<i->(a<=de s j/\de s j<=b)\/(c<=de s j/\de s j<=d),fun y=>((s.size:Int)-(y.1:Int)).toNat,⟨((0:Int),()),rfl,rfl,0,rfl,by omega,fun j h=>by omega⟩,?_⟩
 rintro⟨(i:Int),u⟩ V' ⟨rfl,k,hk,Ze,bC⟩;replace hk:i=(k:Int):=hk;subst hk;refine⟨fun aN=>?_,fun cg=>?_⟩
 ·have Ka:k<s.size:=by
   have:(k:Int)<(s.size:Int):=bq aN;omega
  have gM:(0:Int)<=(k:Int)/\(k:Int)<(s.size:Int):=⟨by omega,by omega⟩;have e0:(k:Int).toNat=k:=by omega
  have next:(a<=de s k/\de s k<=b)\/(c<=de s k/\de s k<=d)->∃ y':cH [.o (.o (.i .i64))],[LV.v (.int .i64 (i64.wrap ((k:Int)+1)))]=cH.nf _ y'/\(V'=V'/\∃ i:Nat,y'.1=(i:Int)/\i<=s.size/\∀ j,j<i->(a<=de s j/\de s j<=b)\/(c<=de s j/\de s j<=d))/\((s.size:Int)-(y'.1:Int)).toNat<((s.size:Int)-(k:Int)).toNat:=by
   intro hp;refine⟨(((k+1:Nat):Int),()),by rw [kD Ka hs]; rfl,⟨rfl,k+1,rfl,Ka,fun j h2=>?_⟩,?_⟩
   ·by_cases e:j=k
    ·subst e; exact hp
    exact bC j (by omega)
   show((s.size:Int)-((k+1:Nat):Int)).toNat<((s.size:Int)-(k:Int)).toNat
   omega
  have bad:¬ ((a<=de s k/\de s k<=b)\/(c<=de s k/\de s k<=d))->V'=V'/\∃ e,packed [Value.bool false]=.bool e/\(e=true↔(∀ i,i<s.size->(a<=de s i/\de s i<=b)\/(c<=de s i/\de s i<=d))/\0<s.size) :=
   fun hn=>⟨rfl,false,rfl,⟨(fun k=>by cases k),fun kk=>absurd (kk.1 k Ka) hn⟩⟩
  dsimp only;rw [e0];refine⟨gM,fun h1=>⟨gM,fun h2=>bad ?_,fun h2=>⟨gM,fun h3=>bad ?_,fun h3=>⟨_,rfl,next ?_⟩⟩⟩,fun h1=>⟨gM,fun h2=>⟨gM,fun h3=>bad ?_,fun h3=>⟨gM,fun h4=>bad ?_,fun h4=>⟨_,rfl,next ?_⟩⟩⟩,fun h2=>⟨_,rfl,next ?_⟩⟩⟩
  all_goals (simp only [decide_eq_true_eq,decide_eq_false_iff_not] at *; omega)
 have Ka:k=s.size:=by
  have:¬ (k:Int)<(s.size:Int):=bU cg;omega
 subst Ka;refine⟨rfl,_,rfl,⟨fun hd=>⟨bC,?_⟩,fun hh=>decide_eq_true (by omega)⟩⟩
 have:(s.size:Int) > 0:=bq hd;omega
theorem jy (V:aa) (s:ByteArray) (hs:s.size<=9223372036854775807):ae prog V 72 [.string s] (fun V' r=>V'=V/\∃ e,r=.bool e/\(e=true↔gH s)):=by
 refine aM (To _) fun _=>?_
 simp only [CW,T.wp];refine(wg V s 97 122 48 57 hs).mono ?_
 rintro V1 r ⟨rfl,e,rfl,he⟩;have hw:=Zd (s:=s);refine⟨nofun,e,rfl,fun ht=>⟨fun qK=>?_,fun qK=>⟨by trivial,false,rfl,⟨(fun k=>by cases k),fun k=>?_⟩⟩⟩,fun hf=>⟨by trivial,false,rfl,⟨(fun k=>by cases k),fun k=>?_⟩⟩⟩
 ·obtain⟨g1,g2⟩:=he.1 ht
  have q:(s.size:Int)<=12:=bq qK;refine⟨⟨by omega,by omega⟩,by trivial,_,rfl,⟨fun hd=>hw.2 ⟨g1,g2,by omega,bq hd⟩,fun k=>decide_eq_true (hw.1 k).2.2.2⟩⟩
 ·have q:¬ (s.size:Int)<=12:=bU qK
  have:=(hw.1 k).2.2.1;omega
 have:=hw.1 k;rw [he.2 ⟨this.1,this.2.1⟩] at hf;cases hf
theorem kU {V:aa} (hV:D4 V) (x:aW) (s:ar) (f:List Nat) (h:LR rI V s x.2.2.2.1 f):ae prog V 76 [fV (x.1,x.2.1,x.2.2.1,s,x.2.2.2.2.1,())] (jb V (bJ x)):=by
 refine aM (Tp _) fun _=>?_
 simp only [CX,T.wp];obtain⟨x0,x1,x2,x3,x4,xu⟩:=x;replace h:LR rI V s x3 f:=h;have hn:=h.1;refine(mD hV x0).mono ?_
 rintro V1 r ⟨aF,rfl⟩;refine⟨nofun,_,rfl,fun h1=>?_,fun h1=>ck aF fun k=>?_⟩
 rotate_left
 ·have:=k.1
  replace this:known x0=true:=this;rw [this] at h1; cases h1
 refine(mD (hV.le aF) x1).mono ?_
 rintro V2 r ⟨bm,rfl⟩;have l2:=aF.trans bm;refine⟨nofun,_,rfl,fun h2=>⟨fun h3=>?_,fun h3=>ck l2 fun k=>?_⟩,fun h2=>ck l2 fun k=>?_⟩
 rotate_left
 ·have:(x0.toList == x1.toList)=true:=by simpa using h3
  exact k.2.2.1 (aR.1 this)
 ·have:=k.2.1
  replace this:known x1=true:=this;rw [this] at h2; cases h2
 have bR:x0≠x1:=fun e=>by
  subst e;simp at h3
 refine(A2 V2 x2 s x4 x3 f (h.le l2)).mono ?_
 rintro V3 r ⟨rfl,e,rfl,he⟩;refine⟨nofun,e,rfl,fun h4=>?_,fun h4=>ck l2 fun k=>?_⟩
 rotate_left
 ·rw [he.2 k.2.2.2.1] at h4; cases h4
 have hd:=he.1 h4;refine(A1 V3 x2 s x3 f (h.le l2) hd.1).mono ?_
 rintro V4 r ⟨rfl,rfl⟩;refine⟨nofun,_,rfl,fun h5=>⟨l2,_,rfl,?_⟩,fun h5=>ck l2 fun k=>?_⟩
 ·have hp:=yA.1 (bq h5:pd (bQ x2 x3) > 0)
  refine⟨fun Re=>⟨h1,h2,bR,hd,hp,?_⟩,fun k=>?_⟩
  ·have:(s.n:Int)<=2:=bq Re
   show x3.length<=2
   omega
  have:=k.2.2.2.2.2;replace this:x3.length<=2:=this;exact decide_eq_true (by omega)
 have q:¬ pd (bQ x2 x3) > 0:=bU h5;exact q (yA.2 k.2.2.2.2.1)
theorem kV {V:aa} (hV:wc V) (x:aW) (s:ar) (f:List Nat) (h:LR rI V s x.2.2.2.1 f):ae prog V 102 [fV (x.1,x.2.1,x.2.2.1,s,x.2.2.2.2.1,())] (jb V (bJ x)):=by
 refine aM (TA _) fun _=>?_
 simp only [C',T.wp];obtain⟨x0,x1,x2,x3,x4,xu⟩:=x;replace h:LR rI V s x3 f:=h;have hn:=h.1;refine(j0 hV x0).mono ?_
 rintro V1 r ⟨aF,rfl⟩;refine⟨nofun,_,rfl,fun h1=>?_,fun h1=>ck aF fun k=>?_⟩
 rotate_left
 ·have:=k.1
  replace this:known x0=true:=this;rw [this] at h1; cases h1
 refine(j0 (hV.le aF) x1).mono ?_
 rintro V2 r ⟨bm,rfl⟩;have l2:=aF.trans bm;refine⟨nofun,_,rfl,fun h2=>⟨fun h3=>?_,fun h3=>ck l2 fun k=>?_⟩,fun h2=>ck l2 fun k=>?_⟩
 rotate_left
 ·have:(x0.toList == x1.toList)=true:=by simpa using h3
  exact k.2.2.1 (aR.1 this)
 ·have:=k.2.1
  replace this:known x1=true:=this;rw [this] at h2; cases h2
 have bR:x0≠x1:=fun e=>by
  subst e;simp at h3
 refine(J' V2 x2 s x4 x3 f (h.le l2)).mono ?_
 rintro V3 r ⟨rfl,e,rfl,he⟩;refine⟨nofun,e,rfl,fun h4=>?_,fun h4=>ck l2 fun k=>?_⟩
 rotate_left
 ·rw [he.2 k.2.2.2.1] at h4; cases h4
 have hd:=he.1 h4;refine(rV V3 x2 s x3 f (h.le l2) hd.1.1.1).mono ?_
 rintro V4 r ⟨rfl,rfl⟩;refine⟨nofun,_,rfl,fun h5=>⟨l2,_,rfl,?_⟩,fun h5=>ck l2 fun k=>?_⟩
 ·have hp:=yA.1 (bq h5:pd (bQ x2 x3) > 0)
  refine⟨fun Re=>⟨h1,h2,bR,hd,hp,?_⟩,fun k=>?_⟩
  ·have:(s.n:Int)<=2:=bq Re
   show x3.length<=2
   omega
  have:=k.2.2.2.2.2;replace this:x3.length<=2:=this;exact decide_eq_true (by omega)
 have q:¬ pd (bQ x2 x3) > 0:=bU h5;exact q (yA.2 k.2.2.2.2.1)
theorem PS {V:aa} (hV:D4 V) {s:ar} {l:List aE} {f:List Nat} (h:LR aw V s l f) (gv:∀ i (h:i<l.length),l[i].1.size<=9223372036854775807) {K:aa->List Value->Prop} {i:Nat} {N:List LV->aa->Prop} {V':aa} (eO:V.le V') (hi:i<l.length)
  (kb:∀ V2,V'.le V2->¬ oC l i->K V2 [.bool false]) (mT:∀ V2,V'.le V2->oC l i->N [.v (.int .i64 (i64.wrap ((i:Int)+1)))] V2) :
  (T.el s.a s.n (i:Int) fun y2=>.ld false (y2.add (Int.toNat (i:Int)*(4:Nat))) (.g [.s,.s,.b,.l]) fun y3=>.rg <|
   .call true 72 [.string y3.fst] (.v (.o .b)) fun y4=>.br (!y4) (.ret [.bool false]) <|
   .call true 73 [ct y3.2] (.v (.o .b)) fun y5=>.br (!y5) (.ret [.bool false]) <|
   .br (decide ((i:Int) > (0:Int))) (
    .el s.a s.n (i64.wrap ((i:Int)-(1:Int))) fun y6=>.ld true ((y6.add ((i64.wrap ((i:Int)-(1:Int))).toNat*(4:Nat))).add (0:Nat)) (.o .s) fun y7 =>
    .br (!Op.bytesLess (ByteArray.toList y7) (ByteArray.toList y3.fst)) (.ret [.bool false]) <| .nx 0 [.v (.int .i64 (i64.wrap ((i:Int)+(1:Int))))]) <|
   .nx 0 [.v (.int .i64 (i64.wrap ((i:Int)+(1:Int))))]).wp prog K V' V' [N]:=by
 simp only [T.wp];have hn:=h.1;have hL:=h.le eO;obtain⟨b,o,c,fc,a1,l1,hR,_⟩:=hL.at hi;obtain⟨c3,g,rfl,yi⟩:=nD hR;have e0:(i:Int).toNat=i:=by omega
 have gM:(i:Int)<(s.n:Int):=by omega
 rw [e0];refine⟨_,a1,by omega,gM,(l[i].1,l[i].2.1,l[i].2.2.1,c3,()),l1,?_⟩
 refine(jy V' l[i].1 (gv i hi)).mono ?_
 rintro V1 r ⟨rfl,e1,rfl,gB⟩;refine⟨fun _=>aa.le.refl _,e1,rfl,fun hf=>kb _ (aa.le.refl _) fun k=>?_,fun ht=>?_⟩
 ·obtain⟨_,k1,_⟩:=k
  rw [gB.2 k1] at hf; cases hf
 have w1:=gB.1 (by simpa using ht);refine(PM (hV.le eO) l[i].2.1 l[i].2.2.1 c3 l[i].2.2.2.1 g yi).mono ?_
 rintro V2 r ⟨bm,e2,rfl,fq⟩;refine⟨fun _=>bm,e2,rfl,fun hf=>kb _ bm fun k=>?_,fun we=>⟨fun df=>?_,fun hz=>?_⟩⟩
 ·obtain⟨_,_,k1,_⟩:=k
  rw [fq.2 k1] at hf; cases hf
 ·have w2:=fq.1 (by simpa using we)
  have hp:0<i:=by
   have:(i:Int) > 0:=bq df;omega
  have wr:i64.wrap ((i:Int)-1)=((i-1:Nat):Int):=by
   have:=h.2.2.1;rw [wrap_i64 (by omega)]; omega
  have e1':((i-1:Nat):Int).toNat=i-1:=by omega
  obtain⟨b2,o2,c2,f2,a2,l2,Mh,_⟩:=hL.part (show i-1<l.length by omega);obtain⟨c32,g2,rfl,_⟩:=nD Mh;rw [wr,e1'];refine⟨_,a2,by omega,by omega,l[i-1].1,l2 0 1 _ rfl,fun hf=>kb _ bm fun k=>?_,fun B0=>⟨_,rfl,mT _ bm ⟨hi,w1,w2,fun _=>by simpa [fh] using B0⟩⟩⟩
  obtain⟨_,_,_,k1⟩:=k;have:=k1 hp;unfold fh at this;rw [this] at hf; cases hf
 have w2:=fq.1 (by simpa using we);have hp:¬ 0<i:=by
  have:¬ (i:Int) > 0:=bU hz;omega
 exact⟨_,rfl,mT _ bm ⟨hi,w1,w2,fun h=>absurd h hp⟩⟩
theorem PT {V:aa} (hV:wc V) {s:ar} {l:List aE} {f:List Nat} (h:LR aw V s l f) (gv:∀ i (h:i<l.length),l[i].1.size<=9223372036854775807) {K:aa->List Value->Prop} {i:Nat} {N:List LV->aa->Prop} {V':aa} (eO:V.le V') (hi:i<l.length)
  (kb:∀ V2,V'.le V2->¬ oC l i->K V2 [.bool false]) (mT:∀ V2,V'.le V2->oC l i->N [.v (.int .i64 (i64.wrap ((i:Int)+1)))] V2) :
  (T.el s.a s.n (i:Int) fun y2=>.ld false (y2.add (Int.toNat (i:Int)*(4:Nat))) (.g [.s,.s,.b,.l]) fun y3=>.rg <|
   .call true 98 [.string y3.fst] (.v (.o .b)) fun y4=>.br (!y4) (.ret [.bool false]) <|
   .call true 99 [ct y3.2] (.v (.o .b)) fun y5=>.br (!y5) (.ret [.bool false]) <|
   .br (decide ((i:Int) > (0:Int))) (
    .el s.a s.n (i64.wrap ((i:Int)-(1:Int))) fun y6=>.ld true ((y6.add ((i64.wrap ((i:Int)-(1:Int))).toNat*(4:Nat))).add (0:Nat)) (.o .s) fun y7 =>
    .br (!Op.bytesLess (ByteArray.toList y7) (ByteArray.toList y3.fst)) (.ret [.bool false]) <| .nx 0 [.v (.int .i64 (i64.wrap ((i:Int)+(1:Int))))]) <|
   .nx 0 [.v (.int .i64 (i64.wrap ((i:Int)+(1:Int))))]).wp prog K V' V' [N]:=by
 simp only [T.wp];have hn:=h.1;have hL:=h.le eO;obtain⟨b,o,c,fc,a1,l1,hR,_⟩:=hL.at hi;obtain⟨c3,g,rfl,yi⟩:=nD hR;have e0:(i:Int).toNat=i:=by omega
 have gM:(i:Int)<(s.n:Int):=by omega
 rw [e0];refine⟨_,a1,by omega,gM,(l[i].1,l[i].2.1,l[i].2.2.1,c3,()),l1,?_⟩
 refine(qw V' l[i].1 (gv i hi)).mono ?_
 rintro V1 r ⟨rfl,e1,rfl,gB⟩;refine⟨fun _=>aa.le.refl _,e1,rfl,fun hf=>kb _ (aa.le.refl _) fun k=>?_,fun ht=>?_⟩
 ·obtain⟨_,k1,_⟩:=k
  rw [gB.2 k1] at hf; cases hf
 have w1:=gB.1 (by simpa using ht);refine(PN (hV.le eO) l[i].2.1 l[i].2.2.1 c3 l[i].2.2.2.1 g yi).mono ?_
 rintro V2 r ⟨bm,e2,rfl,fq⟩;refine⟨fun _=>bm,e2,rfl,fun hf=>kb _ bm fun k=>?_,fun we=>⟨fun df=>?_,fun hz=>?_⟩⟩
 ·obtain⟨_,_,k1,_⟩:=k
  rw [fq.2 k1] at hf; cases hf
 ·have w2:=fq.1 (by simpa using we)
  have hp:0<i:=by
   have:(i:Int) > 0:=bq df;omega
  have wr:i64.wrap ((i:Int)-1)=((i-1:Nat):Int):=by
   have:=h.2.2.1;rw [wrap_i64 (by omega)]; omega
  have e1':((i-1:Nat):Int).toNat=i-1:=by omega
  obtain⟨b2,o2,c2,f2,a2,l2,Mh,_⟩:=hL.part (show i-1<l.length by omega);obtain⟨c32,g2,rfl,_⟩:=nD Mh;rw [wr,e1'];refine⟨_,a2,by omega,by omega,l[i-1].1,l2 0 1 _ rfl,fun hf=>kb _ bm fun k=>?_,fun B0=>⟨_,rfl,mT _ bm ⟨hi,w1,w2,fun _=>by simpa [fh] using B0⟩⟩⟩
  obtain⟨_,_,_,k1⟩:=k;have:=k1 hp;unfold fh at this;rw [this] at hf; cases hf
 have w2:=fq.1 (by simpa using we);have hp:¬ 0<i:=by
  have:¬ (i:Int) > 0:=bU hz;omega
 exact⟨_,rfl,mT _ bm ⟨hi,w1,w2,fun h=>absurd h hp⟩⟩
theorem D6 {V:aa} {s:ar} {l:List aE} {f:List Nat} (h:LR aw V s l f) (i:Nat) (hi:i<l.length):l[i].1.size<=9223372036854775807:=by
 obtain⟨b,o,c,fc,a1,l1,hR,_⟩:=h.at hi;exact hR.1.2
theorem qx {V:aa} (hV:D4 V) (s:ar) (l:List aE) (f:List Nat) (h:LR aw V s l f):ae prog V 38 [dJ (s,())] (jb V (cq l)):=by
 refine aM (Tc _) fun _=>?_
 have hn:=h.1;have jT:=h.2.2.1;unfold CQ;refine yz (n:=s.n) (V:=V) (p:=oC l) (Ns:=[]) jT ?_ ?_ ?_
 ·intro V' i N eO hi bC kb mT
  exact PS hV h (D6 h) eO (by omega) kb mT
 ·intro V' eO bC N
  refine⟨eO,_,rfl,?_⟩
  exact⟨fun hd=>⟨by have:(s.n:Int)<=12:=bq hd; omega,fun i hi=>bC i (by omega)⟩,fun k=>decide_eq_true (by have:=k.1; show(s.n:Int)<=12; omega)⟩
 intro V' i eO hi bR;exact ck eO fun k=>bR (k.2 i (by omega))
theorem qy {V:aa} (hV:wc V) (s:ar) (l:List aE) (f:List Nat) (h:LR aw V s l f):ae prog V 49 [dJ (s,())] (jb V (cq l)):=by
 refine aM (Ti _) fun _=>?_
 have hn:=h.1;have jT:=h.2.2.1;unfold CS
 change (decide ((s.n:Int) > 12)=true->T.wp _ _ _ _ _ _)/\(decide ((s.n:Int) > 12)=false->T.wp _ _ _ _ _ _)
 refine⟨fun qK=>ck (aa.le.refl _) fun k=>?_,fun qK=>?_⟩
 ·have:(s.n:Int) > 12:=bq qK
  have:=k.1;omega
 have q:¬ (s.n:Int) > 12:=bU qK;refine yz (n:=s.n) (V:=V) (p:=oC l) (Ns:=[]) jT ?_ ?_ ?_
 ·intro V' i N eO hi bC kb mT
  exact PT hV h (D6 h) eO (by omega) kb mT
 ·intro V' eO bC N
  refine⟨eO,_,rfl,?_⟩
  exact⟨fun _=>⟨by omega,fun i hi=>bC i (by omega)⟩,fun _=>rfl⟩
 intro V' i eO hi bR;exact ck eO fun k=>bR (k.2 i (by omega))
theorem PU {V:aa} (hV:D4 V) {s:ar} {l:List iY} {f:List Nat} (h:LR aS V s l f) {K:aa->List Value->Prop} {i:Nat} {N:List LV->aa->Prop} {V':aa} (eO:V.le V') (hi:i<l.length)
  (kb:∀ V2,V'.le V2->¬ oD l i->K V2 [.bool false]) (mT:∀ V2,V'.le V2->oD l i->N [.v (.int .i64 (i64.wrap ((i:Int)+1)))] V2) :
  (T.el s.a s.n (i:Int) fun y2=>.ld false (y2.add (Int.toNat (i:Int)*(4:Nat))) (.g [.s,.b,.l,.l]) fun y3=>.rg <|
   .call true 37 [.string y3.fst] (.v (.o .b)) fun y4=>.br (!y4) (.ret [.bool false]) <|
   .call true 74 [lS y3.2] (.v (.o .b)) fun y5=>.br (!y5) (.ret [.bool false]) <|
   .call true 75 [lS y3.2] (.v (.o (.i .i64))) fun(y6:Int)=>.br (y6 == (0:Int)) (.ret [.bool false]) <|
   .br (decide ((i:Int) > (0:Int))) (
    .el s.a s.n (i64.wrap ((i:Int)-(1:Int))) fun y6=>.ld true ((y6.add ((i64.wrap ((i:Int)-(1:Int))).toNat*(4:Nat))).add (0:Nat)) (.o .s) fun y7 =>
    .br (!Op.bytesLess (ByteArray.toList y7) (ByteArray.toList y3.fst)) (.ret [.bool false]) <| .nx 0 [.v (.int .i64 (i64.wrap ((i:Int)+(1:Int))))]) <|
   .nx 0 [.v (.int .i64 (i64.wrap ((i:Int)+(1:Int))))]).wp prog K V' V' [N]:=by
 simp only [T.wp];have hn:=h.1;have hL:=h.le eO;obtain⟨b,o,c,fc,a1,l1,hR,_⟩:=hL.at hi;obtain⟨c2,c3,g,g',rfl,wZ,yi⟩:=qv hR;have e0:(i:Int).toNat=i:=by omega
 have gM:(i:Int)<(s.n:Int):=by omega
 rw [e0];refine⟨_,a1,by omega,gM,(l[i].1,l[i].2.1,c2,c3,()),l1,?_⟩
 refine(mD (hV.le eO) l[i].1).mono ?_
 rintro V1 r ⟨aF,rfl⟩;refine⟨fun _=>aF,_,rfl,fun hf=>kb _ aF fun k=>?_,fun ht=>?_⟩
 ·obtain⟨_,k1,_⟩:=k
  rw [k1] at hf; cases hf
 have w1:known l[i].1=true:=by simpa using ht
 refine(A0 V1 l[i].2.1 c2 c3 l[i].2.2.1 l[i].2.2.2.1 g g' (wZ.le aF) (yi.le aF)).mono ?_
 rintro V2 r ⟨bm,e2,rfl,fq⟩;have l2:=aF.trans bm;refine⟨fun _=>bm,e2,rfl,fun hf=>kb _ l2 fun k=>?_,fun we=>?_⟩
 ·obtain⟨_,_,k1,_⟩:=k
  rw [fq.2 k1] at hf; cases hf
 have w2:=fq.1 (by simpa using we);refine(PQ V2 l[i].2.1 c2 c3 l[i].2.2.1 l[i].2.2.2.1 g g' (wZ.le l2) (yi.le l2) w2).mono ?_
 rintro V3 r ⟨bS,rfl⟩;have l3:=l2.trans bS;refine⟨fun _=>bS,_,rfl,fun hf=>kb _ l3 fun k=>?_,fun B0=>⟨fun df=>?_,fun hz=>?_⟩⟩
 ·obtain⟨_,_,_,k1,_⟩:=k
  exact k1 (by simpa using hf)
 ·have w3:pd (bQ l[i].2.1 l[i].2.2.1)≠0:=by simpa using B0
  have hp:0<i:=by
   have:(i:Int) > 0:=bq df;omega
  have wr:i64.wrap ((i:Int)-1)=((i-1:Nat):Int):=by
   have:=h.2.2.1;rw [wrap_i64 (by omega)]; omega
  have e1':((i-1:Nat):Int).toNat=i-1:=by omega
  obtain⟨b2,o2,c2',f2,a2,l2',Mh,_⟩:=hL.part (show i-1<l.length by omega);obtain⟨_,_,_,_,rfl,_⟩:=qv Mh;rw [wr,e1'];refine⟨_,a2,by omega,by omega,l[i-1].1,l2' 0 1 _ rfl,fun hf=>kb _ l3 fun k=>?_,fun B0=>⟨_,rfl,mT _ l3 ⟨hi,w1,w2,w3,fun _=>by simpa [fh] using B0⟩⟩⟩
  obtain⟨_,_,_,_,k1⟩:=k;have:=k1 hp;unfold fh at this;rw [this] at hf; cases hf
 have w3:pd (bQ l[i].2.1 l[i].2.2.1)≠0:=by simpa using B0
 have hp:¬ 0<i:=by
  have:¬ (i:Int) > 0:=bU hz;omega
 exact⟨_,rfl,mT _ l3 ⟨hi,w1,w2,w3,fun h=>absurd h hp⟩⟩
theorem PV {V:aa} (hV:D4 V) (s:ar) (l:List iY) (f:List Nat) (h:LR aS V s l f):ae prog V 39 [qL s] (jb V (lH l)):=by
 refine aM (Nl _) fun _=>?_
 have hn:=h.1;have jT:=h.2.2.1;unfold zG;refine yz (n:=s.n) (V:=V) (p:=oD l) (Ns:=[]) jT ?_ ?_ ?_
 ·intro V' i N eO hi bC kb mT
  exact PU hV h eO (by omega) kb mT
 ·intro V' eO bC N
  exact⟨eO,_,rfl,⟨fun _ i hi=>bC i (by omega),fun _=>rfl⟩⟩
 intro V' i eO hi bR;exact ck eO fun k=>bR (k i (by omega))
theorem PW {V:aa} (hV:wc V) {s:ar} {l:List iY} {f:List Nat} (h:LR aS V s l f) {K:aa->List Value->Prop} {i:Nat} {N:List LV->aa->Prop} {V':aa} (eO:V.le V') (hi:i<l.length)
  (kb:∀ V2,V'.le V2->¬ oD l i->K V2 [.bool false]) (mT:∀ V2,V'.le V2->oD l i->N [.v (.int .i64 (i64.wrap ((i:Int)+1)))] V2) :
  (T.el s.a s.n (i:Int) fun y2=>.ld false (y2.add (Int.toNat (i:Int)*(4:Nat))) (.g [.s,.b,.l,.l]) fun y3=>.rg <|
   .call true 52 [.string y3.fst] (.v (.o .b)) fun y4=>.br (!y4) (.ret [.bool false]) <|
   .call true 100 [lS y3.2] (.v (.o .b)) fun y5=>.br (!y5) (.ret [.bool false]) <|
   .call true 101 [lS y3.2] (.v (.o (.i .i64))) fun(y6:Int)=>.br (y6 == (0:Int)) (.ret [.bool false]) <|
   .br (decide ((i:Int) > (0:Int))) (
    .el s.a s.n (i64.wrap ((i:Int)-(1:Int))) fun y6=>.ld true ((y6.add ((i64.wrap ((i:Int)-(1:Int))).toNat*(4:Nat))).add (0:Nat)) (.o .s) fun y7 =>
    .br (!Op.bytesLess (ByteArray.toList y7) (ByteArray.toList y3.fst)) (.ret [.bool false]) <| .nx 0 [.v (.int .i64 (i64.wrap ((i:Int)+(1:Int))))]) <|
   .nx 0 [.v (.int .i64 (i64.wrap ((i:Int)+(1:Int))))]).wp prog K V' V' [N]:=by
 simp only [T.wp];have hn:=h.1;have hL:=h.le eO;obtain⟨b,o,c,fc,a1,l1,hR,_⟩:=hL.at hi;obtain⟨c2,c3,g,g',rfl,wZ,yi⟩:=qv hR;have e0:(i:Int).toNat=i:=by omega
 have gM:(i:Int)<(s.n:Int):=by omega
 rw [e0];refine⟨_,a1,by omega,gM,(l[i].1,l[i].2.1,c2,c3,()),l1,?_⟩
 refine(j0 (hV.le eO) l[i].1).mono ?_
 rintro V1 r ⟨aF,rfl⟩;refine⟨fun _=>aF,_,rfl,fun hf=>kb _ aF fun k=>?_,fun ht=>?_⟩
 ·obtain⟨_,k1,_⟩:=k
  rw [k1] at hf; cases hf
 have w1:known l[i].1=true:=by simpa using ht
 refine(J9 V1 l[i].2.1 c2 c3 l[i].2.2.1 l[i].2.2.2.1 g g' (wZ.le aF) (yi.le aF)).mono ?_
 rintro V2 r ⟨bm,e2,rfl,fq⟩;have l2:=aF.trans bm;refine⟨fun _=>bm,e2,rfl,fun hf=>kb _ l2 fun k=>?_,fun we=>?_⟩
 ·obtain⟨_,_,k1,_⟩:=k
  rw [fq.2 k1] at hf; cases hf
 have w2:=fq.1 (by simpa using we);refine(PO V2 l[i].2.1 c2 c3 l[i].2.2.1 l[i].2.2.2.1 g g' (wZ.le l2) (yi.le l2) w2).mono ?_
 rintro V3 r ⟨bS,rfl⟩;have l3:=l2.trans bS;refine⟨fun _=>bS,_,rfl,fun hf=>kb _ l3 fun k=>?_,fun B0=>⟨fun df=>?_,fun hz=>?_⟩⟩
 ·obtain⟨_,_,_,k1,_⟩:=k
  exact k1 (by simpa using hf)
 ·have w3:pd (bQ l[i].2.1 l[i].2.2.1)≠0:=by simpa using B0
  have hp:0<i:=by
   have:(i:Int) > 0:=bq df;omega
  have wr:i64.wrap ((i:Int)-1)=((i-1:Nat):Int):=by
   have:=h.2.2.1;rw [wrap_i64 (by omega)]; omega
  have e1':((i-1:Nat):Int).toNat=i-1:=by omega
  obtain⟨b2,o2,c2',f2,a2,l2',Mh,_⟩:=hL.part (show i-1<l.length by omega);obtain⟨_,_,_,_,rfl,_⟩:=qv Mh;rw [wr,e1'];refine⟨_,a2,by omega,by omega,l[i-1].1,l2' 0 1 _ rfl,fun hf=>kb _ l3 fun k=>?_,fun B0=>⟨_,rfl,mT _ l3 ⟨hi,w1,w2,w3,fun _=>by simpa [fh] using B0⟩⟩⟩
  obtain⟨_,_,_,_,k1⟩:=k;have:=k1 hp;unfold fh at this;rw [this] at hf; cases hf
 have w3:pd (bQ l[i].2.1 l[i].2.2.1)≠0:=by simpa using B0
 have hp:¬ 0<i:=by
  have:¬ (i:Int) > 0:=bU hz;omega
 exact⟨_,rfl,mT _ l3 ⟨hi,w1,w2,w3,fun h=>absurd h hp⟩⟩
theorem PX {V:aa} (hV:wc V) (s:ar) (l:List iY) (f:List Nat) (h:LR aS V s l f):ae prog V 50 [qL s] (jb V (lH l)):=by
 refine aM (NG _) fun _=>?_
 have hn:=h.1;have jT:=h.2.2.1;unfold zM;refine yz (n:=s.n) (V:=V) (p:=oD l) (Ns:=[]) jT ?_ ?_ ?_
 ·intro V' i N eO hi bC kb mT
  exact PW hV h eO (by omega) kb mT
 ·intro V' eO bC N
  exact⟨eO,_,rfl,⟨fun _ i hi=>bC i (by omega),fun _=>rfl⟩⟩
 intro V' i eO hi bR;exact ck eO fun k=>bR (k i (by omega))
theorem qz {r:aW} {a b:ByteArray}:dn r=(a,b)↔r.1=a/\r.2.1=b:=by
 unfold dn;rw [Prod.mk.injEq]
theorem D7 (V:aa) (s:ar) (l:List aW) (f:List Nat) (h:LR az V s l f) (a b:ByteArray):ae prog V 77 [qL s,.string a,.string b]
  (fun V' r=>V'=V/\∃ k:Int,r=.int .i64 k/\((∃ (i:Nat) (hi:i<l.length),k=(i:Int)/\dn l[i]=(a,b)/\∀ (j:Nat) (hj:j<l.length),j<i->dn l[j]≠(a,b))\/(k=-1/\∀ (j:Nat) (hj:j<l.length),dn l[j]≠(a,b)))):=by
 refine aM (X4 _ _ _) fun _=>?_
 have hn:=h.1;have jT:=h.2.2.1;simp only [IC,T.wp];refine⟨fun y V'=>V'=V/\∃ i:Nat,y.1=(i:Int)/\i<=l.length/\∀ (j:Nat) (hj:j<l.length),j<i->dn l[j]≠(a,b),fun y=>((l.length:Int)-(y.1:Int)).toNat,⟨((0:Int),()),rfl,rfl,0,rfl,by omega,fun j _ h=>by omega⟩,?_⟩
 rintro⟨(i:Int),u⟩ V' ⟨rfl,k,hk,Ze,bC⟩;replace hk:i=(k:Int):=hk;subst hk;refine⟨fun aN=>?_,fun cg=>?_⟩
 ·have lV:k<l.length:=by
   have:(k:Int)<(s.n:Int):=bq aN;omega
  obtain⟨b1,o1,c1,fc,a1,l1,hR,_⟩:=h.at lV;obtain⟨c3,g,rfl,_⟩:=iq hR;have e0:(k:Int).toNat=k:=by omega
  dsimp only;rw [e0];have next:dn l[k]≠(a,b)->∃ y':cH [.o (.o (.i .i64))],[LV.v (.int .i64 (i64.wrap ((k:Int)+1)))]=cH.nf _ y'/\(V'=V'/\∃ i:Nat,y'.1=(i:Int)/\i<=l.length/\∀ (j:Nat) (hj:j<l.length),j<i->dn l[j]≠(a,b))/\((l.length:Int)-(y'.1:Int)).toNat<((l.length:Int)-(k:Int)).toNat:=by
   intro hp;refine⟨(((k+1:Nat):Int),()),by rw [kD lV (by omega)]; rfl,⟨rfl,k+1,rfl,lV,fun j hj h2=>?_⟩,?_⟩
   ·by_cases e:j=k
    ·subst e; exact hp
    exact bC j hj (by omega)
   show((l.length:Int)-((k+1:Nat):Int)).toNat<((l.length:Int)-(k:Int)).toNat
   omega
  refine⟨_,a1,by omega,by omega,(l[k].1,l[k].2.1,l[k].2.2.1,c3,l[k].2.2.2.2.1,()),l1,fun h1=>⟨fun h2=>?_,fun h2=>⟨_,rfl,next fun e=>?_⟩⟩,fun h1=>⟨_,rfl,next fun e=>?_⟩⟩
  ·have hkey:dn l[k]=(a,b):=qz.2 ⟨aR.1 h1,aR.1 h2⟩
   exact⟨rfl,(k:Int),rfl,.inl ⟨k,lV,rfl,hkey,bC⟩⟩
  ·have:=aR.2 (qz.1 e).2
   rw [this] at h2; cases h2
  have:=aR.2 (qz.1 e).1;rw [this] at h1; cases h1
 have lV:k=l.length:=by
  have:¬ (k:Int)<(s.n:Int):=bU cg;omega
 subst lV;exact⟨rfl,-1,rfl,.inr ⟨rfl,fun j hj=>bC j hj hj⟩⟩
theorem Zf (V:aa) (s:ar) (l:List aW) (f:List Nat) (h:LR az V s l f) (a b:ByteArray):ae prog V 77 [qL s,.string a,.string b]
  (fun V' r=>V'=V/\∃ k:Int,r=.int .i64 k/\∀ i (hi:i<l.length),dn l[i]=(a,b)->(k=(i:Int)↔∀ (j:Nat) (hj:j<l.length),j<i->dn l[j]≠(a,b))):=by
 refine(D7 V s l f h a b).mono ?_
 rintro V' r ⟨rfl,k,rfl,hk⟩;refine⟨rfl,k,rfl,fun i hi Mt=>?_⟩
 rcases hk with ⟨i0,h0,rfl,ix,hf⟩ | ⟨rfl,hn⟩
 ·constructor
  ·intro e j hj WM
   exact hf j hj (by omega)
  intro kb
  by_cases c1:i0<i
  ·exact absurd ix (kb i0 h0 c1)
  by_cases c2:i<i0
  ·exact absurd Mt (hf i hi c2)
  omega
 exact absurd Mt (hn i hi)
theorem oF {V:aa} (p:ByteArray) (s:ar) (l:List aW) (f:List Nat) (h:LR az V s l f):ae prog V 40 [iK (p,s,())] (jb V (fb p l)):=by
 refine aM (Np _) fun _=>?_
 have hn:=h.1;have jT:=h.2.2.1;simp only [zH,T.wp];refine(mA V p).mono ?_
 rintro V1 r ⟨aF,rfl⟩;refine⟨nofun,_,rfl,fun hf=>ck aF fun k=>?_,fun ht=>⟨fun qK=>ck aF fun k=>?_,fun qK=>?_⟩⟩
 ·rw [k.1] at hf; cases hf
 ·have:(s.n:Int) > 12:=bq qK
  have:=k.2.1;omega
 have q1:known p=true:=by simpa using ht
 have q2:¬ (s.n:Int) > 12:=bU qK;refine⟨fun y V'=>V.le V'/\∃ i:Nat,y.1=(i:Int)/\i<=l.length/\∀ j,j<i->F4 l j,fun y=>((l.length:Int)-(y.1:Int)).toNat,⟨((0:Int),()),rfl,aF,0,rfl,by omega,fun j h=>by omega⟩,?_⟩
 rintro⟨(i:Int),u⟩ V' ⟨hle,k,hk,Ze,bC⟩;replace hk:i=(k:Int):=hk;subst hk;refine⟨fun aN=>?_,fun cg=>?_⟩
 ·have lV:k<l.length:=by
   have:(k:Int)<(s.n:Int):=bq aN;omega
  obtain⟨b1,o1,c1,fc,a1,l1,hR,_⟩:=(h.le hle).at lV;obtain⟨c3,g,rfl,yi⟩:=iq hR;have e0:(k:Int).toNat=k:=by omega
  dsimp only;rw [e0];refine⟨_,a1,by omega,by omega,(l[k].1,l[k].2.1,l[k].2.2.1,c3,l[k].2.2.2.2.1,()),l1,?_⟩
  refine(kU (V:=V') trivial l[k] c3 g yi).mono ?_
  rintro V2 r ⟨bm,e2,rfl,fq⟩;have l2:=hle.trans bm;refine⟨nofun,e2,rfl,fun hf=>ck l2 fun kk=>?_,fun we=>?_⟩
  ·obtain⟨_,k1,_⟩:=kk.2.2 k lV
   rw [fq.2 k1] at hf; cases hf
  have w2:=fq.1 (by simpa using we);refine(Zf V2 s l f (h.le l2) l[k].1 l[k].2.1).mono ?_
  rintro V3 r ⟨rfl,x,rfl,hx⟩;have hx:=hx k lV rfl;refine⟨nofun,x,rfl,fun hf=>ck l2 fun kk=>?_,fun B0=>?_⟩
  ·obtain⟨_,_,k2⟩:=kk.2.2 k lV
   have:x=(k:Int):=hx.2 k2;simp [this] at hf
  have e:x=(k:Int):=by simpa using B0
  refine⟨_,rfl,(((k+1:Nat):Int),()),by rw [kD lV (by omega)]; rfl,⟨l2,k+1,rfl,lV,fun j hj=>?_⟩,?_⟩
  ·by_cases ej:j=k
   ·subst ej; exact⟨lV,w2,hx.1 e⟩
   exact bC j (by omega)
  show((l.length:Int)-((k+1:Nat):Int)).toNat<((l.length:Int)-(k:Int)).toNat
  omega
 have lV:k=l.length:=by
  have:¬ (k:Int)<(s.n:Int):=bU cg;omega
 subst lV;exact⟨hle,true,rfl,⟨fun _=>⟨q1,by omega,bC⟩,fun _=>rfl⟩⟩
theorem Zg:wb prog 151 9 :=
 ⟨by kernel_rfl,by kernel_rfl,by kernel_rfl,⟨bq (by kernel_rfl),bq (by kernel_rfl)⟩,⟨by kernel_rfl,by kernel_rfl⟩,⟨by kernel_rfl,by kernel_rfl⟩,by kernel_rfl⟩
theorem Va (w:World):(zeroValue 4).run prog w=.ok (.bool false) w:=aZ (by kernel_rfl) w
theorem Kb {l:List aW} {i:Nat} (hi:i<l.length):dn l[i] ∉ (l.take i).map dn↔∀ (j:Nat) (hj:j<l.length),j<i->dn l[j]≠dn l[i]:=by
 constructor
 ·intro h j hj WM e
  refine h (List.mem_map.2 ⟨l[j],?_,e⟩)
  exact List.mem_take_iff_getElem.2 ⟨j,by omega,rfl⟩
 intro h hm;obtain⟨r,hr,e⟩:=List.mem_map.1 hm;obtain⟨j,hj,rfl⟩:=List.mem_take_iff_getElem.1 hr;exact h j (by omega) (by omega) e
theorem rX {V:aa} (hV:wc V) (p:ByteArray) (s:ar) (l:List aW) (f:List Nat) (h:LR az V s l f):ae prog V 51 [iK (p,s,())] (jb V (fb p l)):=by
 refine aM (NI _) fun _=>?_
 have hn:=h.1;have jT:=h.2.2.1;simp only [zN,T.wp];refine(j0 hV p).mono ?_
 rintro V1 r ⟨aF,rfl⟩;refine⟨nofun,_,rfl,fun hf=>ck aF fun k=>?_,fun ht=>⟨fun qK=>ck aF fun k=>?_,fun qK=>?_⟩⟩
 ·rw [k.1] at hf; cases hf
 ·have:(s.n:Int) > 12:=bq qK
  have:=k.2.1;omega
 have q1:known p=true:=by simpa using ht
 have q2:¬ (s.n:Int) > 12:=bU qK;refine semx_mk.mono ?_
 rintro V2 r ⟨m,hm,rfl,rfl⟩;have hm0:V m=none:=none_le aF hm;refine⟨⟨.map (some m),rfl⟩,rfl,?_⟩
 refine⟨fun y V'=>V.le V'/\∃ i:Nat,y.1=(i:Int)/\i<=l.length/\V' m=some (B1 (eE 0 ((l.take i).map dn)),(((l.take i).map dn).length,(1,0)))/\∀ j,j<i->F4 l j,fun y=>((l.length:Int)-(y.1:Int)).toNat,
  ⟨((0:Int),()),rfl,aF.trans (aG hm),0,rfl,by omega,av,fun j h=>by omega⟩,?_⟩
 rintro⟨(i:Int),u⟩ V' ⟨hle,k,hk,Ze,Mq,bC⟩;replace hk:i=(k:Int):=hk;subst hk;refine⟨fun aN=>?_,fun cg=>?_⟩
 ·have lV:k<l.length:=by
   have:(k:Int)<(s.n:Int):=bq aN;omega
  obtain⟨b1,o1,c1,fc,a1,l1,hR,_⟩:=(h.le hle).at lV;obtain⟨c3,g,rfl,yi⟩:=iq hR;have e0:(k:Int).toNat=k:=by omega
  dsimp only;rw [e0];refine⟨_,a1,by omega,by omega,(l[k].1,l[k].2.1,l[k].2.2.1,c3,l[k].2.2.2.2.1,()),l1,?_⟩
  refine(kV (V:=V') (hV.le hle) l[k] c3 g yi).mono ?_
  rintro V3 r ⟨bm,e2,rfl,fq⟩;have l2:=hle.trans bm;refine⟨nofun,e2,rfl,fun hf=>ck l2 fun kk=>?_,fun we=>?_⟩
  ·obtain⟨_,k1,_⟩:=kk.2.2 k lV
   rw [fq.2 k1] at hf; cases hf
  have w2:=fq.1 (by simpa using we);have hmap3:=bm _ _ Mq;refine(J7 (E:=4) (show prog.underlying 149=some (.map 151 4) by kernel_rfl) Va Zg hmap3 (dn l[k])).mono ?_
  rintro V4 r ⟨rfl,e3,rfl,vw⟩;refine⟨e3,rfl,fun hf=>ck l2 fun kk=>?_,fun B0=>?_⟩
  ·obtain⟨_,_,k2⟩:=kk.2.2 k lV
   exact(Kb lV).2 k2 (vw.1 hf)
  have hnk:dn l[k] ∉ (l.take k).map dn:=fun hm=>by rw [vw.2 hm] at B0; cases B0
  refine(J8 (E:=4) (show prog.underlying 149=some (.map 151 4) by kernel_rfl) Zg hmap3 (dn l[k]) hnk).mono ?_
  rintro V5 r ⟨rfl,rfl⟩;refine⟨(),rfl,_,rfl,(((k+1:Nat):Int),()),by rw [kD lV (by omega)]; rfl,⟨?_,k+1,rfl,lV,?_,fun j hj=>?_⟩,?_⟩
  ·intro b x hb
   rw [bh (fun e=>by rw [e,hm0] at hb; cases hb)]
   exact l2 b x hb
  ·rw [av,List.take_succ_eq_append_getElem lV,List.map_append]
   rfl
  ·by_cases ej:j=k
   ·subst ej; exact⟨lV,w2,(Kb lV).1 hnk⟩
   exact bC j (by omega)
  show((l.length:Int)-((k+1:Nat):Int)).toNat<((l.length:Int)-(k:Int)).toNat
  omega
 have lV:k=l.length:=by
  have:¬ (k:Int)<(s.n:Int):=bU cg;omega
 subst lV;exact⟨hle,true,rfl,⟨fun _=>⟨q1,by omega,bC⟩,fun _=>rfl⟩⟩
theorem iu {V:aa} (hV:D4 V) (c:aH [.l,.l,.s,.l]) (x:ao) (f:List Nat) (h:aj.R V c x f):ae prog V 15 [aU c] (jb V (a7 x)):=by
 refine aM (Im _) fun _=>?_
 obtain⟨c0,c1,c2,c3,cu⟩:=c;obtain⟨x0,x1,x2,x3,xu⟩:=x;obtain⟨f0,g0,_,h0,h⟩:=h;obtain⟨f1,g1,_,h1,h⟩:=h;obtain⟨⟨e2,_⟩,h⟩:=h;replace e2:c2=x2:=e2;subst e2;obtain⟨f3,g3,_,h3,_⟩:=h;replace h0:LR aw V c0 x0 f0:=h0;replace h1:LR aS V c1 x1 f1:=h1;replace h3:LR az V c3 x3 f3:=h3;simp only [xd,T.wp];refine(qx hV c0 x0 f0 h0).mono ?_
 rintro V1 r ⟨aF,e1,rfl,gB⟩;refine⟨nofun,e1,rfl,fun ht=>?_,fun hf=>ck aF fun k=>?_⟩
 rotate_left
 ·rw [gB.2 k.1] at hf; cases hf
 refine(PV (hV.le aF) c1 x1 f1 (h1.le aF)).mono ?_
 rintro V2 r ⟨bm,e2,rfl,fq⟩;have l2:=aF.trans bm;refine⟨nofun,e2,rfl,fun we=>?_,fun hf=>ck l2 fun k=>?_⟩
 rotate_left
 ·rw [fq.2 k.2.1] at hf; cases hf
 refine(oF (V:=V2) c2 c3 x3 f3 (h3.le l2)).mono ?_
 rintro V3 r ⟨bS,e3,rfl,vw⟩;exact⟨nofun,e3,rfl,l2.trans bS,e3,rfl,⟨fun B0=>⟨gB.1 ht,fq.1 we,vw.1 B0⟩,fun k=>vw.2 k.2.2⟩⟩
theorem pP {V:aa} (hV:wc V) (c:aH [.l,.l,.s,.l]) (x:ao) (f:List Nat) (h:aj.R V c x f):ae prog V 21 [aU c] (jb V (a7 x)):=by
 refine aM (Io _) fun _=>?_
 obtain⟨c0,c1,c2,c3,cu⟩:=c;obtain⟨x0,x1,x2,x3,xu⟩:=x;obtain⟨f0,g0,_,h0,h⟩:=h;obtain⟨f1,g1,_,h1,h⟩:=h;obtain⟨⟨e2,_⟩,h⟩:=h;replace e2:c2=x2:=e2;subst e2;obtain⟨f3,g3,_,h3,_⟩:=h;replace h0:LR aw V c0 x0 f0:=h0;replace h1:LR aS V c1 x1 f1:=h1;replace h3:LR az V c3 x3 f3:=h3;simp only [xe,T.wp];refine(qy hV c0 x0 f0 h0).mono ?_
 rintro V1 r ⟨aF,e1,rfl,gB⟩;refine⟨nofun,e1,rfl,fun ht=>?_,fun hf=>ck aF fun k=>?_⟩
 rotate_left
 ·rw [gB.2 k.1] at hf; cases hf
 refine(PX (hV.le aF) c1 x1 f1 (h1.le aF)).mono ?_
 rintro V2 r ⟨bm,e2,rfl,fq⟩;have l2:=aF.trans bm;refine⟨nofun,e2,rfl,fun we=>?_,fun hf=>ck l2 fun k=>?_⟩
 rotate_left
 ·rw [fq.2 k.2.1] at hf; cases hf
 refine(rX (hV.le l2) c2 c3 x3 f3 (h3.le l2)).mono ?_
 rintro V3 r ⟨bS,e3,rfl,vw⟩;exact⟨nofun,e3,rfl,l2.trans bS,e3,rfl,⟨fun B0=>⟨gB.1 ht,fq.1 we,vw.1 B0⟩,fun k=>vw.2 k.2.2⟩⟩
theorem D8:∀ x:List UInt8,Op.bytesLess x x=false
 | []=>rfl
 | a :: x=>by rw [Op.bytesLess,D8 x]; simp
theorem xW:∀ {x y z:List UInt8},Op.bytesLess x y=true->Op.bytesLess y z=true->Op.bytesLess x z=true
 | _,[],_,h,_=>by simp [Op.bytesLess] at h
 | _,_ :: _,[],_,h=>by simp [Op.bytesLess] at h
 | [],_ :: _,_ :: _,_,_=>rfl
 | a :: x,b :: y,c :: z,h,k=>by
  simp only [Op.bytesLess,Bool.or_eq_true,decide_eq_true_eq,Bool.and_eq_true,beq_iff_eq] at h k ⊢;rcases h with h | ⟨rfl,h⟩
  ·rcases k with k | ⟨rfl,k⟩
   ·exact .inl (UInt8.lt_trans h k)
   exact .inl h
  rcases k with k | ⟨rfl,k⟩
  ·exact .inl k
  exact .inr ⟨rfl,xW h k⟩
theorem fh.irr {a:ByteArray}:¬ fh a a:=fun h=>by
 unfold fh at h;rw [D8] at h; cases h
theorem fh.trans {a b c:ByteArray} (h:fh a b) (k:fh b c):fh a c:=xW h k
theorem qB {x:ByteArray} (h:known x=true):x∈eX.map (·.1):=by
 unfold known cK at h;cases hf:(eX.drop 0).find? (om x) with
 | none=>rw [hf] at h; cases h
 | some r =>
  have h1:=List.find?_some hf;have e:r.1=x:=aR.1 h1;rw [<- e];exact List.mem_map_of_mem (List.mem_of_find?_eq_some hf)
theorem nE {x:ByteArray} (h:known x=true):x.size<=3:=by
 have:∀ y∈eX.map (·.1),y.size<=3:=by decide +kernel
 exact this x (qB h)
theorem Kc {β:Type} [DecidableEq β]:∀ {l m:List β},l.Nodup->(∀ x∈l,x∈m)->l.length<=m.length
 | [],_,_,_=>Nat.zero_le _
 | a :: l,m,nd,h=>by
  obtain⟨n1,n2⟩:=List.nodup_cons.1 nd;have ha:=h a (by simp);have ih:=Kc (l:=l) (m:=m.erase a) n2 fun x hx=>(List.mem_erase_of_ne (fun e=>n1 (by rw [<- e]; exact hx))).2 (h x (by simp [hx]))
  have:=List.length_erase_of_mem ha;have hp:=List.length_pos_of_mem ha;simp only [List.length_cons];omega
def wh {α:Type} (key:α->ByteArray) (l:List α):Prop:=∀ (i:Nat) (h:i<l.length),0<i->fh (key (l[i-1]'(by omega))) (key l[i])
theorem wh.lt {α:Type} {key:α->ByteArray} {l:List α} (h:wh key l):∀ {i j:Nat} (hj:j<l.length) (hij:i<j),fh (key (l[i]'(by omega))) (key l[j])
 | i,j+1,hj,hij=>by
  have h1:=h (j+1) hj (by omega)
  by_cases e:i=j
  ·subst e; exact h1
  exact(wh.lt h (i:=i) (j:=j) (by omega) (by omega)).trans h1
theorem wh.nodup {α:Type} {key:α->ByteArray} {l:List α} (h:wh key l):(l.map key).Nodup:=by
 rw [List.nodup_iff_pairwise_ne];rw [List.pairwise_iff_getElem];intro i j hi hj hij e;simp only [List.getElem_map] at e;have:=h.lt (i:=i) (j:=j) (by simpa using hj) hij;rw [e] at this;exact fh.irr this
theorem F6 {l:List iY} (h:lH l):wh (·.1) l:=fun i hi h0=>by
 obtain⟨_,_,_,_,q⟩:=h i hi;exact q h0
theorem Vb {l:List iY} (h:lH l):l.length<=20:=by
 have:=Kc (F6 h).nodup (m:=eX.map (·.1)) fun x hx=>by
  obtain⟨i,hi,rfl⟩:=List.mem_iff_getElem.1 hx;obtain⟨h1,h2,_⟩:=h i (by simpa using hi);simp only [List.getElem_map];exact qB h2
 have e:(eX.map (·.1)).length=20:=rfl;simpa [e] using this
theorem oG {sh:List Sc} {α:Type} {r:Rp sh α} {n:Nat}:∀ {l:List α},(∀ i (h:i<l.length),r.cB l[i]<=n)->aC r l<=l.length*n
 | [],_=>Nat.zero_le _
 | x :: l,h=>by
  have h0:r.cB x<=n:=h 0 (by simp);have ih:=oG (r:=r) (l:=l) (n:=n) fun i hi=>by
   have:=h (i+1) (by simpa using hi);simpa using this
  rw [aC,List.length_cons,Nat.add_mul];omega
theorem Zh:∀ l:List aI,aC rI l=0
 | []=>rfl
 | _ :: l=>by rw [aC,Zh l]; rfl
theorem Vc {x:a6} (h:bp x.1 x.2.1 x.2.2.1):aY.cB x<=7:=by
 have e:aY.cB x=x.1.size+(x.2.2.1.length+aC rI x.2.2.1+0):=rfl;rw [e,Zh];have:=nE h.1;have:=h.2.2;omega
theorem rat_tot {x:DRat} (h:jx x.1 x.2.1 x.2.2.1):rW.cB x<=36:=by
 have e:rW.cB x=x.2.1.length+aC rI x.2.1+(x.2.2.1.length+aC rI x.2.2.1+0):=rfl;rw [e,Zh,Zh];have:=h.2.2.2.1;have:=h.2.2.2.2.1;omega
theorem Zi {x:aW} (h:bJ x):az.cB x<=8:=by
 have e:az.cB x=x.1.size+(x.2.1.size+(x.2.2.2.1.length+aC rI x.2.2.2.1+0)):=rfl;rw [e,Zh];have:=nE h.1;have:=nE h.2.1;have:=h.2.2.2.2.2;omega
theorem Ve {x:iZ} (h:fb x.1 x.2.1):cZ.cB x<=111:=by
 have e:cZ.cB x=x.1.size+(x.2.1.length+aC az x.2.1+0):=rfl;have b:=oG (r:=az) (n:=8) (l:=x.2.1) fun i hi=>Zi (h.2.2 i hi).2.1
 have:=nE h.1;have:=h.2.1;rw [e];omega
theorem pQ {l:List aE} (h:cq l):l.length+aC aw l<=240:=by
 have b:=oG (r:=aw) (n:=19) (l:=l) fun i hi=>by
  obtain⟨_,q1,q2,_⟩:=h.2 i hi;have e:aw.cB l[i]=l[i].1.size+aY.cB l[i].2:=rfl;have:=Vc (x:=l[i].2) q2;have:=q1.2.1;omega
 have:=h.1;omega
theorem Vg {l:List iY} (h:lH l):l.length+aC aS l<=800:=by
 have b:=oG (r:=aS) (n:=39) (l:=l) fun i hi=>by
  obtain⟨_,q1,q2,_⟩:=h i hi;have e:aS.cB l[i]=l[i].1.size+rW.cB l[i].2:=rfl;have:=rat_tot (x:=l[i].2) q2;have:=nE q1;omega
 have:=Vb h;omega
theorem PY {x:ao} (h:a7 x):aj.cB x<=4096:=by
 have e:aj.cB x=x.1.length+aC aw x.1+(x.2.1.length+aC aS x.2.1+cZ.cB x.2.2):=rfl;have:=pQ h.1;have:=Vg h.2.1;have:=Ve (x:=x.2.2) h.2.2;omega
theorem fi {V:aa} {c:aH [.l,.l,.s,.l]} {x:ao} {f:List Nat} (h:aj.R V c x f):∃ s0 s1 s3 f0 f1 f3,c=(s0,s1,x.2.2.1,s3,())/\LR aw V s0 x.1 f0/\LR aS V s1 x.2.1 f1/\LR az V s3 x.2.2.2.1 f3:=by
 obtain⟨c0,c1,c2,c3,cu⟩:=c;obtain⟨f0,g0,rfl,h0,f1,g1,rfl,h1,⟨e2,_⟩,f3,g3,rfl,h3,_⟩:=h;replace e2:c2=x.2.2.1:=e2;subst e2;exact⟨c0,c1,c3,f0,f1,f3,rfl,h0,h1,h3⟩
def A5 (x y:a6):Prop:=bp x.1 x.2.1 x.2.2.1/\bp y.1 y.2.1 y.2.2.1/\x.1=y.1
theorem PZ {V:aa} (c d:aH [.s,.b,.l]) (x y:a6) (f g:List Nat) (hx:aY.R V c x f) (hy:aY.R V d y g):ae prog V 346 [ct c,ct d] (fun V' r=>V.le V'/\∃ e,r=.bool e/\(e=true↔A5 x y)):=by
 obtain⟨c0,c1,c2,cu⟩:=c;obtain⟨d0,d1,d2,du⟩:=d;obtain⟨x0,x1,x2,xu⟩:=x;obtain⟨y0,y1,y2,yu⟩:=y;obtain⟨⟨bL,dz⟩,hx⟩:=hx;replace bL:c0=x0:=bL;subst bL;replace dz:c0.size<=9223372036854775807:=dz;obtain⟨cj,hx⟩:=hx;replace cj:c1=x1:=cj;subst cj;obtain⟨ff2,ffr2,cW,dU,hx⟩:=hx;subst cW;replace dU:LR rI _ c2 x2 ff2:=dU;replace hx:_=[]:=hx;subst hx;obtain⟨⟨gq,AX⟩,hy⟩:=hy;replace gq:d0=y0:=gq;subst gq;replace AX:d0.size<=9223372036854775807:=AX;obtain⟨ja,hy⟩:=hy;replace ja:d1=y1:=ja;subst ja;obtain⟨gg2,ggr2,ki,pO,hy⟩:=hy;subst ki;replace pO:LR rI _ d2 y2 gg2:=pO;replace hy:_=[]:=hy;subst hy;refine aM (OZ _ _) fun _=>?_
 simp only [AJ,T.wp];refine(ia c0 c1 c2 x2 _ dU).mono ?_
 rintro V1 r ⟨hle,e,rfl,he⟩;refine⟨nofun,e,rfl,fun ht=>?_,fun hf=>⟨hle,false,rfl,⟨(fun h=>by cases h),(fun k=>by rw [he.2 k.1] at hf; cases hf)⟩⟩⟩
 refine(ia d0 d1 d2 y2 _ (pO.le hle)).mono ?_
 rintro V2 r ⟨bG,e2,rfl,fq⟩;refine⟨nofun,e2,rfl,fun we=>⟨hle.trans bG,_,rfl,⟨fun hd=>⟨he.1 ht,fq.1 we,aR.1 hd⟩,fun k=>aR.2 k.2.2⟩⟩,fun hf=>⟨hle.trans bG,false,rfl,⟨(fun h=>by cases h),(fun k=>by rw [fq.2 k.2.1] at hf; cases hf)⟩⟩⟩
theorem Zj {V:aa} (hV:iS V) (c d:aH [.s,.b,.l]) (x y:a6) (f g:List Nat) (hx:aY.R V c x f) (hy:aY.R V d y g):ae prog V 453 [ct c,ct d] (fun V' r=>V.le V'/\∃ e,r=.bool e/\(e=true↔A5 x y)):=by
 obtain⟨c0,c1,c2,cu⟩:=c;obtain⟨d0,d1,d2,du⟩:=d;obtain⟨x0,x1,x2,xu⟩:=x;obtain⟨y0,y1,y2,yu⟩:=y;obtain⟨⟨bL,dz⟩,hx⟩:=hx;replace bL:c0=x0:=bL;subst bL;replace dz:c0.size<=9223372036854775807:=dz;obtain⟨cj,hx⟩:=hx;replace cj:c1=x1:=cj;subst cj;obtain⟨ff2,ffr2,cW,dU,hx⟩:=hx;subst cW;replace dU:LR rI _ c2 x2 ff2:=dU;replace hx:_=[]:=hx;subst hx;obtain⟨⟨gq,AX⟩,hy⟩:=hy;replace gq:d0=y0:=gq;subst gq;replace AX:d0.size<=9223372036854775807:=AX;obtain⟨ja,hy⟩:=hy;replace ja:d1=y1:=ja;subst ja;obtain⟨gg2,ggr2,ki,pO,hy⟩:=hy;subst ki;replace pO:LR rI _ d2 y2 gg2:=pO;replace hy:_=[]:=hy;subst hy;refine aM (YG _ _) fun _=>?_
 simp only [JF,T.wp];refine(jv hV c0 c1 c2 x2 _ dU).mono ?_
 rintro V1 r ⟨hle,e,rfl,he⟩;refine⟨nofun,e,rfl,fun ht=>?_,fun hf=>⟨hle,false,rfl,⟨(fun h=>by cases h),(fun k=>by rw [he.2 k.1] at hf; cases hf)⟩⟩⟩
 refine(jv (hV.le hle) d0 d1 d2 y2 _ (pO.le hle)).mono ?_
 rintro V2 r ⟨bG,e2,rfl,fq⟩;refine⟨nofun,e2,rfl,fun we=>⟨hle.trans bG,_,rfl,⟨fun hd=>⟨he.1 ht,fq.1 we,aR.1 hd⟩,fun k=>aR.2 k.2.2⟩⟩,fun hf=>⟨hle.trans bG,false,rfl,⟨(fun h=>by cases h),(fun k=>by rw [fq.2 k.2.1] at hf; cases hf)⟩⟩⟩
noncomputable def Zk {α:Type} [Nonempty α] (p:α->Prop):α:=Classical.epsilon p
theorem Vh {α:Type} [Nonempty α] {p:α->Prop} {x:α} (h:p x) (u:∀ y,p y->y=x):Zk p=x:=u _ (Classical.epsilon_spec (p:=p) ⟨x,h⟩)
theorem int_inj {e e':Bool} {o o':List aI} (h:eD e o) (h':eD e' o') (k:bQ e o=bQ e' o'):e=e'/\o=o':=by
 have h0:=aO h.1.1.1;have UK:=aO h'.1.1.1;have z:∀ {e:Bool} {o:List aI},eD e o->e=true->0<af o:=fun h k=>(gX h.1.1).1 (h.2 k)
 unfold bQ at k;cases e <;> cases e' <;> simp only [if_true,if_false,Bool.false_eq_true] at k
 ·exact⟨rfl,uv h.1.1 h'.1.1 (by omega)⟩
 ·have:=z h' rfl; omega
 ·have:=z h rfl; omega
 exact⟨rfl,uv h.1.1 h'.1.1 (by omega)⟩
abbrev rY:a6:=(ByteArray.empty,false,[],())
abbrev pR (x:a6):Prop:=bp x.1 x.2.1 x.2.2.1
abbrev Hr (x:a6):Int:=bQ x.2.1 x.2.2.1
def AddP (x y:a6) (r:a6 × Bool):Prop :=
 (r.2=true/\A5 x y/\pR r.1/\r.1.1=x.1/\Hr r.1=Hr x+Hr y) \/
 (r.2=false/\r.1=rY/\¬ (A5 x y/\∃ z:a6,pR z/\z.1=x.1/\Hr z=Hr x+Hr y))
theorem mon_inj {x y:a6} (h:pR x) (k:pR y) (e:x.1=y.1) (s:Hr x=Hr y):x=y:=by
 obtain⟨x0,x1,x2,xu⟩:=x;obtain⟨y0,y1,y2,yu⟩:=y;obtain⟨rfl,rfl⟩:=int_inj h.2.1 k.2.1 s;replace e:x0=y0:=e;subst e; rfl
theorem Zl {x y:a6} {r r':a6 × Bool} (h:AddP x y r) (h':AddP x y r'):r'=r:=by
 obtain⟨z,ok⟩:=r;obtain⟨z',ok'⟩:=r';rcases h with ⟨a,b,c,d,e⟩ | ⟨a,b,c⟩ <;> rcases h' with ⟨a',b',c',d',e'⟩ | ⟨a',b',c'⟩
 ·replace a:ok=true:=a
  replace a':ok'=true:=a';subst a a';rw [show z'=z from mon_inj c' c (d'.trans d.symm) (e'.trans e.symm)]
 ·exact absurd ⟨b,z,c,d,e⟩ c'
 ·exact absurd ⟨b',z',c',d',e'⟩ c
 replace a:ok=false:=a;replace a':ok'=false:=a';replace b:z=rY:=b;replace b':z'=rY:=b';subst a a' b b'; rfl
noncomputable def Cu (x y:a6):a6 × Bool:=Zk (AddP x y)
theorem yB {x y:a6} {r:a6 × Bool} (h:AddP x y r):Cu x y=r:=Vh h fun _ k=>Zl h k
def j8 (n:ByteArray):List aE->Option Nat
 | []=>none
 | a :: l=>if a.1=n then some 0 else (j8 n l).map (·+1)
theorem A6 {n:ByteArray}:∀ {l:List aE} {i:Nat} (h:i<l.length),l[i].1=n->(∀ (j:Nat) (hj:j<l.length),j<i->l[j].1≠n)->j8 n l=some i
 | a :: l,0,_,e,_=>by
  have e:a.1=n:=e;rw [j8,if_pos e]
 | a :: l,i+1,h,e,hj=>by
  have h0:a.1≠n:=hj 0 (by simp) (by omega);rw [j8,if_neg h0,A6 (l:=l) (i:=i) (by simpa using h) (by simpa using e) fun j hj' WM=>by
   have:=hj (j+1) (by simpa using hj') (by omega);simpa using this]
  rfl
theorem A7 {n:ByteArray}:∀ {l:List aE},(∀ (j:Nat) (hj:j<l.length),l[j].1≠n)->j8 n l=none
 | [],_=>rfl
 | a :: l,h=>by
  have h0:a.1≠n:=h 0 (by simp);rw [j8,if_neg h0,A7 (l:=l) fun j hj=>by
   have:=h (j+1) (by simpa using hj);simpa using this]
  rfl
theorem Zm {n:ByteArray}:∀ {l:List aE} {i:Nat},j8 n l=some i->∃ h:i<l.length,l[i].1=n
 | a :: l,i,h=>by
  rw [j8] at h;split at h
  ·rename_i e
   cases h
   exact⟨by simp,e⟩
  cases hf:j8 n l with
  | none=>rw [hf] at h; cases h
  | some j =>
   rw [hf] at h;cases h
   obtain⟨h1,h2⟩:=Zm hf;exact⟨by simpa using h1,by simpa using h2⟩
def F7 (n:ByteArray) (l:List aE):Int:=match j8 n l with
 | none=>-1
 | some i=>i
theorem nG {n:ByteArray} {l:List aE} (h:j8 n l=none):F7 n l=-1:=by rw [F7,h]
theorem A8 {n:ByteArray} {l:List aE} {i:Nat} (h:j8 n l=some i):F7 n l=i:=by rw [F7,h]
open Classical in
noncomputable def pS (l:List aE) (n:ByteArray) (m:a6):List aE × Bool :=
 if cq l then match j8 n l with
  | none=>([],false)
  | some i=>if (Cu (l.getD i (n,rY)).2 m).2=true then (l.set i ((l.getD i (n,rY)).1,(Cu (l.getD i (n,rY)).2 m).1),true) else ([],false)
 else ([],false)
theorem Kd {l:List aE} {n:ByteArray} {m:a6} (h:¬ cq l):pS l n m=([],false):=if_neg h
theorem A9 {l:List aE} {n:ByteArray} {m:a6} (h:j8 n l=none):pS l n m=([],false):=by
 unfold pS;rw [h];simp
theorem getD_at {l:List aE} {i:Nat} {d:aE} (h:i<l.length):l.getD i d=l[i]:=by
 rw [List.getD_eq_getElem?_getD,List.getElem?_eq_getElem h]; rfl
theorem r6 {l:List aE} {n:ByteArray} {m:a6} {i:Nat} (h:cq l) (hf:j8 n l=some i) (hi:i<l.length) {z:a6} {ok:Bool} (ha:Cu l[i].2 m=(z,ok)) :
  pS l n m=(if ok=true then l.set i (l[i].1,z) else [],ok):=by
 unfold pS;rw [if_pos h,hf];show(if (Cu (l.getD i (n,rY)).2 m).2=true then (l.set i ((l.getD i (n,rY)).1,(Cu (l.getD i (n,rY)).2 m).1),true) else ([],false))=_
 rw [getD_at hi,ha];cases ok <;> rfl
noncomputable def mE:List aE->List aE->Option (List aE)
 | l,[]=>some l
 | l,g :: gs=>match pS l g.1 g.2 with
  | (l',true)=>mE l' gs
  | (_,false)=>none
theorem can_sum {a b o:List aI} {k M:Nat} (hl:bK o) (ho:o.length=k) (h1:a.length<=k) (h2:b.length<=k) (hM:M=a.length\/M=b.length) (hk:k<=M+1) (ht:k=M+1->ab o M≠0) (hv:ak o k=ak a k+ak b k) (ca:Can a) (cb:Can b):Can o:=by
 refine⟨hl,?_⟩
 by_cases k0:k=0
 ·exact .inl (by omega)
 refine .inr ?_
 rw [ho]
 by_cases k1:k=M+1
 ·rw [k1]
  exact ht k1
 have kM:k=M:=by omega
 rw [fE h1,fE h2] at hv;have a0:=aO ca.1;have b0:=aO cb.1;have cg:(1000000000:Int) ^ (k-1)<=af a+af b:=by
  rcases hM with e | e
  ·have:=iO ca (by omega)
   rw [show a.length=k by omega] at this;omega
  have:=iO cb (by omega);rw [show b.length=k by omega] at this;omega
 intro hz;have hs:ak o k=ak o (k-1)+ab o (k-1)*1000000000 ^ (k-1):=by
  obtain⟨j,rfl⟩:∃ j,k=j+1:=⟨k-1,by omega⟩
  rfl
 rw [hz,Int.zero_mul] at hs;have:=(ch hl (k-1)).2;omega
theorem Vi (V:aa) (s s':ar) (a b:List aI) (f f':List Nat) (h:LR rI V s a f) (h':LR rI V s' b f') (ha:bK a) (hb:bK b) (la:a.length<=1000000) (lb:b.length<=1000000) :
  ae prog V 348 [qL s,qL s'] (fun V' r=>V.le V'/\∃ YS o DT,r=qL YS/\LR rI V' YS o DT/\cQ V V' DT/\bK o/\af o=af a+af b/\o.length<=Nat.max a.length b.length+1/\(Can a->Can b->Can o)):=by
 refine aM (Us _ _) fun _=>?_
 have hn:=h.1;have H9:=h'.1;have hB:(1000000000:Int)≠0:=by decide
 simp only [DH,T.wp];obtain⟨M,hM⟩:∃ M,M=Nat.max a.length b.length:=⟨_,rfl⟩;have hMa:a.length<=M:=by rw [hM]; exact Nat.le_max_left _ _
 have hMb:b.length<=M:=by rw [hM]; exact Nat.le_max_right _ _
 have hMc:M=a.length\/M=b.length:=by
  rcases Nat.le_total a.length b.length with k | k
  ·exact .inr (by rw [hM]; exact Nat.max_eq_right k)
  exact .inl (by rw [hM]; exact Nat.max_eq_left k)
 rw [<- hM];refine⟨fun y V'=>V'=V/\∃ (k:Nat) (o:List aI),y.2.2.1=(k:Int)/\k<=M+1/\0<=(y.2.1:Int)/\(y.2.1:Int)<=1/\y.1.1=k/\y.1.2=o.map ag/\o.length=k/\bK o/\(k=M+1->(y.2.1:Int)=0/\ab o M≠0)/\ak o k+(y.2.1:Int)*1000000000 ^ k=ak a k+ak b k,
  fun y=>((M:Int)+1-(y.2.2.1:Int)).toNat,⟨((0,[]),(0:Int),(0:Int),()),rfl,rfl,0,[],rfl,by omega,(by omega:(0:Int)<=0),(by omega:(0:Int)<=1),rfl,rfl,rfl,eU,fun k=>by omega,rfl⟩,?_⟩
 rintro⟨⟨n1,ys⟩,(c:Int),(i:Int),u⟩ V' ⟨rfl,k,o,hi,hk,nV,nT,gm,dZ,gR,jh,Cs,hv⟩;replace hi:i=(k:Int):=hi;replace nV:0<=c:=nV;replace nT:c<=1:=nT;replace gm:n1=k:=gm;replace dZ:ys=o.map ag:=dZ;replace Cs:k=M+1->c=0/\ab o M≠0:=Cs;replace hv:ak o k+c*1000000000 ^ k=ak a k+ak b k:=hv;subst hi gm dZ;have la1:=ha n1;have lb1:=hb n1;have next:n1<=M->(n1=M->0<c)->∀ t:Int,t=c+ab a n1+ab b n1->∃ N,([]++[fun vs V'_1=>∃ y':cH [.a 3,.o (.o (.i .i64)),.o (.o (.i .i64))],vs=cH.nf _ y'/\(V'_1=V'/\∃ (k:Nat) (o:List aI),y'.2.2.1=(k:Int)/\k<=M+1/\0<=(y'.2.1:Int)/\(y'.2.1:Int)<=1/\y'.1.1=k/\y'.1.2=o.map ag/\o.length=k/\bK o/\(k=M+1->(y'.2.1:Int)=0/\ab o M≠0)/\ak o k+(y'.2.1:Int)*1000000000 ^ k=ak a k+ak b k)/\((M:Int)+1-(y'.2.2.1:Int)).toNat<((M:Int)+1-(n1:Int)).toNat]:List (List LV->aa->Prop))[0]?=some N /\
   N [LV.a 3 (n1+1) (o.map ag++[.int .i64 (t.tmod (1000000000:Int))]),.v (.int .i64 (i64.wrap (t.tdiv (1000000000:Int)))),.v (.int .i64 (i64.wrap ((n1:Int)+1)))] V':=by
  intro vx hcM t ht;have JQ:0<=t:=by omega
  have htm:t.tmod 1000000000=t % 1000000000:=Int.tmod_eq_emod_of_nonneg JQ;have htd:t.tdiv 1000000000=t / 1000000000:=Int.tdiv_eq_ediv_of_nonneg JQ;have hwd:i64.wrap (t / 1000000000)=t / 1000000000:=wrap_i64 (by omega);have jU:i64.wrap ((n1:Int)+1)=((n1+1:Nat):Int):=by rw [wrap_i64 (by omega)]; omega
  rw [htm,htd,jU,hwd];refine⟨_,rfl,((n1+1,(o++[(t % 1000000000,())]).map ag),t / 1000000000,((n1+1:Nat):Int),()),?_,⟨rfl,n1+1,o++[(t % 1000000000,())],rfl,by omega,(by omega:(0:Int)<=t / 1000000000),(by omega:t / 1000000000<=1),rfl,rfl,by simp [gR],fM jh ⟨(by omega:(0:Int)<=t % 1000000000),(by omega:t % 1000000000<1000000000)⟩,fun e=>?_,?_⟩,?_⟩
  ·simp [cH.nf,mP.lv,dx.val,Sc.val,ag]
  ·have e1:=eQ (l:=a) (i:=n1) (by omega)
   have e2:=eQ (l:=b) (i:=n1) (by omega);have e3:n1=M:=by omega
   have e4:=hcM e3;refine⟨(by omega:t / 1000000000=0),?_⟩
   have e5:ab (o++[(t % 1000000000,())]) M=t % 1000000000:=by
    rw [show M=o.length by omega,ik]
   show ab (o++[(t % 1000000000,())]) M≠0
   rw [e5];omega
  ·have:=Ie (d:=t % 1000000000) (e:=t / 1000000000) gR hv (by omega)
   exact this
  show((M:Int)+1-((n1+1:Nat):Int)).toNat<_
  omega
 have room:n1<=M->∀ v:Int,one [Value.int .i64 v]=true/\(n1+1)*8<=140737488355328/\n1+1<=9223372036854775807:=fun vx v=>⟨rfl,by omega,by omega⟩
 have e1:i64.wrap (c+ab a n1)=c+ab a n1:=wrap_i64 (by omega);have e2:i64.wrap (c+ab b n1)=c+ab b n1:=wrap_i64 (by omega);have e3:i64.wrap (c+ab a n1+ab b n1)=c+ab a n1+ab b n1:=wrap_i64 (by omega);have ga:(decide ((n1:Int)<(s.n:Int))=true)->∃ b1 o1,s.a=some ⟨b1,o1,none⟩/\aQ V' ((⟨b1,o1,none⟩:Addr).add (n1*1)) 1=some [.int .i64 (ab a n1)]/\n1<a.length:=by
  intro hh;have nU:n1<a.length:=by
   have:(n1:Int)<(s.n:Int):=bq hh;omega
  obtain⟨b1,o1,a1,l1⟩:=h.int nU;rw [<- aV nU] at l1;exact⟨b1,o1,a1,l1,nU⟩
 have gb:(decide ((n1:Int)<(s'.n:Int))=true)->∃ b1 o1,s'.a=some ⟨b1,o1,none⟩/\aQ V' ((⟨b1,o1,none⟩:Addr).add (n1*1)) 1=some [.int .i64 (ab b n1)]/\n1<b.length:=by
  intro hh;have nU:n1<b.length:=by
   have:(n1:Int)<(s'.n:Int):=bq hh;omega
  obtain⟨b1,o1,a1,l1⟩:=h'.int nU;rw [<- aV nU] at l1;exact⟨b1,o1,a1,l1,nU⟩
 have na:(decide ((n1:Int)<(s.n:Int))=false)->ab a n1=0:=fun hh=>by
  have:¬ (n1:Int)<(s.n:Int):=bU hh;exact eQ (by omega)
 have nb:(decide ((n1:Int)<(s'.n:Int))=false)->ab b n1=0:=fun hh=>by
  have:¬ (n1:Int)<(s'.n:Int):=bU hh;exact eQ (by omega)
 have z0:(0:Int)<=(n1:Int):=by omega
 refine⟨fun h1=>?_,fun h1=>⟨fun h2=>?_,fun h2=>⟨fun h3=>?_,fun h3=>?_⟩⟩⟩
 rotate_left 3
 ·have q1:¬ (n1:Int)<(s.n:Int):=bU h1
  have q2:¬ (n1:Int)<(s'.n:Int):=bU h2;have q3:¬ c > 0:=bU h3;have q4:c=0:=by omega
  subst q4;intro bk cap spare lT dd _;have ux:n1<=cap:=dd;have hk:=ju (V:=V') (b:=bk) (cap:=cap) (o:=o) (spare:=spare) (t:=3) lT (by omega) (by omega);refine⟨aG lT,⟨some ⟨bk,0,none⟩,n1,cap⟩,o,[bk],rfl,by rw [<- gR]; exact hk.1,hk.2,jh,?_,by omega,fun ca cb=>can_sum jh gR (by omega) (by omega) hMc (by omega) (fun e=>(Cs e).2) ?_ ca cb⟩
  rotate_left
  ·rw [Int.zero_mul,Int.add_zero] at hv
   exact hv
  rw [fE (show a.length<=n1 by omega),fE (show b.length<=n1 by omega)] at hv;rw [af,gR];simpa using hv
 ·have vx:n1<=M:=by
   obtain⟨_,_,_,_,k⟩:=ga h1;omega
  have uF:n1=M->0<c:=fun e=>by
   obtain⟨_,_,_,_,k⟩:=ga h1;omega
  refine⟨fun Hp=>?_,fun Hp=>⟨fun ov=>?_,fun ov=>?_⟩⟩
  ·obtain⟨b1,o1,a1,l1,nU⟩:=ga Hp
   refine⟨_,a1,z0,(by omega:(n1:Int)<(s.n:Int)),ab a n1,l1,fun ov=>?_,fun ov=>?_⟩
   ·obtain⟨b2,o2,a2,l2,uy⟩:=gb ov
    refine⟨_,a2,z0,(by omega:(n1:Int)<(s'.n:Int)),ab b n1,l2,hB,rfl,room vx _,hB,?_⟩
    have:=next vx uF _ rfl;rw [<- e3,<- e1] at this;exact this
   refine⟨hB,rfl,room vx _,hB,?_⟩
   have:=next vx uF (c+ab a n1) (by rw [nb ov]; omega)
   rw [<- e1] at this;exact this
  ·obtain⟨b2,o2,a2,l2,uy⟩:=gb ov
   refine⟨_,a2,z0,(by omega:(n1:Int)<(s'.n:Int)),ab b n1,l2,hB,rfl,room vx _,hB,?_⟩
   have:=next vx uF (c+ab b n1) (by rw [na Hp]; omega)
   rw [<- e2] at this;exact this
  refine⟨hB,rfl,room vx _,hB,?_⟩
  exact next vx uF c (by rw [na Hp,nb ov]; omega)
 ·have vx:n1<=M:=by
   obtain⟨_,_,_,_,k⟩:=gb h2;omega
  have uF:n1=M->0<c:=fun e=>by
   obtain⟨_,_,_,_,k⟩:=gb h2;omega
  refine⟨fun Hp=>?_,fun Hp=>⟨fun ov=>?_,fun ov=>?_⟩⟩
  ·obtain⟨b1,o1,a1,l1,nU⟩:=ga Hp
   refine⟨_,a1,z0,(by omega:(n1:Int)<(s.n:Int)),ab a n1,l1,fun ov=>?_,fun ov=>?_⟩
   ·obtain⟨b2,o2,a2,l2,uy⟩:=gb ov
    refine⟨_,a2,z0,(by omega:(n1:Int)<(s'.n:Int)),ab b n1,l2,hB,rfl,room vx _,hB,?_⟩
    have:=next vx uF _ rfl;rw [<- e3,<- e1] at this;exact this
   refine⟨hB,rfl,room vx _,hB,?_⟩
   have:=next vx uF (c+ab a n1) (by rw [nb ov]; omega)
   rw [<- e1] at this;exact this
  ·obtain⟨b2,o2,a2,l2,uy⟩:=gb ov
   refine⟨_,a2,z0,(by omega:(n1:Int)<(s'.n:Int)),ab b n1,l2,hB,rfl,room vx _,hB,?_⟩
   have:=next vx uF (c+ab b n1) (by rw [na Hp]; omega)
   rw [<- e2] at this;exact this
  refine⟨hB,rfl,room vx _,hB,?_⟩
  exact next vx uF c (by rw [na Hp,nb ov]; omega)
 have vx:n1<=M:=by
  have wZ:c > 0:=bq h3
  by_cases e:n1=M+1
  ·have:=(Cs e).1
   omega
  omega
 have uF:n1=M->0<c:=fun _=>by
  have wZ:c > 0:=bq h3;omega
 refine⟨fun Hp=>?_,fun Hp=>⟨fun ov=>?_,fun ov=>?_⟩⟩
 ·obtain⟨b1,o1,a1,l1,nU⟩:=ga Hp
  refine⟨_,a1,z0,(by omega:(n1:Int)<(s.n:Int)),ab a n1,l1,fun ov=>?_,fun ov=>?_⟩
  ·obtain⟨b2,o2,a2,l2,uy⟩:=gb ov
   refine⟨_,a2,z0,(by omega:(n1:Int)<(s'.n:Int)),ab b n1,l2,hB,rfl,room vx _,hB,?_⟩
   have:=next vx uF _ rfl;rw [<- e3,<- e1] at this;exact this
  refine⟨hB,rfl,room vx _,hB,?_⟩
  have:=next vx uF (c+ab a n1) (by rw [nb ov]; omega)
  rw [<- e1] at this;exact this
 ·obtain⟨b2,o2,a2,l2,uy⟩:=gb ov
  refine⟨_,a2,z0,(by omega:(n1:Int)<(s'.n:Int)),ab b n1,l2,hB,rfl,room vx _,hB,?_⟩
  have:=next vx uF (c+ab b n1) (by rw [na Hp]; omega)
  rw [<- e2] at this;exact this
 refine⟨hB,rfl,room vx _,hB,?_⟩
 exact next vx uF c (by rw [na Hp,nb ov]; omega)
theorem Ke (V:aa) (c0:Bool) (s:ar) (l:List aI) (f:List Nat) (h:LR rI V s l f) (hc:bK l) (hl:l.length<=50) :
  ae prog V 158 [.bool c0,qL s] (fun V' r=>V.le V'/\∃ e s' o f',r=cV (e,s',())/\LR rI V' s' o f'/\cQ V V' f'/\eD e o/\bQ e o=bQ c0 l/\o.length<=l.length):=by
 refine aM (Ad _ _) fun _=>?_
 simp only [rQ,T.wp];refine(D5 V s l f h hl).mono ?_
 rintro V1 r ⟨rfl,s1,rfl,hL⟩;obtain⟨tc,tv⟩:=dS hc;obtain⟨o,ho⟩:∃ o,o=db l:=⟨_,rfl⟩;have gR:o.length<=l.length:=by rw [ho]; unfold db; rw [List.length_take]; exact Nat.min_le_right _ _
 rw [<- ho] at hL tc tv;obtain⟨r1,r2⟩:=hL.rdI;have hn:=hL.1;obtain⟨ok,ev⟩:=F5 (q:=c0) tc (by omega);have ev2:bQ (c0 && decide (0<o.length)) o=bQ c0 l:=by
  rw [ev];unfold bQ;rw [tv]
 have fin:∀ (q:Bool),q=(c0 && decide (0<o.length))->∀ b cap spare,V1 b=none->0+s1.n<=cap->V1.le (aB V1 b (([]++o.map ag)++spare,(3,(0,0))))/\∃ e s' o' f',packed [cV (q,(⟨some ⟨b,0,none⟩,0+s1.n,cap⟩:ar),())]=cV (e,s',())/\LR rI (aB V1 b (([]++o.map ag)++spare,(3,(0,0)))) s' o' f'/\cQ V1 (aB V1 b (([]++o.map ag)++spare,(3,(0,0)))) f'/\eD e o'/\bQ e o'=bQ c0 l/\o'.length<=l.length:=by
  intro q hq b cap spare hb dd;have k:=ju (V:=V1) (b:=b) (cap:=cap) (o:=o) (spare:=spare) (t:=3) hb (by omega) (by omega);refine⟨aG hb,q,⟨some ⟨b,0,none⟩,0+s1.n,cap⟩,o,[b],rfl,?_,k.2,by rw [hq]; exact ok,by rw [hq]; exact ev2,gR⟩
  rw [Nat.zero_add,hn];exact k.1
 refine⟨nofun,s1,rfl,fun dN=>⟨o.map ag,r1,r2,⟨r2,(by omega:(0+s1.n)*8<=140737488355328),(by omega:0+s1.n<=9223372036854775807)⟩,fun b cap spare hb dd _=>fin _ ?_ b cap spare hb dd⟩,fun df=>⟨o.map ag,r1,r2,⟨r2,(by omega:(0+s1.n)*8<=140737488355328),(by omega:0+s1.n<=9223372036854775807)⟩,fun b cap spare hb dd _=>fin _ ?_ b cap spare hb dd⟩⟩
 ·have:c0=true:=dN
  subst this;show decide ((s1.n:Int) > 0)=(true && decide (0<o.length))
  rw [Bool.true_and];exact decide_eq_decide.2 (by omega)
 have:c0=false:=df;subst this
 rfl
abbrev F8 (V:aa) (z:Int) (m:Nat):aa->Value->Prop:=fun V' r=>V.le V'/\∃ e s o f,r=cV (e,s,())/\LR rI V' s o f/\cQ V V' f/\eD e o/\bQ e o=z/\o.length<=m
theorem Vj (V:aa) (c0:Bool) (c1:ar) (d0:Bool) (d1:ar) (a b:List aI) (f g:List Nat) (h:LR rI V c1 a f) (h':LR rI V d1 b g) (ha:Can a) (hb:Can b) (la:a.length<=49) (lb:b.length<=49) :
  ae prog V 313 [cV (c0,c1,()),cV (d0,d1,())] (F8 V (bQ c0 a+bQ d0 b) 50):=by
 refine aM (Up _ _) fun _=>?_
 simp only [DF,T.wp];have fin:∀ (q:Bool) {V1:aa} {s1:ar} {o1:List aI} {f1:List Nat} (z:Int),V.le V1->LR rI V1 s1 o1 f1->bK o1->o1.length<=50->bQ q o1=z->ae prog V1 158 [.bool q,qL s1] (fun V' r=>(false=true->V1.le V')/\∃ y,r=(Sh.v (.g [.b,.l])).val y/\F8 V z 50 V' (packed [cV y])):=by
  intro q V1 s1 o1 f1 z hle hL hl hlen hz;refine(Ke V1 q s1 o1 f1 hL hl hlen).mono ?_
  rintro V2 r ⟨bm,e,s2,o2,f2,rfl,L2,O2,ok,ev,ln⟩;exact⟨fun _=>bm,(e,s2,()),rfl,hle.trans bm,e,s2,o2,f2,rfl,L2,O2.pre hle,ok,ev.trans hz,by omega⟩
 refine⟨fun heq=>?_,fun bR=>?_⟩
 ·have hcd:c0=d0:=by simpa using heq
  subst hcd;refine(Vi V c1 d1 a b f g h h' ha.1 hb.1 (by omega) (by omega)).mono ?_
  rintro V1 r ⟨hle,s,o,DT,rfl,hL,_,hl,hv,hlen,_⟩;have hM:Nat.max a.length b.length<=49:=Nat.max_le.2 ⟨la,lb⟩;refine⟨fun _=>hle,s,rfl,fin c0 _ hle hL hl (by omega) ?_⟩
  unfold bQ;cases c0 <;> simp <;> omega
 have hcd:c0=!d0:=by cases c0 <;> cases d0 <;> simp_all
 refine(kT V c1 d1 a b f g h h').mono ?_
 rintro V0 r ⟨rfl,rfl⟩;have JY:=iP ha hb;refine⟨nofun,_,rfl,fun cg=>?_,fun aN=>?_⟩
 ·have rU:cmpL a b>=0:=bq cg
  have UN:af b<=af a:=by rcases JY with ⟨c,k⟩ | ⟨c,k⟩ | ⟨c,k⟩ <;> omega
  refine(vY V0 c1 d1 a b f g h h' ha.1 hb.1 (by omega) (gW ha hb UN) UN).mono ?_
  rintro V1 r ⟨hle,s,o,DT,rfl,hL,_,hc,hv⟩;have vq:=aO hb.1;have hlen:=gW ha hc (by omega);refine⟨fun _=>hle,s,rfl,fin c0 _ hle hL hc.1 (by omega) ?_⟩
  unfold bQ;subst hcd;cases d0 <;> simp <;> omega
 have vW:¬ cmpL a b>=0:=bU aN;have UN:af a<=af b:=by rcases JY with ⟨c,k⟩ | ⟨c,k⟩ | ⟨c,k⟩ <;> omega
 refine(vY V0 d1 c1 b a g f h' h hb.1 ha.1 (by omega) (gW hb ha UN) UN).mono ?_
 rintro V1 r ⟨hle,s,o,DT,rfl,hL,_,hc,hv⟩;have ha0:=aO ha.1;have hlen:=gW hb hc (by omega);refine⟨fun _=>hle,s,rfl,fin d0 _ hle hL hc.1 (by omega) ?_⟩
 unfold bQ;subst hcd;cases d0 <;> simp <;> omega
theorem Vk (V:aa) (c0:Bool) (c1:ar) (d0:Bool) (d1:ar) (a b:List aI) (f g:List Nat) (h:LR rI V c1 a f) (h':LR rI V d1 b g) (ha:eD c0 a) (hb:eD d0 b) (la:a.length<=49) (lb:b.length<=49) :
  ae prog V 345 [cV (c0,c1,()),cV (d0,d1,())] (F8 V (bQ c0 a+bQ d0 b) 50):=by
 refine aM (Uq _ _) fun _=>?_
 simp only [DG,T.wp];refine(jY V c0 c1 a f h).mono ?_
 rintro V1 r ⟨rfl,e,rfl,he⟩;have he:=he.2 ha;subst he;refine⟨nofun,true,rfl,nofun,fun _=>(jY V1 d0 d1 b g h').mono ?_⟩
 rintro V2 r ⟨rfl,e,rfl,he⟩;have he:=he.2 hb;subst he;refine⟨nofun,true,rfl,nofun,fun _=>(Vj V2 c0 c1 d0 d1 a b f g h h' ha.1.1 hb.1.1 la lb).mono ?_⟩
 rintro V3 r ⟨bS,e,s,o,f3,rfl,k⟩;exact⟨nofun,(e,s,()),rfl,bS,e,s,o,f3,rfl,k⟩
theorem Vl (V:aa) (c0:Bool) (c1:ar) (l:List aI) (f:List Nat) (h:LR rI V c1 l f) (ok:eD c0 l) :
  ae prog V 94 [cV (c0,c1,())] (fun V' r=>V.le V'/\∃ s f',r=cV (!c0 && decide (0<l.length),s,())/\LR rI V' s l f'/\cQ V V' f'):=by
 refine aM (Tu _) fun _=>?_
 simp only [C6,T.wp];refine(jY V c0 c1 l f h).mono ?_
 rintro V1 r ⟨rfl,e,rfl,he⟩;obtain rfl:e=true:=he.2 ok;refine⟨nofun,true,rfl,nofun,fun _=>(oE V1 (!c0) c1 l f h ok.1.1 ok.1.2).mono ?_⟩
 rintro V2 _ ⟨bm,s2,f2,rfl,L2,O2⟩;exact⟨nofun,_,rfl,bm,s2,f2,rfl,L2,O2⟩
abbrev muL:Go.Conc.Locks.MuLink:={ lock:=423,unlock:=424,ilock:=426,iunlock:=427,lockSlow:=433,unlockSlow:=436,disable:=429,enable:=431,acquire:=432,relMerge:=434,cas32:=430,add32:=435,tIMutex:=407,tMutex:=409,tPMutex:=415,tPIMutex:=417,tPI32:=419,tUP:=327,tNoCopy:=405,tU32:=356 }
theorem muLib:Go.Conc.Locks.MuLib prog muL :=
 ⟨Tryz.func423,Tryz.func424,Tryz.func426,Tryz.func427,Tryz.func429,Tryz.func431,Tryz.func432,Tryz.func434,Tryz.func430,Tryz.func435,
  by kernel_rfl,fun w=>aZ (by kernel_rfl) w,fun w=>aZ (by kernel_rfl) w,fun w=>aZ (by kernel_rfl) w,fun w=>aZ (by kernel_rfl) w,
  by kernel_rfl,fun w=>aZ (by kernel_rfl) w,fun w=>aZ (by kernel_rfl) w,fun w=>aZ (by kernel_rfl) w,fun w=>aZ (by kernel_rfl) w,
  by kernel_rfl,fun w=>aZ (by kernel_rfl) w,fun w=>aZ (by kernel_rfl) w,fun w=>aZ (by kernel_rfl) w,fun w=>aZ (by kernel_rfl) w,
  by kernel_rfl,fun w=>aZ (by kernel_rfl) w,fun w=>aZ (by kernel_rfl) w,fun w=>aZ (by kernel_rfl) w,fun w=>aZ (by kernel_rfl) w,
  by kernel_rfl,fun w=>aZ (by kernel_rfl) w,fun w=>aZ (by kernel_rfl) w,fun w=>aZ (by kernel_rfl) w,fun w=>aZ (by kernel_rfl) w,
  by kernel_rfl,fun w=>aZ (by kernel_rfl) w,fun w=>aZ (by kernel_rfl) w,fun w=>aZ (by kernel_rfl) w,fun w=>aZ (by kernel_rfl) w,
  by kernel_rfl,fun w=>aZ (by kernel_rfl) w,fun w=>aZ (by kernel_rfl) w,fun w=>aZ (by kernel_rfl) w,fun w=>aZ (by kernel_rfl) w,
  by kernel_rfl,fun w=>aZ (by kernel_rfl) w,fun w=>aZ (by kernel_rfl) w,fun w=>aZ (by kernel_rfl) w,fun w=>aZ (by kernel_rfl) w,
  by kernel_rfl⟩
def apD (s:ar) (sz bytes:Nat) (ys:List Value) (m:Nat) (t:TypeId) (k:ar->T):T:=.ap s sz bytes ys m t k
theorem F9 (s:ar) (sz bytes:Nat) (ys:List Value) (m:Nat) (t:TypeId) (k:ar->T):T.ap s sz bytes ys m t k=apD s sz bytes ys m t k:=rfl
section
variable {sh:List Sc} {α:Type}
def GR (r:Rp sh α) (t:TypeId) (V:aa) (s:ar) (l:List α) (f:List Nat):Prop :=
 s.n=l.length/\s.n<=s.c/\((s.a=none/\s.c=0/\l=[]/\f=[]) \/
  ∃ b fps cs post,s.a=some ⟨b,0,none⟩/\V b=some (cs.flatMap (aH.aD sh)++post,(t,(0,0)))/\post.length=(s.c-s.n)*sh.length/\kS r V cs l fps/\f=b :: fps)
theorem GR.nil {r:Rp sh α} {t:TypeId} {V:aa}:GR r t V ⟨none,0,0⟩ [] []:=⟨rfl,Nat.le_refl _,.inl ⟨rfl,rfl,rfl,rfl⟩⟩
theorem GR.lr {r:Rp sh α} {t:TypeId} {V:aa} {s:ar} {l:List α} {f:List Nat} (h:GR r t V s l f) (hn:l.length<=9223372036854775807):LR r V s l f:=by
 obtain⟨h1,h2,h3⟩:=h;refine⟨h1,h2,by omega,?_⟩
 rcases h3 with ⟨ha,hc,rfl,rfl⟩ | ⟨b,fps,cs,post,ha,hb,hp,he,rfl⟩
 ·exact .inl ⟨h1,fun _=>hc,rfl⟩
 exact .inr ⟨b,[],post,_,fps,cs,ha,hb,he,rfl⟩
theorem GR.loc {r:Rp sh α} {t:TypeId} {V V':aa} {s:ar} {l:List α} {f:List Nat} (h:GR r t V s l f) (hb:∀ b∈f,V' b=V b):GR r t V' s l f:=by
 obtain⟨h1,h2,h3⟩:=h;refine⟨h1,h2,?_⟩
 rcases h3 with h3 | ⟨b,fps,cs,post,ha,hv,hp,he,rfl⟩
 ·exact .inl h3
 exact .inr ⟨b,fps,cs,post,ha,by rw [hb b (by simp),hv],hp,he.loc fun x hx=>hb x (by simp [hx]),rfl⟩
theorem GR.le {r:Rp sh α} {t:TypeId} {V V':aa} {s:ar} {l:List α} {f:List Nat} (h:GR r t V s l f) (hle:V.le V'):GR r t V' s l f:=by
 obtain⟨h1,h2,h3⟩:=h;refine⟨h1,h2,?_⟩
 rcases h3 with h3 | ⟨b,fps,cs,post,ha,hb,hp,he,rfl⟩
 ·exact .inl h3
 exact .inr ⟨b,fps,cs,post,ha,hle _ _ hb,hp,he.le hle,rfl⟩
theorem P0 {P:Program} {r:Rp sh α} {t:TypeId} {V0 V Vd:aa} {s:ar} {l:List α} {f fx:List Nat} {c:aH sh} {x:α} {bytes:Nat} {k:ar->T} {K:aa->List Value->Prop} {Ns:List (List LV->aa->Prop)}
  (h:GR r t V s l f) (hx:r.R V c x fx) (hO:cQ V0 V (f++fx)) (hle:V0.le V) (hP:P.cellsOf t=sh.length)
  (hb:(l.length+1)*bytes<=140737488355328) (hl:l.length+1<=9223372036854775807)
  (hk:∀ s' V' f',GR r t V' s' (l++[x]) f'->cQ V0 V' f'->V0.le V'->(k s').wp P K V' Vd Ns) :
  (T.ap s sh.length bytes (aH.aD sh c) 1 t k).wp P K V Vd Ns:=by
 obtain⟨h1,h2,h3⟩:=h;simp only [T.wp];refine⟨h2,fun ha=>?_,fun h=>absurd h (by decide),fun _ gQ=>?_,fun _ gQ=>⟨by rw [h1]; exact hb,by rw [h1]; exact hl,?_⟩⟩
 ·rcases h3 with ⟨_,hc,_⟩ | ⟨b,fps,cs,post,sW,_⟩
  ·exact hc
  rw [ha] at sW; cases sW
 ·rcases h3 with ⟨_,hc,_⟩ | ⟨b,fps,cs,post,ha,lT,hp,he,rfl⟩
  ·omega
  have eG:cs.length=l.length:=he.len;have yj:(cs.flatMap (aH.aD sh)).length=s.n*sh.length:=by rw [iM,eG,h1]
  have hpl:sh.length<=post.length:=by
   rw [hp]; exact Nat.le_mul_of_pos_left _ (by omega)
  have vZ:aX (cs.flatMap (aH.aD sh)++post) (s.n*sh.length) (aH.aD sh c)=(cs++[c]).flatMap (aH.aD sh)++post.drop sh.length:=by
   rw [iL yj.symm (by rw [cF]; exact hpl),cF]
   simp
  have vy:b ∉ fps/\b ∉ fx:=by
   have:=hO.1;simp only [List.cons_append,List.nodup_cons,List.mem_append,not_or] at this;exact this.1
  have Ga:∀ (y:List Value × vn) (g:List Nat),b ∉ g->∀ b'∈g,aB V b y b'=V b':=fun y g hg b' gx=>by
   simp only [aB]; rw [if_neg (fun e:b'=b=>hg (by rw [<- e]; exact gx))]
  refine⟨b,_,ha,lT,?_,?_⟩
  ·rw [List.length_append,yj,hp,<- Nat.add_mul]
   exact Nat.mul_le_mul_right _ (by omega)
  rw [vZ];refine hk _ _ (b :: (fps++fx)) ⟨by simp [h1],by show s.n+1<=s.c; omega,.inr ⟨b,fps++fx,cs++[c],post.drop sh.length,ha,av,?_,?_,rfl⟩⟩ ⟨by simpa using hO.1,by simpa using hO.2.1,?_⟩ ?_
  ·rw [List.length_drop,hp,<- Nat.sub_one_mul]
   congr 1
  ·exact(he.loc (Ga _ _ vy.1)).snoc (r.loc hx (Ga _ _ vy.2))
  ·intro b' gx
   rcases List.mem_cons.1 gx with rfl | gx
   ·exact⟨_,_,av⟩
   have bR:b'≠b:=fun e=>by
    rw [e] at gx;rcases List.mem_append.1 gx with h | h
    ·exact vy.1 h
    exact vy.2 h
   obtain⟨u,v,Zn⟩:=hO.2.2 b' (by simp only [List.cons_append,List.mem_cons]; exact .inr gx)
   exact⟨u,v,by simp only [aB]; rw [if_neg bR]; exact Zn⟩
  intro b' y hy;have bR:b'≠b:=fun e=>by
   subst e;have:=hO.2.1 b' (by simp);rw [this] at hy; cases hy
  simp only [aB]; rw [if_neg bR]; exact hle b' y hy
 have hgo:∀ (cs:List (aH sh)) (fps:List Nat),kS r V cs l fps->(∀ b∈fps,b∈f)->fps.Nodup->(∀ b∈fps,b ∉ fx) ->
   ∀ b cap spare,V b=none->s.n+1<=cap->spare.length=(cap-(s.n+1))*P.cellsOf t ->
   (k ⟨some ⟨b,0,none⟩,s.n+1,cap⟩).wp P K (aB V b ((cs.flatMap (aH.aD sh)++aH.aD sh c)++spare,(t,(0,0)))) Vd Ns:=by
  intro cs fps he P1 vy hdis b cap spare yR dd oV;have hV:=aG (x:=((cs.flatMap (aH.aD sh)++aH.aD sh c)++spare,(t,(0,0)))) yR;have gM:∀ b'∈fps++fx,b'∈f++fx:=fun b' gx=>by
   rcases List.mem_append.1 gx with h | h
   ·exact List.mem_append.2 (.inl (P1 b' h))
   exact List.mem_append.2 (.inr h)
  have hn:b ∉ fps++fx:=fun hm=>by
   obtain⟨u,v,Zn⟩:=hO.2.2 b (gM b hm);rw [yR] at Zn; cases Zn
  refine hk _ _ (b :: (fps++fx)) ⟨by simp [h1],dd,.inr ⟨b,fps++fx,cs++[c],spare,rfl,?_,by rw [oV,hP],(he.le hV).snoc (r.le hx hV),rfl⟩⟩ ⟨List.nodup_cons.2 ⟨hn,?_⟩,fun b' gx=>?_,fun b' gx=>?_⟩ (hle.trans hV)
  ·rw [av]; simp
  ·have:=List.nodup_append.1 hO.1
   exact List.nodup_append.2 ⟨vy,this.2.1,fun a ha b hb e=>hdis a ha (e ▸ hb)⟩
  ·rcases List.mem_cons.1 gx with rfl | gx
   ·exact cL hle yR
   exact hO.2.1 b' (gM b' gx)
  rcases List.mem_cons.1 gx with rfl | gx
  ·exact⟨_,_,av⟩
  obtain⟨u,v,Zn⟩:=hO.2.2 b' (gM b' gx);exact⟨u,v,hV _ _ Zn⟩
 rcases h3 with ⟨ha,hc,rfl,rfl⟩ | ⟨b,fps,cs,post,ha,lT,hp,he,rfl⟩
 ·exact⟨[],.inl ⟨ha,h1,hc,rfl⟩,rfl,fun b cap spare hb dd oV=>by
   have:=hgo [] [] rfl (fun _ h=>by cases h) List.nodup_nil (fun _ h=>by cases h) b cap spare hb dd oV;simpa using this⟩
 have eG:cs.length=l.length:=he.len;have yj:(cs.flatMap (aH.aD sh)).length=s.n*sh.length:=by rw [iM,eG,h1]
 have Hw:∀ cs:List (aH sh),fA (cs.flatMap (aH.aD sh))=true:=fun cs=>by
  induction cs with
  | nil=>rfl
  | cons c cs ih =>
   have hv:=od sh c;unfold fA at ih hv ⊢;rw [List.flatMap_cons,List.all_append,hv,ih]; rfl
 refine⟨_,.inr ⟨⟨b,0,none⟩,ha,?_⟩,Hw cs,hgo cs fps he (fun b' gx=>by simp [gx]) ?_ ?_⟩
 ·simp only [aQ,lT]
  rw [<- yj]; exact fK
 ·have:=List.nodup_append.1 hO.1
  exact(List.nodup_cons.1 this.1).2
 have:=List.nodup_append.1 hO.1;exact fun b' gx mK=>this.2.2 b' (by simp [gx]) b' mK rfl
def dV (e:Rp sh α) (t:TypeId) (V0:aa) (l:List α) (i:Int) (s:ar) (V:aa):Prop :=
 V0.le V/\∃ (k:Nat) (f:List Nat),i=(k:Int)/\k<=l.length/\GR e t V s (l.take k) f/\cQ V0 V f
theorem dV.start {e:Rp sh α} {t:TypeId} {V:aa} {l:List α}:dV e t V l 0 ⟨none,0,0⟩ V:=⟨aa.le.refl _,0,[],rfl,Nat.zero_le _,by simpa using GR.nil,cQ.nil⟩
theorem dV.sd {e:Rp sh α} {t:TypeId} {V0 V:aa} {l:List α} {b cap:Nat} {spare:List Value} (hle:V0.le V) (hb:V b=none) (hs:spare.length=cap*sh.length) :
  dV e t V0 l 0 ⟨some ⟨b,0,none⟩,0,cap⟩ (aB V b ([]++spare,(t,(0,0)))):=by
 have hV:=aG (x:=([]++spare,(t,(0,0)))) hb;refine⟨hle.trans hV,0,[b],rfl,Nat.zero_le _,⟨by simp,Nat.zero_le _,.inr ⟨b,[],[],spare,rfl,by rw [av]; simp,by simpa using hs,by simp [kS],rfl⟩⟩,⟨by simp,fun b' gx=>?_,fun b' gx=>?_⟩⟩
 ·obtain rfl:b'=b:=by simpa using gx
  exact cL hle hb
 obtain rfl:b'=b:=by simpa using gx
 exact⟨_,_,av⟩
theorem lI {P:Program} {e:Rp sh α} {t:TypeId} {V0 V V2 Vd:aa} {l:List α} {k:Nat} {s:ar} {c:aH sh} {fx:List Nat} {bytes:Nat} {kk:ar->T} {K:aa->List Value->Prop} {Ns:List (List LV->aa->Prop)}
  (h:dV e t V0 l (k:Int) s V) (hk:k<l.length) (bG:V.le V2) (hR:e.R V2 c l[k] fx) (hO:cQ V V2 fx) (hP:P.cellsOf t=sh.length)
  (hb:l.length*bytes<=140737488355328) (hl:l.length<=9223372036854775807)
  (hn:∀ s' V3,dV e t V0 l ((k+1:Nat):Int) s' V3->(kk s').wp P K V3 Vd Ns) :
  (T.ap s sh.length bytes (aH.aD sh c) 1 t kk).wp P K V2 Vd Ns:=by
 obtain⟨h1,k',f,he,_,hg,ho⟩:=h;obtain rfl:k=k':=by omega
 have hlen:(l.take k).length=k:=by simp; omega
 refine P0 (hg.le bG) hR (ho.append hO h1 bG) (h1.trans bG) hP ?_ (by omega) fun s' V' f' hg' pc v7=>hn s' V' ⟨v7,k+1,f',rfl,hk,?_,pc⟩
 ·rw [hlen]
  exact Nat.le_trans (Nat.mul_le_mul_right _ hk) hb
 rw [List.take_succ_eq_append_getElem hk]; exact hg'
theorem dV.fin {e:Rp sh α} {t:TypeId} {V0 V:aa} {l:List α} {i:Int} {s:ar} (h:dV e t V0 l i s V) (hl:l.length<=9223372036854775807) (hi:¬ i<(l.length:Int)) :
  V0.le V/\∃ f,LR e V s l f/\cQ V0 V f:=by
 obtain⟨h1,k,f,rfl,hk,hg,ho⟩:=h;obtain rfl:k=l.length:=by omega
 rw [List.take_length] at hg;exact⟨h1,f,hg.lr hl,ho⟩
theorem dV.finG {e:Rp sh α} {t:TypeId} {V0 V:aa} {l:List α} {i:Int} {s:ar} (h:dV e t V0 l i s V) (hi:¬ i<(l.length:Int)) :
  V0.le V/\∃ f,GR e t V s l f/\cQ V0 V f:=by
 obtain⟨h1,k,f,rfl,hk,hg,ho⟩:=h;obtain rfl:k=l.length:=by omega
 rw [List.take_length] at hg;exact⟨h1,f,hg,ho⟩
end
theorem Zo {xs ys:List Value} (h:ys.length=xs.length):aX xs 0 ys=ys:=by
 simp only [aX,List.take_zero,List.nil_append,Nat.zero_add];rw [List.drop_of_length_le (by omega),List.append_nil]
theorem Gb (V:aa) (c0:ByteArray) (c1:Bool) (c2:ar) (l:List aI) (f:List Nat) (h:LR rI V c2 l f) (hl:l.length<=1048576) :
  ae prog V 169 [ct (c0,c1,c2,())] (fun V' r=>V.le V'/\∃ s f',r=ct (c0,c1,s,())/\LR rI V' s l f'/\cQ V V' f'):=by
 refine aM (FG _) fun _=>?_
 simp only [tW,T.wp];obtain⟨h1,h2⟩:=h.rdI;have hn:=h.1;refine⟨⟨by omega,by omega,by omega,by omega⟩,_,h1,h2,h2,?_⟩
 intro b cap spare hb hc _;have htk:List.take (Nat.min c2.n (c2.n:Int).toNat) (l.map ag)=l.map ag:=by
  apply List.take_of_length_le
  have:Nat.min c2.n (c2.n:Int).toNat=c2.n:=by
   have e:(c2.n:Int).toNat=c2.n:=by omega
   rw [e]; exact Nat.min_self _
  rw [this]; simp; omega
 have vZ:aX (madeCells ⟨[.int .i64 (0:Int)]⟩ ((c2.n:Int).toNat*1)).toList 0 (List.take (Nat.min c2.n (c2.n:Int).toNat) (l.map ag))=l.map ag:=by
  rw [htk];exact Zo (by rw [tD]; simp; omega)
 have ic:l.length<=cap:=by omega
 have hk:=ju (V:=V) (b:=b) (cap:=l.length) (o:=l) (spare:=spare) (t:=3) hb (Nat.le_refl _) (by omega);refine⟨⟨by omega,by omega,by omega,by omega⟩,?_⟩
 have hV:=aG (x:=(l.map ag++spare,((3:TypeId),((0,0):Nat × Nat)))) hb;have e1:((((c2.n:Int).toNat:Nat):Int).toNat-Int.toNat (0:Int))=l.length:=by omega
 have e2:(if (((c2.n:Int).toNat:Nat):Int).toNat=Int.toNat (0:Int) then (some ⟨b,0,none⟩:Option Addr) else Option.map (fun(x:Addr)=>x.add (Int.toNat (0:Int)*prog.types[(3:Nat)].size)) (some (⟨b,0,none⟩:Addr)))=some ⟨b,0,none⟩:=by
  split
  ·rfl
  simp [Addr.add]
 show V.le (aB V b (aX (madeCells ⟨[.int .i64 (0:Int)]⟩ ((c2.n:Int).toNat*1)).toList 0 (List.take (Nat.min c2.n (c2.n:Int).toNat) (l.map ag))++spare,((3:TypeId),((0,0):Nat × Nat))))/\_
 rw [vZ];refine⟨hV,⟨some ⟨b,0,none⟩,l.length,l.length⟩,[b],?_,hk.1,hk.2⟩
 show ct (c0,c1,⟨(if (((c2.n:Int).toNat:Nat):Int).toNat=Int.toNat (0:Int) then (some ⟨b,0,none⟩:Option Addr) else Option.map (fun(x:Addr)=>x.add (Int.toNat (0:Int)*prog.types[(3:Nat)].size)) (some (⟨b,0,none⟩:Addr))),
  ((((c2.n:Int).toNat:Nat):Int).toNat-Int.toNat (0:Int)),((((c2.n:Int).toNat:Nat):Int).toNat-Int.toNat (0:Int))⟩,())=_
 rw [e1,e2]
theorem Kg (V:aa) (c0:ByteArray) (c1:Bool) (c2:ar) (l:List aI) (f:List Nat) (h:LR rI V c2 l f) (hl:l.length<=1048576) :
  ae prog V 132 [ct (c0,c1,c2,())] (fun V' r=>V.le V'/\∃ s f',r=ct (c0,c1,s,())/\LR rI V' s l f'/\cQ V V' f'):=by
 refine aM (IZ _) fun _=>?_
 simp only [xw,T.wp];obtain⟨h1,h2⟩:=h.rdI;have hn:=h.1;intro b1 fW;have hV1:=aG (x:=(([]:List Value),((3:TypeId),((0,0):Nat × Nat)))) fW;refine⟨l.map ag,?_,⟨h2,(by omega:c2.n*8<=140737488355328),(by omega:c2.n<=9223372036854775807)⟩,fun hz=>?_,fun hz b3 cap spare im hc _=>?_⟩
 ·rcases h1 with ⟨q1,_,q3⟩ | q
  ·exact .inl ⟨q1,q3⟩
  exact .inr q
 ·have EJ:c2.n=0:=bq hz
  have:l=[]:=List.eq_nil_of_length_eq_zero (by omega);subst this;have hk:=ju (V:=V) (b:=b1) (cap:=0) (o:=[]) (spare:=[]) (t:=3) fW (Nat.le_refl _) (by simp);exact⟨hV1,_,_,rfl,hk.1,hk.2⟩
 have ic:l.length<=cap:=by rw [<- hn]; exact hc
 have hk:=ju (V:=aB V b1 (([]:List Value),((3:TypeId),((0,0):Nat × Nat)))) (b:=b3) (cap:=cap) (o:=l) (spare:=spare) (t:=3) im ic (by omega);have hV3:=aG (x:=(l.map ag++spare,((3:TypeId),((0,0):Nat × Nat)))) im;refine⟨hV1.trans hV3,⟨some ⟨b3,0,none⟩,c2.n,cap⟩,[b3],rfl,?_,hk.2.pre hV1⟩
 rw [hn]; exact hk.1
theorem P2:MT prog 188 rI:=fun _ _ _ _ h ht=>lF _ _ _ _ h (by omega)
theorem A':zy prog 218 dA:=by
 rintro V ⟨c1,c2,cu⟩ ⟨x1,x2,xu⟩ f hx ht;obtain⟨cj,hx⟩:=hx;replace cj:c1=x1:=cj;subst cj;obtain⟨f2,Hq,cW,dU,hx⟩:=hx;subst cW;replace dU:LR rI _ c2 x2 f2:=dU;replace hx:_=[]:=hx;subst hx;replace ht:(x2.length+aC rI x2+0)<=1048576:=ht;refine aM (Oy _) fun _=>?_
 simp only [Aq,T.wp];refine(lF _ _ x2 _ dU (by omega)).mono ?_
 rintro V1 r ⟨eC,s,k,rfl,hr,ho⟩;exact⟨fun _=>eC,s,rfl,eC,(c1,s,()),_,rfl,bB.mk (cC.mk hr a8.mk),by simpa using ho⟩
theorem uG:zy prog 169 aY:=by
 rintro V ⟨c0,c1,c2,cu⟩ ⟨x0,x1,x2,xu⟩ f hx ht;obtain⟨⟨bL,dz⟩,hx⟩:=hx;replace bL:c0=x0:=bL;subst bL;obtain⟨cj,hx⟩:=hx;replace cj:c1=x1:=cj;subst cj;obtain⟨f2,Hq,cW,dU,hx⟩:=hx;subst cW;replace dU:LR rI _ c2 x2 f2:=dU;replace hx:_=[]:=hx;subst hx;replace ht:(c0.size+(x2.length+aC rI x2+0))<=1048576:=ht;refine(Gb _ _ _ _ x2 _ dU (by omega)).mono ?_
 rintro V1 r ⟨eC,s,k,rfl,hr,ho⟩;exact⟨eC,(c0,c1,s,()),_,rfl,cr.mk dz (bB.mk (cC.mk hr a8.mk)),by simpa using ho⟩
theorem Kh:zy prog 132 aY:=by
 rintro V ⟨c0,c1,c2,cu⟩ ⟨x0,x1,x2,xu⟩ f hx ht;obtain⟨⟨bL,dz⟩,hx⟩:=hx;replace bL:c0=x0:=bL;subst bL;obtain⟨cj,hx⟩:=hx;replace cj:c1=x1:=cj;subst cj;obtain⟨f2,Hq,cW,dU,hx⟩:=hx;subst cW;replace dU:LR rI _ c2 x2 f2:=dU;replace hx:_=[]:=hx;subst hx;replace ht:(c0.size+(x2.length+aC rI x2+0))<=1048576:=ht;refine(Kg _ _ _ _ x2 _ dU (by omega)).mono ?_
 rintro V1 r ⟨eC,s,k,rfl,hr,ho⟩;exact⟨eC,(c0,c1,s,()),_,rfl,cr.mk dz (bB.mk (cC.mk hr a8.mk)),by simpa using ho⟩
abbrev Zp:TypeId:=93
abbrev pT:TypeId:=86
theorem Ba (V:aa) (c:aH [.l]) (x:DBook) (f:List Nat) (hx:iX.R V c x f) (ht:iX.cB x<=1048576):ae prog V 104 [dJ c] (fun V' r=>V.le V'/\∃ s f,r=dJ (s,())/\GR aw Zp V' s x.1 f/\cQ V V' f):=by
 obtain⟨s,cu⟩:=c;obtain⟨l,xu⟩:=x;obtain⟨f1,vv,ef,sc,hx⟩:=hx;subst ef;replace sc:LR aw _ s l f1:=sc;replace hx:_=[]:=hx;subst hx;replace ht:(l.length+aC aw l+0)<=1048576:=ht;have hn:=sc.1;refine aM (IM _) fun _=>?_
 simp only [xo,F9,T.wp];have ew:i64.wrap ((s.n:Int)+1)=((s.n+1:Nat):Int):=by rw [wrap_i64 (by omega)]; omega
 rw [ew];refine⟨⟨by omega,by omega,by omega,by omega⟩,fun b cap spare hb hc oV=>?_⟩
 refine⟨fun y V'=>dV aw 93 V l y.1 y.2.1 V',fun y _=>((l.length:Int)-(y.1:Int)).toNat,⟨((0:Int),⟨some ⟨b,0,none⟩,0,cap⟩,()),rfl,dV.sd (aa.le.refl _) hb (by rw [oV]; rfl)⟩,?_⟩
 rintro⟨(i:Int),s1,u⟩ V' hI;have wk:dV aw 93 V l i s1 V':=hI;refine⟨fun aN=>?_,fun cg=>?_⟩
 ·have Vm:=wk
  obtain⟨hle,k,f0,rfl,hk,_,_⟩:=wk;have h1:k<l.length:=by
   have:(k:Int)<(s.n:Int):=by simpa using aN
   omega
  obtain⟨b1,o1,c1,fc,a1,l1,r1,_⟩:=(sc.le hle).at h1;have htx:=iN aw h1;refine⟨_,a1,(by omega:(0:Int)<=(k:Int)),(by omega:(k:Int)<(s.n:Int)),c1,l1,?_⟩
  obtain⟨n1,m1⟩:=c1;obtain⟨en,zn⟩:=r1.1;refine(uG V' m1 l[k].2 fc r1.2 (by have:l[k].1.size+aY.cB l[k].2=aw.cB l[k]:=rfl; omega)).mono ?_
  rintro V2 r ⟨bG,⟨c2,c3,c4,cv⟩,f2,rfl,hR,hO⟩;refine⟨fun _=>bG,(c2,c3,c4,()),rfl,rfl,rfl,?_⟩
  refine lI (sh:=[.s,.s,.b,.l]) (c:=(n1,c2,c3,c4,())) Vm h1 bG (e:=aw) (bytes:=64) (fx:=f2) ⟨⟨en,zn⟩,hR⟩ hO (by kernel_rfl) (by omega) (by omega) fun s' V3 h3=>?_
  refine⟨_,rfl,(((k+1:Nat):Int),s',()),by rw [kD h1 (by omega)]; rfl,h3,?_⟩
  show((l.length:Int)-((k+1:Nat):Int)).toNat<((l.length:Int)-(k:Int)).toNat
  omega
 have hi:¬ i<(l.length:Int):=by
  have:¬ i<(s.n:Int):=by simpa using cg
  omega
 obtain⟨hle,f3,hL,hO⟩:=wk.finG hi;exact⟨hle,s1,f3,rfl,hL,hO⟩
theorem Ki:zy prog 104 iX:=fun V c x f hx ht=>(Ba V c x f hx ht).mono (by
 rintro V' _ ⟨le,s,g,rfl,G,O⟩;have e:iX.cB x=x.1.length+aC aw x.1+0:=rfl;exact⟨le,(s,()),g++[],rfl,cC.mk (G.lr (by omega)) a8.mk,by simpa using O⟩)
theorem sg:zy prog 78 iX:=by
 rintro V ⟨s,cu⟩ ⟨l,xu⟩ f hx ht;obtain⟨f1,vv,ef,sc,hx⟩:=hx;subst ef;replace sc:LR aw _ s l f1:=sc;replace hx:_=[]:=hx;subst hx;replace ht:(l.length+aC aw l+0)<=1048576:=ht;have hn:=sc.1;refine aM (NX _) fun _=>?_
 simp only [zU,F9,T.wp];refine⟨fun y V'=>dV aw 93 V l y.1 y.2.1 V',fun y _=>((l.length:Int)-(y.1:Int)).toNat,⟨((0:Int),⟨none,0,0⟩,()),rfl,dV.start⟩,?_⟩
 rintro⟨(i:Int),s1,u⟩ V' hI;have wk:dV aw 93 V l i s1 V':=hI;refine⟨fun aN=>?_,fun cg=>?_⟩
 ·have Vm:=wk
  obtain⟨hle,k,f0,rfl,hk,_,_⟩:=wk;have h1:k<l.length:=by
   have:(k:Int)<(s.n:Int):=by simpa using aN
   omega
  obtain⟨b1,o1,c1,fc,a1,l1,r1,_⟩:=(sc.le hle).at h1;have htx:=iN aw h1;refine⟨_,a1,(by omega:(0:Int)<=(k:Int)),(by omega:(k:Int)<(s.n:Int)),c1,l1,?_⟩
  obtain⟨n1,m1⟩:=c1;obtain⟨en,zn⟩:=r1.1;refine(Kh V' m1 l[k].2 fc r1.2 (by have:l[k].1.size+aY.cB l[k].2=aw.cB l[k]:=rfl; omega)).mono ?_
  rintro V2 r ⟨bG,⟨c2,c3,c4,cv⟩,f2,rfl,hR,hO⟩;refine⟨fun _=>bG,(c2,c3,c4,()),rfl,rfl,rfl,?_⟩
  refine lI (sh:=[.s,.s,.b,.l]) (c:=(n1,c2,c3,c4,())) Vm h1 bG (e:=aw) (bytes:=64) (fx:=f2) ⟨⟨en,zn⟩,hR⟩ hO (by kernel_rfl) (by omega) (by omega) fun s' V3 h3=>?_
  refine⟨_,rfl,(((k+1:Nat):Int),s',()),by rw [kD h1 (by omega)]; rfl,h3,?_⟩
  show((l.length:Int)-((k+1:Nat):Int)).toNat<((l.length:Int)-(k:Int)).toNat
  omega
 have hi:¬ i<(l.length:Int):=by
  have:¬ i<(s.n:Int):=by simpa using cg
  omega
 obtain⟨hle,f3,hL,hO⟩:=wk.fin (by omega) hi;exact⟨hle,(s1,()),f3++[],rfl,cC.mk hL a8.mk,by simpa using hO⟩
theorem P3:zy prog 219 FX:=by
 rintro V ⟨c0,c1,c2,cu⟩ ⟨x0,x1,x2,xu⟩ f hx ht;obtain⟨bL,hx⟩:=hx;replace bL:c0=x0:=bL;subst bL;obtain⟨f1,vv,cj,ee,hx⟩:=hx;subst cj;replace ee:LR rI _ c1 x1 f1:=ee;obtain⟨cW,hx⟩:=hx;replace cW:c2=x2:=cW;subst cW;replace hx:_=[]:=hx;subst hx;replace ht:(x1.length+aC rI x1+0)<=1048576:=ht;refine aM (OA _) fun _=>?_
 simp only [Ar,T.wp];refine(A' _ _ (c0,x1,()) _ (bB.mk (cC.mk ee a8.mk)) (by show(x1.length+aC rI x1+0)<=1048576; omega)).mono ?_
 rintro V0 r ⟨iz,⟨d0,d1,du0⟩,k0,rfl,gw,U2⟩;obtain⟨gq,gw⟩:=gw;replace gq:d0=c0:=gq;subst gq;obtain⟨PA,k0r1,ja,jw,gw⟩:=gw;subst ja;replace jw:LR rI _ d1 x1 PA:=jw;replace gw:_=[]:=gw;subst gw;refine⟨fun _=>iz,(d0,d1,()),rfl,?_⟩
 exact⟨iz,(d0,d1,c2,()),_,rfl,(bB.mk (cC.mk jw (np.mk a8.mk))),by simpa using U2⟩
theorem pU:zy prog 171 az:=by
 rintro V ⟨c0,c1,c2,c3,c4,cu⟩ ⟨x0,x1,x2,x3,x4,xu⟩ f hx ht;obtain⟨⟨bL,dz⟩,hx⟩:=hx;replace bL:c0=x0:=bL;subst bL;replace dz:c0.size<=9223372036854775807:=dz;obtain⟨⟨cj,kJ⟩,hx⟩:=hx;replace cj:c1=x1:=cj;subst cj;replace kJ:c1.size<=9223372036854775807:=kJ;obtain⟨cW,hx⟩:=hx;replace cW:c2=x2:=cW;subst cW;obtain⟨f3,FZ,lG,cS,hx⟩:=hx;subst lG;replace cS:LR rI _ c3 x3 f3:=cS;obtain⟨wa,hx⟩:=hx;replace wa:c4=x4:=wa;subst wa;replace hx:_=[]:=hx;subst hx;replace ht:(c0.size+(c1.size+(x3.length+aC rI x3+0)))<=1048576:=ht;refine aM (I' _) fun _=>?_
 simp only [xA,T.wp];refine(P3 _ _ (c2,x3,c4,()) _ (bB.mk (cC.mk cS (np.mk a8.mk))) (by show(x3.length+aC rI x3+0)<=1048576; omega)).mono ?_
 rintro V2 r ⟨bG,⟨d2,d3,d4,du2⟩,k2,rfl,jO,J4⟩;obtain⟨ki,jO⟩:=jO;replace ki:d2=c2:=ki;subst ki;obtain⟨PE,k2r3,F2,oA,jO⟩:=jO;subst F2;replace oA:LR rI _ d3 x3 PE:=oA;obtain⟨Za,jO⟩:=jO;replace Za:d4=c4:=Za;subst Za;replace jO:_=[]:=jO;subst jO;refine⟨fun _=>bG,(d2,d3,d4,()),rfl,?_⟩
 exact⟨bG,(c0,c1,d2,d3,d4,()),_,rfl,(cr.mk dz (cr.mk kJ (bB.mk (cC.mk oA (np.mk a8.mk))))),by simpa using J4⟩
theorem P4:zy prog 170 rW:=by
 rintro V ⟨c0,c1,c2,cu⟩ ⟨x0,x1,x2,xu⟩ f hx ht;obtain⟨bL,hx⟩:=hx;replace bL:c0=x0:=bL;subst bL;obtain⟨f1,vv,cj,ee,hx⟩:=hx;subst cj;replace ee:LR rI _ c1 x1 f1:=ee;obtain⟨f2,Hq,cW,dU,hx⟩:=hx;subst cW;replace dU:LR rI _ c2 x2 f2:=dU;replace hx:_=[]:=hx;subst hx;replace ht:(x1.length+aC rI x1+(x2.length+aC rI x2+0))<=1048576:=ht;refine aM (Oj _) fun _=>?_
 simp only [Ah,T.wp];refine(A' _ _ (c0,x1,()) _ (bB.mk (cC.mk ee a8.mk)) (by show(x1.length+aC rI x1+0)<=1048576; omega)).mono ?_
 rintro V0 r ⟨iz,⟨d0,d1,du0⟩,k0,rfl,gw,U2⟩;obtain⟨gq,gw⟩:=gw;replace gq:d0=c0:=gq;subst gq;obtain⟨PA,k0r1,ja,jw,gw⟩:=gw;subst ja;replace jw:LR rI _ d1 x1 PA:=jw;replace gw:_=[]:=gw;subst gw;refine⟨fun _=>iz,(d0,d1,()),rfl,?_⟩
 refine(P2 _ _ x2 _ (dU.le iz) (by omega)).mono ?_
 rintro V2 r ⟨bG,d2,k2,rfl,pO,J4⟩;refine⟨fun _=>bG,d2,rfl,?_⟩
 have hA2:=U2.append J4 iz bG;have yw:=iz.trans bG;replace jw:=jw.le bG;exact⟨yw,(d0,d1,d2,()),_,rfl,(bB.mk (cC.mk jw (cC.mk pO a8.mk))),by simpa using hA2⟩
abbrev Kj (V:aa) (x:iZ):aa->Value->Prop:=fun V' r=>V.le V'/\∃ s f,r=iK (x.1,s,())/\GR az pT V' s x.2.1 f/\cQ V V' f
theorem xX (V:aa) (c:aH [.s,.l]) (x:iZ) (f:List Nat) (hx:cZ.R V c x f) (ht:cZ.cB x<=1048576):ae prog V 106 [iK c] (Kj V x):=by
 obtain⟨p0,s,cu⟩:=c;obtain⟨q0,l,xu⟩:=x;obtain⟨⟨ep,zp⟩,hx⟩:=hx;replace ep:p0=q0:=ep;subst ep;obtain⟨f1,vv,ef,sc,hx⟩:=hx;subst ef;replace sc:LR az _ s l f1:=sc;replace hx:_=[]:=hx;subst hx;replace ht:(p0.size+(l.length+aC az l+0))<=1048576:=ht;have hn:=sc.1;refine aM (FC _) fun _=>?_
 simp only [tT,F9,T.wp];refine⟨fun y V'=>y.2.1=p0/\dV az pT V l y.1 y.2.2.1 V',fun y _=>((l.length:Int)-(y.1:Int)).toNat,⟨((0:Int),p0,⟨none,0,0⟩,()),rfl,rfl,dV.start⟩,?_⟩
 rintro⟨(i:Int),p1,s1,u⟩ V' ⟨hp,hI⟩;replace hp:p1=p0:=hp;subst hp;have wk:dV az pT V l i s1 V':=hI;refine⟨fun aN=>?_,fun cg=>?_⟩
 ·have Vm:=wk
  obtain⟨hle,k,f0,rfl,hk,_,_⟩:=wk;have h1:k<l.length:=by
   have:(k:Int)<(s.n:Int):=by simpa using aN
   omega
  obtain⟨b1,o1,c1,fc,a1,l1,r1,_⟩:=(sc.le hle).at h1;have htx:=iN az h1;refine⟨_,a1,(by omega:(0:Int)<=(k:Int)),(by omega:(k:Int)<(s.n:Int)),c1,l1,?_⟩
  refine(pU V' c1 l[k] fc r1 (by omega)).mono ?_
  rintro V2 r ⟨bG,⟨c2,c3,c4,c5,c6,cv⟩,f2,rfl,hR,hO⟩;refine⟨fun _=>bG,(c2,c3,c4,c5,c6,()),rfl,rfl,rfl,?_⟩
  refine lI (sh:=[.s,.s,.b,.l,.i .i64]) (c:=(c2,c3,c4,c5,c6,())) Vm h1 bG (e:=az) (bytes:=72) (fx:=f2) hR hO (by kernel_rfl) (by omega) (by omega) fun s' V3 h3=>?_
  refine⟨_,rfl,(((k+1:Nat):Int),p1,s',()),by rw [kD h1 (by omega)]; rfl,⟨rfl,h3⟩,?_⟩
  show((l.length:Int)-((k+1:Nat):Int)).toNat<((l.length:Int)-(k:Int)).toNat
  omega
 have hi:¬ i<(l.length:Int):=by
  have:¬ i<(s.n:Int):=by simpa using cg
  omega
 obtain⟨hle,f3,hL,hO⟩:=wk.finG hi;exact⟨hle,s1,f3,rfl,hL,hO⟩
theorem Gc:zy prog 106 cZ:=fun V c x f hx ht=>(xX V c x f hx ht).mono (by
 rintro V' _ ⟨le,s,g,rfl,G,O⟩;have e:cZ.cB x=x.1.size+(x.2.1.length+aC az x.2.1+0):=rfl;exact⟨le,(x.1,s,()),g++[],rfl,cr.mk hx.1.2 (cC.mk (G.lr (by omega)) a8.mk),by simpa using O⟩)
theorem Gd:MT prog 105 aS:=by
 intro V s l f sc ht;have hn:=sc.1;refine aM (FA _) fun _=>?_
 simp only [tS,F9,T.wp];intro b cap spare hb hc oV;refine⟨fun y V'=>dV aS 100 V l y.2.1 y.1 V',fun y _=>((l.length:Int)-(y.2.1:Int)).toNat,⟨(⟨some ⟨b,0,none⟩,0,cap⟩,(0:Int),()),rfl,dV.sd (aa.le.refl _) hb (by rw [oV]; rfl)⟩,?_⟩
 rintro⟨s1,(i:Int),u⟩ V' hI;have wk:dV aS 100 V l i s1 V':=hI;refine⟨fun aN=>?_,fun cg=>?_⟩
 ·have Vm:=wk
  obtain⟨hle,k,f0,rfl,hk,_,_⟩:=wk;have h1:k<l.length:=by
   have:(k:Int)<(s.n:Int):=by simpa using aN
   omega
  obtain⟨b1,o1,c1,fc,a1,l1,r1,_⟩:=(sc.le hle).at h1;have htx:=iN aS h1;refine⟨_,a1,(by omega:(0:Int)<=(k:Int)),(by omega:(k:Int)<(s.n:Int)),c1,l1,?_⟩
  obtain⟨n1,m1⟩:=c1;obtain⟨en,zn⟩:=r1.1;refine(P4 V' m1 l[k].2 fc r1.2 (by have:l[k].1.size+rW.cB l[k].2=aS.cB l[k]:=rfl; omega)).mono ?_
  rintro V2 r ⟨bG,⟨c2,c3,c4,cv⟩,f2,rfl,hR,hO⟩;refine⟨fun _=>bG,(c2,c3,c4,()),rfl,rfl,rfl,?_⟩
  refine lI (sh:=[.s,.b,.l,.l]) (c:=(n1,c2,c3,c4,())) Vm h1 bG (e:=aS) (bytes:=72) (fx:=f2) ⟨⟨en,zn⟩,hR⟩ hO (by kernel_rfl) (by omega) (by omega) fun s' V3 h3=>?_
  refine⟨_,rfl,(s',((k+1:Nat):Int),()),by rw [kD h1 (by omega)]; rfl,h3,?_⟩
  show((l.length:Int)-((k+1:Nat):Int)).toNat<((l.length:Int)-(k:Int)).toNat
  omega
 have hi:¬ i<(l.length:Int):=by
  have:¬ i<(s.n:Int):=by simpa using cg
  omega
 obtain⟨hle,f3,hL,hO⟩:=wk.fin (by omega) hi;exact⟨hle,s1,f3,rfl,hL,hO⟩
theorem rl:zy prog 53 aj:=by
 rintro V ⟨c0,c1,c2,c3,cu⟩ ⟨x0,x1,x2,x3,xu⟩ f hx ht;obtain⟨f0,fr0,bL,qQ,hx⟩:=hx;subst bL;replace qQ:LR aw _ c0 x0 f0:=qQ;obtain⟨f1,vv,cj,ee,hx⟩:=hx;subst cj;replace ee:LR aS _ c1 x1 f1:=ee;obtain⟨⟨cW,F3⟩,hx⟩:=hx;replace cW:c2=x2:=cW;subst cW;replace F3:c2.size<=9223372036854775807:=F3;obtain⟨f3,FZ,lG,cS,hx⟩:=hx;subst lG;replace cS:LR az _ c3 x3 f3:=cS;replace hx:_=[]:=hx;subst hx;replace ht:(x0.length+aC aw x0+(x1.length+aC aS x1+(c2.size+(x3.length+aC az x3+0))))<=1048576:=ht;refine aM (Cl _) fun _=>?_
 simp only [qZ,T.wp];refine(Ki _ _ (x0,()) _ (cC.mk qQ a8.mk) (by show(x0.length+aC aw x0+0)<=1048576; omega)).mono ?_
 rintro V0 r ⟨iz,⟨d0,du0⟩,k0,rfl,gw,U2⟩;obtain⟨k0f0,k0r0,gq,ym,gw⟩:=gw;subst gq;replace ym:LR aw _ d0 x0 k0f0:=ym;replace gw:_=[]:=gw;subst gw;refine⟨fun _=>iz,(d0,()),rfl,?_⟩
 refine(Gd _ _ x1 _ (ee.le iz) (by omega)).mono ?_
 rintro V1 r ⟨eC,d1,k1,rfl,jw,UW⟩;refine⟨fun _=>eC,d1,rfl,?_⟩
 have hA1:=U2.append UW iz eC;have RD:=iz.trans eC;replace ym:=ym.le eC;refine(Gc _ _ (c2,x3,()) _ (cr.mk F3 (cC.mk (cS.le RD) a8.mk)) (by show(c2.size+(x3.length+aC az x3+0))<=1048576; omega)).mono ?_
 rintro V2 r ⟨bG,⟨d2,d3,du2⟩,k2,rfl,jO,J4⟩;obtain⟨⟨ki,Zb⟩,jO⟩:=jO;replace ki:d2=c2:=ki;subst ki;replace Zb:d2.size<=9223372036854775807:=Zb;obtain⟨PE,k2r3,F2,oA,jO⟩:=jO;subst F2;replace oA:LR az _ d3 x3 PE:=oA;replace jO:_=[]:=jO;subst jO;refine⟨fun _=>bG,(d2,d3,()),rfl,?_⟩
 have hA2:=hA1.append J4 RD bG;have yw:=RD.trans bG;replace ym:=ym.le bG;replace jw:=jw.le bG;exact⟨yw,(d0,d1,d2,d3,()),_,rfl,(cC.mk ym (cC.mk jw (cr.mk Zb (cC.mk oA a8.mk)))),by simpa using hA2⟩
def Zq (s:ar) (k:ar->T):T :=
 .es [] 3 fun b1=>.ra ⟨s.a,s.n,s.c⟩ 1 fun y2 =>
 .rq (one y2=true/\s.n*(8:Nat)<=(140737488355328:Nat)/\s.n<=(9223372036854775807:Nat)) <|
 .br (decide (s.n=(0:Nat))) (k ⟨some ⟨b1,0,none⟩,0,0⟩) (.fz s.n y2 3 fun b3 c3=>k ⟨some ⟨b3,0,none⟩,s.n,c3⟩)
theorem Ge {P:Program} {K:aa->List Value->Prop} {V V0:aa} {Ns:List (List LV->aa->Prop)} {s:ar} {l:List aI} {f:List Nat} {k:ar->T} (h:LR rI V0 s l f) (hl:l.length<=1048576)
  (hk:∀ V2 s' f',V.le V2->LR rI V2 s' l f'->cQ V V2 f'->(k s').wp P K V2 V0 Ns):(Zq s k).wp P K V V0 Ns:=by
 simp only [Zq,T.wp];obtain⟨h1,h2⟩:=h.rdI;have hn:=h.1;intro b1 fW;have hV1:=aG (x:=(([]:List Value),((3:TypeId),((0,0):Nat × Nat)))) fW;refine⟨l.map ag,?_,⟨h2,(by omega:s.n*8<=140737488355328),(by omega:s.n<=9223372036854775807)⟩,fun hz=>?_,fun hz b3 cap spare im hc _=>?_⟩
 ·rcases h1 with ⟨q1,_,q3⟩ | q
  ·exact .inl ⟨q1,q3⟩
  exact .inr q
 ·have EJ:s.n=0:=bq hz
  have:l=[]:=List.eq_nil_of_length_eq_zero (by omega);subst this;have Ca:=ju (V:=V) (b:=b1) (cap:=0) (o:=[]) (spare:=[]) (t:=3) fW (Nat.le_refl _) (by simp);exact hk _ _ _ hV1 Ca.1 Ca.2
 have ic:l.length<=cap:=by rw [<- hn]; exact hc
 have Ca:=ju (V:=aB V b1 (([]:List Value),((3:TypeId),((0,0):Nat × Nat)))) (b:=b3) (cap:=cap) (o:=l) (spare:=spare) (t:=3) im ic (by omega);have hV3:=aG (x:=(l.map ag++spare,((3:TypeId),((0,0):Nat × Nat)))) im;refine hk _ _ [b3] (hV1.trans hV3) ?_ (Ca.2.pre hV1)
 rw [hn]; exact Ca.1
theorem Vn:zy prog 133 rW:=by
 rintro V ⟨c0,c1,c2,cu⟩ ⟨x0,x1,x2,xu⟩ f hx ht;obtain⟨bL,hx⟩:=hx;replace bL:c0=x0:=bL;subst bL;obtain⟨f1,vv,cj,ee,hx⟩:=hx;subst cj;replace ee:LR rI _ c1 x1 f1:=ee;obtain⟨f2,Hq,cW,dU,hx⟩:=hx;subst cW;replace dU:LR rI _ c2 x2 f2:=dU;replace hx:_=[]:=hx;subst hx;replace ht:(x1.length+aC rI x1+(x2.length+aC rI x2+0))<=1048576:=ht;refine aM (TP _) fun _=>?_
 show T.wp _ _ (Zq c1 fun s1=>Zq c2 fun s2=>.ret [lS (c0,s1,s2,())]) V V []
 refine Ge ee (by omega) fun V1 s1 g1 eC L1 O1=>?_
 refine Ge dU (by omega) fun V2 s2 g2 bG L2 O2=>?_
 exact⟨eC.trans bG,(c0,s1,s2,()),_,rfl,bB.mk (cC.mk (L1.le bG) (cC.mk L2 a8.mk)),by simpa using O1.append O2 eC bG⟩
theorem P5:MT prog 79 aS:=by
 intro V s l f sc ht;have hn:=sc.1;refine aM (NZ _) fun _=>?_
 simp only [zV,F9,T.wp];intro b cap spare hb hc oV;refine⟨fun y V'=>dV aS 100 V l y.2.1 y.1 V',fun y _=>((l.length:Int)-(y.2.1:Int)).toNat,⟨(⟨some ⟨b,0,none⟩,0,cap⟩,(0:Int),()),rfl,dV.sd (aa.le.refl _) hb (by rw [oV]; rfl)⟩,?_⟩
 rintro⟨s1,(i:Int),u⟩ V' hI;have wk:dV aS 100 V l i s1 V':=hI;refine⟨fun aN=>?_,fun cg=>?_⟩
 ·have Vm:=wk
  obtain⟨hle,k,f0,rfl,hk,_,_⟩:=wk;have h1:k<l.length:=by
   have:(k:Int)<(s.n:Int):=by simpa using aN
   omega
  obtain⟨b1,o1,c1,fc,a1,l1,r1,_⟩:=(sc.le hle).at h1;have htx:=iN aS h1;refine⟨_,a1,(by omega:(0:Int)<=(k:Int)),(by omega:(k:Int)<(s.n:Int)),c1,l1,?_⟩
  obtain⟨n1,m1⟩:=c1;obtain⟨en,zn⟩:=r1.1;refine(Vn V' m1 l[k].2 fc r1.2 (by have:l[k].1.size+rW.cB l[k].2=aS.cB l[k]:=rfl; omega)).mono ?_
  rintro V2 r ⟨bG,⟨c2,c3,c4,cv⟩,f2,rfl,hR,hO⟩;refine⟨fun _=>bG,(c2,c3,c4,()),rfl,rfl,rfl,?_⟩
  refine lI (sh:=[.s,.b,.l,.l]) (c:=(n1,c2,c3,c4,())) Vm h1 bG (e:=aS) (bytes:=72) (fx:=f2) ⟨⟨en,zn⟩,hR⟩ hO (by kernel_rfl) (by omega) (by omega) fun s' V3 h3=>?_
  refine⟨_,rfl,(s',((k+1:Nat):Int),()),by rw [kD h1 (by omega)]; rfl,h3,?_⟩
  show((l.length:Int)-((k+1:Nat):Int)).toNat<((l.length:Int)-(k:Int)).toNat
  omega
 have hi:¬ i<(l.length:Int):=by
  have:¬ i<(s.n:Int):=by simpa using cg
  omega
 obtain⟨hle,f3,hL,hO⟩:=wk.fin (by omega) hi;exact⟨hle,s1,f3,rfl,hL,hO⟩
end Go.Proofs.YtahmmgiiojjhgaaGreatDoor
