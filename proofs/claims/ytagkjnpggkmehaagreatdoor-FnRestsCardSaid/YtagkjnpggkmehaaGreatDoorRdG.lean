/-
  Remainders as a text: what the text says; each list of remainders has a text of its own. No program in sight.
-/
import Derived.Test.YtagkjnpggkmehaaGreatDoorTxtC
import Derived.Test.YtagkjnpggkmehaaGreatDoorPut
import Derived.Test.YtagkjnpggkmehaaGreatDoorBytes
import Derived.Test.YtagkjnpggkmehaaGreatDoorTxt
import Derived.Lib.SplitLaws
namespace Go.Proofs.YtagkjnpggkmehaaGreatDoor
open Sx Go.RowKit
set_option maxRecDepth 100000
theorem known_size {x:ByteArray} (h:known x=true):x.size=3:=by
 unfold known at h
 cases h2:curFrom curI x 0 with
 | none=>rw [h2] at h; cases h
 | some r =>
  have hm:r∈curI:=List.mem_of_find?_eq_some h2
  have hx:(r.1.toList == x.toList)=true:=List.find?_some (p:=curHas x) h2
  have:∀ r∈curI,r.1.size=3:=by decide +kernel
  rw [← text_eq.1 hx]
  exact this r hm
def ratT (neg:Bool) (n d:List Lim):ByteArray:=if d=[(1,())] then intT neg n else (intT neg n++(⟨#[47]⟩:ByteArray))++natT d
theorem ratT_size {neg:Bool} {n d:List Lim} (h:RatOkP neg n d):(ratT neg n d).size≤800:=by
 have h1:=intT_size (neg:=neg) h.1.1.1.1
 have h2:=natT_size h.2.1.1.1
 have l1:=h.2.2.2.1
 have l2:=h.2.2.2.2.1
 unfold ratT
 split
 ·omega
 ·rw [ByteArray.size_append,ByteArray.size_append]
  show _+1+_≤_
  omega
theorem cI_isOne (V:Know) (s:SlV) (l:List Lim) (f:List Nat) (h:LR rI V s l f):CallX Tryz.prog V 167 [Sc.val .l s] (fun V' r=>V'=V∧∃ e,r=.bool e∧(e=true↔l=[(1,())])):=by
 refine CallX.of_fits Tryz.mix (fI_isOne _) fun _=>?_
 simp only [tI_isOne,T.wp]
 have hn:=h.1
 refine⟨fun h1=>?_,fun h1=>⟨by trivial,false,rfl,⟨(fun e=>by cases e),fun e=>?_⟩⟩⟩
 ·have h1':(s.n:Int)=1:=by simpa using h1
  have hl:0<l.length:=by omega
  obtain⟨b,o,a1,l1⟩:=h.int hl
  refine⟨_,a1,by omega,by omega,_,l1,by trivial,_,rfl,?_⟩
  match l,hl with
  | [x],_ =>
   obtain⟨x,u⟩:=x
   show(x == 1)=true↔_
   simp
  | _ :: _ :: _,_=>simp at hn; omega
 ·rw [e] at hn
  have:(s.n:Int)=1:=by simp at hn; omega
  simp [this] at h1
theorem cI_RatText {V:Know} (hV:HtI V) (c0:Bool) (c1 c2:SlV) (n d:List Lim) (f g:List Nat) (h:LR rI V c1 n f) (h':LR rI V c2 d g) :
  CallX Tryz.prog V 103 [qv0 (c0,c1,c2,())] (TxPost V (okT (RatOkP c0 n d) (ratT c0 n d))):=by
 refine CallX.of_fits Tryz.mix (fI_RatText _) fun _=>?_
 simp only [tI_RatText,T.wp]
 refine(cI_RatOk V c0 c1 c2 n d f g h h').mono ?_
 rintro V1 r ⟨le1,e,rfl,he⟩
 refine⟨nofun,e,rfl,fun hf=>⟨le1,by rw [okT_neg (fun k=>by rw [he.2 k] at hf; cases hf)]; rfl⟩,fun ht=>?_⟩
 have ok:=he.1 (by simpa using ht)
 rw [okT_pos ok]
 refine(cI_isOne V1 c2 d g (h'.le le1)).mono ?_
 rintro _ _ ⟨rfl,e2,rfl,hd⟩
 refine⟨nofun,_,rfl,fun h1=>?_,fun h1=>?_⟩
 ·refine(cI_IntStr (hV.le le1) c0 c1 n f (h.le le1) ok.1).mono ?_
  rintro V5 _ ⟨le5,rfl⟩
  refine⟨nofun,_,rfl,le1.trans le5,?_⟩
  unfold ratT
  rw [if_pos (hd.1 h1)]; rfl
 ·have h1':e2=false:=h1
  have hd':¬ d=[(1,())]:=fun k=>by rw [hd.2 k] at h1'; cases h1'
  refine(cI_IntStr (hV.le le1) c0 c1 n f (h.le le1) ok.1).mono ?_
  rintro V5 _ ⟨le5,rfl⟩
  have z1:=intT_size (neg:=c0) ok.1.1.1.1
  have z2:=natT_size ok.2.1.1.1
  have z3:=ok.2.2.2.1
  have z4:=ok.2.2.2.2.1
  refine⟨fun _=>le5,_,rfl,by show(intT c0 n).size+1≤_; omega,(cI_NatText (hV.le (le1.trans le5)) c2 d g (h'.le (le1.trans le5)) ok.2.1).mono ?_⟩
  rintro V6 _ ⟨le6,rfl⟩
  refine⟨fun _=>le6,_,rfl,?_,le1.trans (le5.trans le6),?_⟩
  ·rw [ByteArray.size_append]
   show(intT c0 n).size+1+(natT d).size≤_
   omega
  ·unfold ratT
   rw [if_neg hd']; rfl
theorem cI_restText {V:Know} (hV:HtI V) (x:DRest) (s s':SlV) (g g':List Nat) (h:LR rI V s x.2.2.1 g) (h':LR rI V s' x.2.2.2.1 g') (hk:known x.1=true) (ok:RatOkP x.2.1 x.2.2.1 x.2.2.2.1) :
  CallX Tryz.prog V 47 [qv2 (x.1,x.2.1,s,s',())] (TxPost V ((x.1++(⟨#[32]⟩:ByteArray))++ratT x.2.1 x.2.2.1 x.2.2.2.1)):=by
 refine CallX.of_fits Tryz.mix (fI_restText _) fun _=>?_
 simp only [tI_restText,T.wp]
 have k1:=known_size hk
 have z:=ratT_size ok
 refine⟨by show ByteArray.size x.1+1≤_; omega,(cI_RatText hV x.2.1 s s' x.2.2.1 x.2.2.2.1 g g' h h').mono ?_⟩
 rintro V1 _ ⟨le1,rfl⟩
 rw [okT_pos ok]
 refine⟨fun _=>le1,_,rfl,?_,le1,rfl⟩
 rw [ByteArray.size_append]
 show ByteArray.size x.1+1+(ratT x.2.1 x.2.2.1 x.2.2.2.1).size≤_
 omega
end Go.Proofs.YtagkjnpggkmehaaGreatDoor
namespace Go.Proofs.YtagkjnpggkmehaaGreatDoor
open Sx Go.RowKit
set_option maxRecDepth 100000
theorem rdNat_get {s:ByteArray} {o q:List Lim} {ok:Bool} (h:RdNat s o ok) (hq:NatOkP q) (e:natT q=s):ok=true∧o=q:=by
 rcases h with ⟨h1,h2,h3⟩ | ⟨_,_,h⟩
 ·exact⟨h1,natT_inj h2.1 hq.1 (h3.trans e.symm)⟩
 ·exact absurd ⟨q,hq,e⟩ h
theorem rdInt_get {s:ByteArray} {c d:Bool} {o q:List Lim} {ok:Bool} (h:RdInt s c o ok) (hq:IntOkP d q) (e:intT d q=s):ok=true∧c=d∧o=q:=by
 rcases h with ⟨h1,h2,h3⟩ | ⟨_,_,_,h⟩
 ·exact⟨h1,intT_inj h2.1.1 hq.1.1 (h3.trans e.symm)⟩
 ·exact absurd ⟨d,q,hq,e⟩ h
abbrev RatX (x:DRat):Prop:=RatOkP x.1 x.2.1 x.2.2.1
abbrev ratX (x:DRat):ByteArray:=ratT x.1 x.2.1 x.2.2.1
abbrev noR:DRat:=(false,[],[],())
abbrev one1:List Lim:=[((1:Int),())]
theorem no47 {e:Bool} {o:List Lim} (h:Can o):(47:UInt8) ∉ bl (intT e o):=fun k=>by
 rcases intT_bytes h 47 k with k | k
 ·exact absurd k (by decide)
 ·exact absurd k (by decide)
theorem no47n {o:List Lim} (h:Can o):(47:UInt8) ∉ bl (natT o):=fun k=>absurd (natT_dg h 47 k) (by decide)
theorem rat_cut {x:DRat} (h:RatX x) {s:ByteArray} (e:ratX x=s):(x.2.2.1=one1∧cutB 47 s=[(intT x.1 x.2.1,())])∨(x.2.2.1≠one1∧cutB 47 s=[(intT x.1 x.2.1,()),(natT x.2.2.1,())]):=by
 subst e
 by_cases k:x.2.2.1=one1
 ·refine .inl ⟨k,cutB_eq ?_ (by simp) fun y hy=>?_⟩
  ·show bl (ratT x.1 x.2.1 x.2.2.1)=bl (intT x.1 x.2.1)
   unfold ratT
   rw [if_pos k]
  ·obtain rfl:y=(intT x.1 x.2.1,()):=by simpa using hy
   exact no47 h.1.1.1
 ·refine .inr ⟨k,cutB_eq ?_ (by simp) fun y hy=>?_⟩
  ·show bl (ratT x.1 x.2.1 x.2.2.1)=bl (intT x.1 x.2.1)++47 :: bl (natT x.2.2.1)
   unfold ratT
   rw [if_neg k,bl_append,bl_append]
   show(bl (intT x.1 x.2.1)++[47])++bl (natT x.2.2.1)=_
   simp
  ·rcases List.mem_cons.1 hy with rfl | hy
   ·exact no47 h.1.1.1
   ·obtain rfl:y=(natT x.2.2.1,()):=by simpa using hy
    exact no47n h.2.1.1
theorem rat_one {s p:ByteArray} (h:cutB 47 s=[(p,())]):s=p:=by
 have:=cutB_join 47 s
 rw [h] at this
 exact bl_inj this
theorem rat_two {s p q:ByteArray} (h:cutB 47 s=[(p,()),(q,())]):s=p++(⟨#[47]⟩:ByteArray)++q:=by
 have:=cutB_join 47 s
 rw [h] at this
 refine bl_inj (this.trans ?_)
 rw [bl_append,bl_append]
 show bl p++47 :: bl q=(bl p++[47])++bl q
 simp
theorem ratX_inj {x y:DRat} (h:RatX x) (k:RatX y) (e:ratX x=ratX y):x=y:=by
 obtain⟨x0,x1,x2,xu⟩:=x
 obtain⟨y0,y1,y2,yu⟩:=y
 have fin:intT x0 x1=intT y0 y1→x2=y2→(x0,x1,x2,xu)=(y0,y1,y2,yu):=fun a b=>by
  obtain⟨rfl,rfl⟩:=intT_inj h.1.1.1 k.1.1.1 a
  subst b; rfl
 rcases rat_cut h rfl with ⟨a1,a2⟩ | ⟨a1,a2⟩
 ·rcases rat_cut k e.symm with ⟨b1,b2⟩ | ⟨b1,b2⟩
  ·rw [a2] at b2
   simp only [List.cons.injEq,Prod.mk.injEq,and_true] at b2
   exact fin b2 (a1.trans b1.symm)
  ·rw [a2] at b2; simp at b2
 ·rcases rat_cut k e.symm with ⟨b1,b2⟩ | ⟨b1,b2⟩
  ·rw [a2] at b2; simp at b2
  ·rw [a2] at b2
   simp only [List.cons.injEq,Prod.mk.injEq,and_true] at b2
   exact fin b2.1 (natT_inj h.2.1.1 k.2.1.1 b2.2)
def RdRat (s:ByteArray) (x:DRat) (ok:Bool):Prop:=(ok=true∧RatX x∧ratX x=s)∨(ok=false∧x=noR∧¬ ∃ y,RatX y∧ratX y=s)
abbrev RatRd (V:Know) (s:ByteArray):Know→Value→Prop:=fun V' r=>V.le V'∧∃ c x f ok,r=.tuple #[qv0 c,.bool ok]∧rRat.R V' c x f∧Own V V' f∧RdRat s x ok
theorem rat_mkR {V:Know} {c0:Bool} {s1 s2:SlV} {n d:List Lim} {f g:List Nat} (h:LR rI V s1 n f) (k:LR rI V s2 d g):rRat.R V (c0,s1,s2,()) (c0,n,d,()) (f++(g++[])):=⟨rfl,f,g++[],rfl,h,g,[],rfl,k,rfl⟩
theorem noR_R {V:Know}:rRat.R V (false,⟨none,0,0⟩,⟨none,0,0⟩,()) noR []:=rat_mkR (f:=[]) (g:=[]) lr_none lr_none
theorem rat_no {V V':Know} {s:ByteArray} (le:V.le V') (h:¬ ∃ y,RatX y∧ratX y=s):RatRd V s V' (packed [qv0 (false,⟨none,0,0⟩,⟨none,0,0⟩,()),.bool false]) :=
 ⟨le,_,noR,[],false,rfl,noR_R,Own.nil,.inr ⟨rfl,rfl,h⟩⟩
theorem LR.at0t {V:Know} {t:SlV} {l:List Tx} {f:List Nat} (h:LR rString V t l f) {p:Tx} {r:List Tx} (e:l=p :: r):∃ b o,t.a=some ⟨b,o,none⟩∧loadV V ((⟨b,o,none⟩:Addr).add (Int.toNat 0*1)) 1=some [.string p.1]:=by
 subst e
 obtain⟨⟨b,o,a1,l1⟩,_⟩:=h.txt (i:=0) (by simp)
 exact⟨b,o,a1,l1⟩
theorem LR.at1t {V:Know} {t:SlV} {l:List Tx} {f:List Nat} (h:LR rString V t l f) {p q:Tx} {r:List Tx} (e:l=p :: q :: r):∃ b o,t.a=some ⟨b,o,none⟩∧loadV V ((⟨b,o,none⟩:Addr).add (Int.toNat 1*1)) 1=some [.string q.1]:=by
 subst e
 obtain⟨⟨b,o,a1,l1⟩,_⟩:=h.txt (i:=1) (by simp)
 exact⟨b,o,a1,l1⟩
theorem one_R {V:Know} {b c:Nat} {sp:List Value} (hc:1≤c):LR rI (kset V b ([Value.int .i64 1]++sp,(3,(0,0)))) ⟨some ⟨b,0,none⟩,1,c⟩ one1 [b] :=
 lr_cells (l:=one1) kset_same hc (by decide)
theorem cut_cases (c:UInt8) (s:ByteArray):(∃ p,cutB c s=[p])∨(∃ p q,cutB c s=[p,q])∨∃ p q r l,cutB c s=p :: q :: r :: l:=by
 have:=cutB_pos c s
 match h:cutB c s with
 | []=>rw [h] at this; simp at this
 | [p]=>exact .inl ⟨p,rfl⟩
 | [p,q]=>exact .inr (.inl ⟨p,q,rfl⟩)
 | p :: q :: r :: l=>exact .inr (.inr ⟨p,q,r,l,rfl⟩)
theorem cI_TextRat (V:Know) (s:ByteArray) (hs:s.size≤1048576):CallX Tryz.prog V 95 [.string s] (RatRd V s):=by
 refine CallX.of_fits Tryz.mix (fI_TextRat _) fun _=>?_
 simp only [tI_TextRat,T.wp]
 refine(cI_CutAt V s 47 hs).mono ?_
 rintro V1 _ ⟨le1,t,f1,rfl,L1,_⟩
 have hz:∀ y∈cutB 47 s,y.1.size≤9223372036854775807:=fun y hy=>by have:=cutB_size hy; omega
 refine⟨nofun,t,rfl,fun b2 c2 sp hb2 hc2 _=>?_⟩
 have le2:=kset_le (x:=([Value.int .i64 1]++sp,((3:TypeId),((0,0):Nat × Nat)))) hb2
 have M1:=one_R (V:=V1) (b:=b2) (sp:=sp) hc2
 have own1:Own V1 (kset V1 b2 ([Value.int .i64 1]++sp,(3,(0,0)))) [b2]:=own_one hb2 kset_same
 revert le2 M1 own1
 generalize kset V1 b2 ([Value.int .i64 1]++sp,(3,(0,0)))=V2
 intro le2 M1 own1
 have l2:=le1.trans le2
 have L2:=L1.le le2
 have hn:=L2.1
 obtain⟨p,r,hpr⟩:∃ p r,cutB 47 s=p :: r:=by
  rcases cut_cases 47 s with ⟨p,h⟩ | ⟨p,q,h⟩ | ⟨p,q,r,l,h⟩ <;> exact⟨_,_,h⟩
 have hlen:t.n=r.length+1:=by rw [hn,hpr]; rfl
 obtain⟨b,o,a1,ld1⟩:=L2.at0t hpr
 refine⟨_,a1,by omega,by omega,p.1,ld1,(cI_StrInt V2 p.1 (hz p (by rw [hpr]; simp))).mono ?_⟩
 rintro V3 _ ⟨le3,e,tn,n,fn,ok,rfl,L3,O3,k3⟩
 have l3:=l2.trans le3
 have first:∀ {y:DRat},RatX y→ratX y=s→ok=true∧e=y.1∧n=y.2.1:=fun {y} hy e=>by
  refine rdInt_get k3 hy.1 ?_
  rcases rat_cut hy e with ⟨_,h⟩ | ⟨_,h⟩
  ·rw [hpr] at h
   simp only [List.cons.injEq] at h
   rw [h.1]
  ·rw [hpr] at h
   simp only [List.cons.injEq] at h
   rw [h.1]
 refine⟨nofun,((e,tn,()),ok,()),rfl,fun hf=>rat_no l3 fun⟨y,h1,h2⟩=>?_,fun ht=>⟨fun h2=>rat_no l3 fun⟨y,h1,h3⟩=>?_,fun h2=>⟨fun heq=>?_,fun hne=>?_⟩⟩⟩
 ·obtain⟨h3,_⟩:=first h1 h2
  rw [h3] at hf; cases hf
 ·have h2':(t.n:Int) > 2:=of_decide_eq_true h2
  rcases rat_cut h1 h3 with ⟨_,h⟩ | ⟨_,h⟩
  ·rw [hpr] at h
   have:=congrArg List.length h
   simp only [List.length_cons,List.length_nil] at this
   omega
  ·rw [hpr] at h
   have:=congrArg List.length h
   simp only [List.length_cons,List.length_nil] at this
   omega
 all_goals
  have okt:ok=true:=by simpa using ht
  subst okt
  have kI:IntOkP e n∧intT e n=p.1:=by
   rcases k3 with ⟨_,a,b⟩ | ⟨a,_⟩
   ·exact⟨a,b⟩
   ·cases a
 ·have heq':(t.n:Int)=2:=by simpa using heq
  obtain⟨q,rfl⟩:=List.length_eq_one_iff.1 (show r.length=1 by omega)
  have hlen:t.n=2:=hlen
  obtain⟨b',o',a1',ld1'⟩:=(L2.le le3).at1t hpr
  refine⟨_,a1',by omega,by omega,q.1,ld1',(cI_TextNat V3 q.1 (hz q (by rw [hpr]; simp))).mono ?_⟩
  rintro V4 _ ⟨le4,td,d,fd,ok2,rfl,L4,O4,k4⟩
  have l4:=l3.trans le4
  have second:∀ {y:DRat},RatX y→ratX y=s→y.2.2.1≠one1∧ok2=true∧d=y.2.2.1:=fun {y} hy e=>by
   rcases rat_cut hy e with ⟨_,h⟩ | ⟨h0,h⟩
   ·rw [hpr] at h; simp at h
   ·rw [hpr] at h
    simp only [List.cons.injEq,and_true] at h
    exact⟨h0,rdNat_get k4 hy.2.1 (by rw [h.2])⟩
  refine⟨nofun,(td,ok2,()),rfl,fun hf=>rat_no l4 fun⟨y,h1,h2⟩=>?_,fun ht2=>(cI_isOne V4 td d fd L4).mono ?_⟩
  ·obtain⟨_,h3,_⟩:=second h1 h2
   rw [h3] at hf; cases hf
  rintro V5 _ ⟨rfl,e5,rfl,he5⟩
  have okt2:ok2=true:=by simpa using ht2
  subst okt2
  have kN:NatOkP d∧natT d=q.1:=by
   rcases k4 with ⟨_,a,b⟩ | ⟨a,_⟩
   ·exact⟨a,b⟩
   ·cases a
  refine⟨nofun,e5,rfl,fun h1=>rat_no l4 fun⟨y,g1,g2⟩=>?_,fun h1=>(cI_RatOk V5 e tn td n d fn fd (L3.le le4) L4).mono ?_⟩
  ·obtain⟨h3,_,h4⟩:=second g1 g2
   exact h3 (h4.symm.trans (he5.1 h1))
  rintro V6 _ ⟨le6,e6,rfl,he6⟩
  have l6:=l4.trans le6
  refine⟨nofun,e6,rfl,fun hf=>rat_no l6 fun⟨y,g1,g2⟩=>?_,fun ht6=>?_⟩
  ·obtain⟨_,h4,h5⟩:=first g1 g2
   obtain⟨_,_,h6⟩:=second g1 g2
   subst h4 h5 h6
   rw [he6.2 g1] at hf; cases hf
  ·have okr:=he6.1 (by simpa using ht6)
   have hd1:d≠one1:=fun k=>by rw [he5.2 k] at h1; cases h1
   refine⟨l6,(e,tn,td,()),(e,n,d,()),fn++(fd++[]),true,rfl,rat_mkR ((L3.le le4).le le6) (L4.le le6),?_,.inl ⟨rfl,okr,?_⟩⟩
   ·rw [List.append_nil]
    exact((O3.pre l2).append O4 l3 le4).post le6
   ·show ratT e n d=s
    unfold ratT
    rw [if_neg hd1,kI.2,kN.2]
    exact(rat_two hpr).symm
 ·have hne':¬ (t.n:Int)=2:=by simpa using hne
  have h2':¬ (t.n:Int) > 2:=of_decide_eq_false h2
  have hr:r=[]:=List.eq_nil_of_length_eq_zero (by omega)
  subst hr
  refine(cI_RatOk V3 e tn ⟨some ⟨b2,0,none⟩,1,c2⟩ n one1 fn [b2] L3 (M1.le le3)).mono ?_
  rintro V6 _ ⟨le6,e6,rfl,he6⟩
  have l6:=l3.trans le6
  refine⟨nofun,e6,rfl,fun hf=>rat_no l6 fun⟨y,g1,g2⟩=>?_,fun ht6=>?_⟩
  ·obtain⟨_,h4,h5⟩:=first g1 g2
   rcases rat_cut g1 g2 with ⟨h6,_⟩ | ⟨_,h⟩
   ·have:RatOkP e n one1:=by rw [h4,h5,← h6]; exact g1
    rw [he6.2 this] at hf; cases hf
   ·rw [hpr] at h; simp at h
  ·have okr:=he6.1 (by simpa using ht6)
   refine⟨l6,(e,tn,⟨some ⟨b2,0,none⟩,1,c2⟩,()),(e,n,one1,()),fn++([b2]++[]),true,rfl,rat_mkR (L3.le le6) ((M1.le le3).le le6),?_,.inl ⟨rfl,okr,?_⟩⟩
   ·rw [List.append_nil]
    exact Own.perm (((own1.pre le1).append O3 l2 le3).post le6) List.perm_append_comm
   ·show ratT e n one1=s
    unfold ratT
    rw [if_pos rfl,kI.2]
    exact(rat_one hpr).symm
end Go.Proofs.YtagkjnpggkmehaaGreatDoor
namespace Go.Proofs.YtagkjnpggkmehaaGreatDoor
open Sx Go.RowKit
set_option maxRecDepth 100000
def cellT (x:Tx):Value:=.string x.1
theorem els_txt_eq {V:Know}:∀ {cs l:List Tx} {f:List Nat},Els rString V cs l f→cs=l∧f=[]
 | [],[],_,h=>⟨rfl,h⟩
 | (c,()) :: cs,(x,()) :: l,_,⟨f,g,rfl,h1,h2⟩=>by
  obtain⟨rfl,rfl⟩:=els_txt_eq h2
  have e1:c=x:=h1.1.1
  have e2:f=[]:=h1.2
  subst e1; subst e2
  exact⟨rfl,rfl⟩
theorem flat_txt:∀ o:List Tx,o.flatMap (Scs.vals [.s])=o.map cellT
 | []=>rfl
 | x :: o=>by rw [List.flatMap_cons,flat_txt o]; rfl
theorem txt_obj {pre post:List Value} {cs:List Tx} {t:KTy} {x:Tx} (hx:x∈cs):objOf (pre++(cs.map cellT++post)) t=.cells (pre++(cs.map cellT++post)).toArray t.1 t.2:=by
 unfold objOf
 split
 ·rename_i es he
  exfalso
  have hm:cellT x∈pre++(cs.map cellT++post):=List.mem_append.2 (.inr (List.mem_append.2 (.inl (List.mem_map_of_mem hx))))
  rw [he] at hm
  simp [cellT] at hm
 ·rfl
theorem cI_SJoin (V:Know) (s:SlV) (l:List Tx) (f:List Nat) (b:ByteArray) (h:LR rString V s l f) (hs:sumT l+l.length*b.size≤1099511627776) (hl:l.length≤1099511627776) :
  CallX Tryz.prog V 104 [Sc.val .l s,.string b] (fun V' r=>V'=V∧r=.string (joinT l b)):=by
 have he:Sx.Enters Tryz.prog 104:=⟨_,Tryz.func104,by kernel_rfl,by kernel_rfl⟩
 obtain⟨hn,hc,h63,⟨h0,_,_⟩ | ⟨bk,pre,post,t,fps,cs,ha,hV,hE,_⟩⟩:=h
 ·have:l=[]:=List.eq_nil_of_length_eq_zero (by omega)
  subst this
  refine CallX.of_calls he fun w _=>?_
  have k:=Tryz.strings_Join_none s.a s.c b w
  have e:([Sc.val .l s,.string b]:List Value).toArray=#[.slice s.a 0 s.c,.string b]:=by
   show #[Value.slice s.a s.n s.c,_]=_
   rw [h0]
  rw [e]
  refine k.mono ?_
  rintro e w' ⟨rfl,rfl⟩
  exact⟨rfl,Below.refl _ _⟩
 ·obtain⟨rfl,_⟩:=els_txt_eq hE
  rw [flat_txt] at hV
  by_cases hemp:cs=[]
  ·subst hemp
   refine CallX.of_calls he fun w _=>?_
   have k:=Tryz.strings_Join_none s.a s.c b w
   have h0:s.n=0:=hn
   have e:([Sc.val .l s,.string b]:List Value).toArray=#[.slice s.a 0 s.c,.string b]:=by
    show #[Value.slice s.a s.n s.c,_]=_
    rw [h0]
   rw [e]
   refine k.mono ?_
   rintro e w' ⟨rfl,rfl⟩
   exact⟨rfl,Below.refl _ _⟩
  refine CallX.of_calls he fun w hw=>?_
  have hw':=hw _ _ _ hV
  obtain⟨x0,hx0⟩:∃ x,x∈cs:=List.exists_mem_of_ne_nil cs hemp
  rw [txt_obj hx0] at hw'
  have hlt:bk<w.heap.size:=(Array.getElem?_eq_some_iff.1 hw').1
  have hj:=joinT_size cs b
  have hlen:(Go.Lib.join ((cs.map (·.1)).map (·.data.toList)) b.data.toList).length≤140737488355328:=by
   have e:(joinT cs b).size=(Go.Lib.join ((cs.map (·.1)).map (·.data.toList)) b.data.toList).length:=by
    show(Go.Lib.join (bytesL cs) b.data.toList).toArray.size=_
    rw [List.map_map]
    simp [bytesL]
    rfl
   rw [← e]
   omega
  have k:=Tryz.strings_Join bk pre.length s.c (cs.map (·.1)) b w (fun j x hx=>?_) hlt (by rw [List.length_map]; omega) (by rw [List.length_map]; omega) hlen
  ·have e:([Sc.val .l s,.string b]:List Value).toArray=#[.slice (some ⟨bk,pre.length,none⟩) (cs.map (·.1)).length s.c,.string b]:=by
    show #[Value.slice s.a s.n s.c,_]=_
    rw [ha,hn,List.length_map]
   rw [e]
   refine k.mono ?_
   rintro e w' ⟨rfl,hb⟩
   refine⟨?_,hb⟩
   have:joinT cs b=⟨(Go.Lib.join ((cs.map (·.1)).map (·.data.toList)) b.data.toList).toArray⟩:=by
    unfold joinT bytesL
    rw [List.map_map]
    rfl
   rw [this]
  ·unfold World.cell?
   rw [hw']
   have hjl:j<cs.length:=by
    by_cases q:j<cs.length
    ·exact q
    ·rw [List.getElem?_eq_none (by rw [List.length_map]; omega)] at hx; cases hx
   have hx':cs[j].1=x:=by
    rw [List.getElem?_map,List.getElem?_eq_getElem hjl] at hx
    simpa using hx
   have q:(pre++(cs.map cellT++post))[pre.length+j]?=some (.string x):=by
    rw [List.getElem?_append_right (by omega),Nat.add_sub_cancel_left,List.getElem?_append_left (by rw [List.length_map]; exact hjl),List.getElem?_map,List.getElem?_eq_getElem hjl]
    show some (Value.string cs[j].1)=_
    rw [hx']
   simpa using q
theorem cI_Join (V:Know) (s:SlV) (l:List Tx) (f:List Nat) (b:ByteArray) (h:LR rString V s l f) (hs:sumT l+l.length*b.size≤1099511627776) (hl:l.length≤1099511627776) :
  CallX Tryz.prog V 48 [Sc.val .l s,.string b] (fun V' r=>V'=V∧r=.string (joinT l b)):=by
 refine CallX.of_fits Tryz.mix (fI_Join _ _) fun _=>?_
 simp only [tI_Join,T.wp]
 refine(cI_SJoin V s l f b h hs hl).mono ?_
 rintro V1 r ⟨rfl,rfl⟩
 exact⟨nofun,_,rfl,by trivial,rfl⟩
end Go.Proofs.YtagkjnpggkmehaaGreatDoor
namespace Go.Proofs.YtagkjnpggkmehaaGreatDoor
open Sx Go.RowKit
set_option maxRecDepth 100000
theorem pre_one (c b:UInt8) (l:List UInt8):[c].isPrefixOf (b :: l)=(c == b):=by simp [List.isPrefixOf]
theorem index_at1 {c:UInt8} {b:List UInt8}:∀ {a:List UInt8},c ∉ a→Go.Lib.index (a++c :: b) [c]=a.length
 | [],_=>by rw [List.nil_append,Go.Lib.index,pre_one]; simp
 | x :: r,h=>by
  have h1:(c == x)=false:=by
   cases hq:c == x with
   | false=>rfl
   | true=>exact absurd (by simp [eq_of_beq hq]) h
  rw [List.cons_append,Go.Lib.index,pre_one,h1,index_at1 fun k=>h (List.mem_cons_of_mem _ k)]
  have:((r.length:Int) == -1)=false:=beq_eq_false_iff_ne.2 (by omega)
  simp [this]
theorem cut_one {c:UInt8} {a b:List UInt8} (h:c ∉ a):Go.Lib.cut (a++c :: b) [c]=(a,b,true):=by
 unfold Go.Lib.cut
 rw [index_at1 h,if_pos (by omega),Int.toNat_natCast]
 simp
theorem pre_two (c d b:UInt8) (l:List UInt8) (h:c≠b):[c,d].isPrefixOf (b :: l)=false:=by
 simp [List.isPrefixOf,h]
theorem index_none2 {c d:UInt8}:∀ {a:List UInt8},c ∉ a→Go.Lib.index a [c,d]=-1
 | [],_=>by simp [Go.Lib.index]
 | x :: r,h=>by
  rw [Go.Lib.index,pre_two c d x r (fun e=>h (by simp [e])),index_none2 fun k=>h (List.mem_cons_of_mem _ k)]
  simp
theorem index_at2 {c d:UInt8} {b:List UInt8}:∀ {a:List UInt8},c ∉ a→Go.Lib.index (a++c :: d :: b) [c,d]=a.length
 | [],_=>by rw [List.nil_append,Go.Lib.index]; simp [List.isPrefixOf]
 | x :: r,h=>by
  rw [List.cons_append,Go.Lib.index,pre_two c d x _ (fun e=>h (by simp [e])),index_at2 fun k=>h (List.mem_cons_of_mem _ k)]
  have:((r.length:Int) == -1)=false:=beq_eq_false_iff_ne.2 (by omega)
  simp [this]
theorem split_join {c d:UInt8}:∀ {l:List (List UInt8)},l≠[]→(∀ x∈l,c ∉ x)→Go.Lib.splitK [c,d] 0 (Go.Lib.count (Go.Lib.join l [c,d]) [c,d]) (Go.Lib.join l [c,d])=l
 | [],h,_=>absurd rfl h
 | [x],_,h=>by
  rw [Go.Lib.join_one,Go.Lib.count_miss (index_none2 (h x (by simp)))]
  rfl
 | x :: y :: r,_,h=>by
  have hx:=h x (by simp)
  have ih:=split_join (c:=c) (d:=d) (l:=y :: r) (by simp) fun z hz=>h z (List.mem_cons_of_mem _ hz)
  have e:Go.Lib.join (x :: y :: r) [c,d]=x++c :: d :: Go.Lib.join (y :: r) [c,d]:=by
   rw [Go.Lib.join_cons,Go.Lib.join_cons]
   simp [Go.Lib.joinTail]
  have hi:=index_at2 (d:=d) (b:=Go.Lib.join (y :: r) [c,d]) hx
  have hd:(x++c :: d :: Go.Lib.join (y :: r) [c,d]).drop (x.length+[c,d].length)=Go.Lib.join (y :: r) [c,d]:=by
   rw [← List.drop_drop,List.drop_left]; rfl
  rw [e,Go.Lib.count_hit (by simp) hi,hd,Nat.add_comm,Go.Lib.splitK,hi,if_neg (by rw [beq_eq_false_iff_ne.2 (show((x.length:Nat):Int)≠-1 by omega)]; simp),Int.toNat_natCast,hd,ih]
  simp
theorem known_space {c:ByteArray} (h:known c=true):(32:UInt8) ∉ bl c∧(59:UInt8) ∉ bl c∧(10:UInt8) ∉ bl c:=by
 have key:∀ r∈curI,(32:UInt8) ∉ bl r.1∧(59:UInt8) ∉ bl r.1∧(10:UInt8) ∉ bl r.1:=by decide +kernel
 obtain⟨r,hr,e⟩:=List.mem_map.1 (known_mem h)
 rw [← e]
 exact key r hr
theorem ratX_bytes {x:DRat} (h:RatX x):∀ c∈bl (ratX x),NumB c∨c=47:=fun c hc=>by
 have h1:bl (ratX x)=bl (ratT x.1 x.2.1 x.2.2.1):=rfl
 rw [h1] at hc
 unfold ratT at hc
 split at hc
 ·exact .inl (intT_bytes h.1.1.1 c hc)
 ·rw [bl_append,bl_append] at hc
  rcases List.mem_append.1 hc with k | k
  ·rcases List.mem_append.1 k with k | k
   ·exact .inl (intT_bytes h.1.1.1 c k)
   ·exact .inr (by simpa using k)
  ·exact .inl (.inr (natT_dg h.2.1.1 c k))
theorem ratX_no {x:DRat} (h:RatX x):(32:UInt8) ∉ bl (ratX x)∧(59:UInt8) ∉ bl (ratX x)∧(10:UInt8) ∉ bl (ratX x):=by
 refine⟨fun k=>?_,fun k=>?_,fun k=>?_⟩
 all_goals
  rcases ratX_bytes h _ k with (k | k) | k
  ·exact absurd k (by decide)
  ·exact absurd k (by decide)
  ·exact absurd k (by decide)
abbrev restX (x:DRest):ByteArray:=(x.1++(⟨#[32]⟩:ByteArray))++ratX x.2
abbrev ResP (x:DRest):Prop:=known x.1=true∧RatX x.2
theorem restX_bl (x:DRest):bl (restX x)=bl x.1++32 :: bl (ratX x.2):=by
 rw [bl_append,bl_append]
 show(bl x.1++[32])++bl (ratX x.2)=_
 simp
theorem restX_no {x:DRest} (h:ResP x):(59:UInt8) ∉ bl (restX x)∧(10:UInt8) ∉ bl (restX x):=by
 rw [restX_bl]
 have h1:=known_space h.1
 have h2:=ratX_no h.2
 refine⟨fun k=>?_,fun k=>?_⟩
 ·rcases List.mem_append.1 k with k | k
  ·exact h1.2.1 k
  ·rcases List.mem_cons.1 k with k | k
   ·exact absurd k (by decide)
   ·exact h2.2.1 k
 ·rcases List.mem_append.1 k with k | k
  ·exact h1.2.2 k
  ·rcases List.mem_cons.1 k with k | k
   ·exact absurd k (by decide)
   ·exact h2.2.2 k
theorem restX_inj {x y:DRest} (h:ResP x) (k:ResP y) (e:restX x=restX y):x=y:=by
 have h1:=congrArg bl e
 rw [restX_bl,restX_bl] at h1
 have h2:=cut_one (b:=bl (ratX x.2)) (known_space h.1).1
 have h3:=cut_one (b:=bl (ratX y.2)) (known_space k.1).1
 rw [h1,h3] at h2
 simp only [Prod.mk.injEq,and_true] at h2
 exact Prod.ext (bl_inj h2.1.symm) (ratX_inj h.2 k.2 (bl_inj h2.2.symm))
def restsX (l:List DRest):ByteArray:=joinT (l.map fun x=>(restX x,())) ⟨#[59,32]⟩
theorem rests_ok {l:List DRest} (h:RestsOkP l):∀ x∈l,ResP x:=fun x hx=>by
 obtain⟨i,hi,rfl⟩:=List.getElem_of_mem hx
 obtain⟨_,h1,h2,_⟩:=h i hi
 exact⟨h1,h2⟩
theorem restsX_bl (l:List DRest):bl (restsX l)=Go.Lib.join (l.map fun x=>bl (restX x)) [59,32]:=by
 unfold restsX joinT bytesL
 rw [List.map_map]
 exact bl_of _
def splitX (s:ByteArray):List ByteArray:=Go.Lib.splitB ⟨#[59,32]⟩ 0 (Go.Lib.countB s ⟨#[59,32]⟩) s
theorem splitX_bl (s:ByteArray):(splitX s).map bl=Go.Lib.splitK [59,32] 0 (Go.Lib.count (bl s) [59,32]) (bl s):=Go.Lib.splitB_data _ _ _ _
theorem splitX_rests {l:List DRest} (h:RestsOkP l) (h0:l≠[]):splitX (restsX l)=l.map restX:=by
 have e:=splitX_bl (restsX l)
 rw [restsX_bl,split_join (by simpa using h0) (fun y hy=>by
  obtain⟨x,hx,rfl⟩:=List.mem_map.1 hy
  exact(restX_no (rests_ok h x hx)).1)] at e
 have key:∀ {a b:List ByteArray},a.map bl=b.map bl→a=b:=by
  intro a
  induction a with
  | nil=>intro b e; cases b <;> simp at e ⊢
  | cons x r ih =>
   intro b e
   cases b with
   | nil=>simp at e
   | cons y q =>
    simp only [List.map_cons,List.cons.injEq] at e
    rw [bl_inj e.1,ih e.2]
 refine key (e.trans ?_)
 rw [List.map_map]; rfl
theorem restsX_nil {l:List DRest} (h:RestsOkP l):(restsX l).size=0↔l=[]:=by
 constructor
 ·intro k
  cases l with
  | nil=>rfl
  | cons x r =>
   exfalso
   have h1:=bl_len (restsX (x :: r))
   rw [k,restsX_bl,List.map_cons,Go.Lib.join_cons,restX_bl] at h1
   simp at h1
 ·rintro rfl; rfl
theorem map_inj {l m:List DRest} (h:∀ x∈l,ResP x) (k:∀ x∈m,ResP x) (e:l.map restX=m.map restX):l=m:=by
 induction l generalizing m with
 | nil=>cases m <;> simp at e ⊢
 | cons x r ih =>
  cases m with
  | nil=>simp at e
  | cons y q =>
   simp only [List.map_cons,List.cons.injEq] at e
   rw [restX_inj (h x (by simp)) (k y (by simp)) e.1,ih (fun z hz=>h z (by simp [hz])) (fun z hz=>k z (by simp [hz])) e.2]
theorem restsX_inj {l m:List DRest} (h:RestsOkP l) (k:RestsOkP m) (e:restsX l=restsX m):l=m:=by
 by_cases h0:l=[]
 ·have h1:=(restsX_nil h).2 h0
  rw [e] at h1
  rw [h0,(restsX_nil k).1 h1]
 ·have h1:m≠[]:=fun e1=>h0 ((restsX_nil h).1 (by rw [e]; exact(restsX_nil k).2 e1))
  have h2:=splitX_rests h h0
  rw [e,splitX_rests k h1] at h2
  exact(map_inj (rests_ok k) (rests_ok h) h2).symm
def RdRests (s:ByteArray) (l:List DRest) (ok:Bool):Prop:=(ok=true∧RestsOkP l∧restsX l=s)∨(ok=false∧l=[]∧¬ ∃ m,RestsOkP m∧restsX m=s)
theorem rdRests_inj {s:ByteArray} {l m:List DRest} {a b:Bool} (h:RdRests s l a) (k:RdRests s m b):l=m∧a=b:=by
 rcases h with ⟨h1,h2,h3⟩ | ⟨h1,h2,h3⟩
 ·rcases k with ⟨k1,k2,k3⟩ | ⟨k1,k2,k3⟩
  ·exact⟨restsX_inj h2 k2 (h3.trans k3.symm),h1.trans k1.symm⟩
  ·exact absurd ⟨l,h2,h3⟩ k3
 ·rcases k with ⟨k1,k2,k3⟩ | ⟨k1,k2,k3⟩
  ·exact absurd ⟨m,k2,k3⟩ h3
  ·exact⟨h2.trans k2.symm,h1.trans k1.symm⟩
end Go.Proofs.YtagkjnpggkmehaaGreatDoor
