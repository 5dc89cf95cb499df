/-
  The walk of the law: the program's Rebuilt returns what the reference's returns.
-/
import Derived.Test.YtahmmgiiojjhgaaGreatDoorDcI
import Derived.Test.YtahmmgiiojjhgaaGreatDoorCopy
import Derived.Test.YtahmmgiiojjhgaaGreatDoorCmdV
import Derived.Lib.SplitLaws
import Derived.Test.YtahmmgiiojjhgaaGreatDoorWr
namespace Go.Proofs.YtahmmgiiojjhgaaGreatDoor
open Go.Proofs.Tryz (prog)
open Go.IntKind
open Sx
set_option maxRecDepth 100000
theorem Le {s:ByteArray} {m:Bool} {l:List aI} {q:Int} (a:cG m l q) (b:dF m l q=s):0<s.size/\(de s 0 == 45)=m:=by
 obtain⟨c,r,e,hc⟩:=Es a.1.1.1 a.2.1 a.2.2.1 a.2.2.2;have hl:=bD s;cases m with
 | true =>
  have e1:bl s=45 :: bl (o9 l q):=by rw [<- b]; exact uY l q
  have hp:0<s.size:=by rw [<- hl,e1]; simp
  exact⟨hp,by rw [(GL hp).2 ⟨_,e1⟩]; rfl⟩
 | false =>
  have e1:s=o9 l q:=by rw [<- b]; exact uZ l q
  have e2:bl s=c :: r:=by rw [e1]; exact e
  have hp:0<s.size:=by rw [<- hl,e2]; simp
  refine⟨hp,?_⟩
  cases hk:(de s 0 == 45) with
  | false=>rfl
  | true =>
   obtain⟨r',hr⟩:=(GL hp).1 (by simpa using hk);rw [e2] at hr;simp only [List.cons.injEq] at hr;rw [hr.1] at hc;exact absurd hc (by decide)
theorem Qt (V:aa) (c0:Bool) (c1:ar) (x:Int) (l:List aI) (f:List Nat) (h:LR rI V c1 l f) :
  ae prog V 212 [cV (c0,c1,()),.int .i64 x] (fun V' r=>V'=V/\((cG c0 l x/\r=.tuple #[cA (c0,c1,x,()),.bool true])\/(¬ cG c0 l x/\r=.tuple #[cA (false,⟨none,0,0⟩,(0:Int),()),.bool false]))):=by
 refine aM (Ub _ _) fun _=>?_
 simp only [Dx,T.wp];refine(A2 V c0 c1 x l f h).mono ?_
 rintro _ r ⟨rfl,e,rfl,he⟩;refine⟨nofun,e,rfl,fun hf=>⟨rfl,.inr ⟨fun k=>?_,rfl⟩⟩,fun ht=>⟨rfl,.inl ⟨he.1 (by simpa using ht),rfl⟩⟩⟩
 rw [he.2 k] at hf; cases hf
theorem fD_keep {c:UInt8} (h:c≠46) (k:c≠45):fD [c]=[c]:=by simp [fD,h,k]
noncomputable def Ey (x0:ByteArray) (neg:Bool) (sc:Int) (t:ar) (ok:Bool):T :=
 .call false 212 [cV (neg,t,()),.int .i64 sc] (.t [(.g [.b,.l,.i .i64]),(.o (.b))]) fun y4 =>
 .br (!ok) (
  .ret [cA ((false),(⟨(none),((0:Nat)),((0:Nat))⟩:ar),(((0:Int)):Int),()),.bool (false)]) <|
 .br (!y4.2.fst) (
  .ret [cA ((false),(⟨(none),((0:Nat)),((0:Nat))⟩:ar),(((0:Int)):Int),()),.bool (false)]) <|
 .call false 151 [cA (y4.1)] (.v (.o (.s))) fun y5 =>
 .br (!y5.toList == x0.toList) (
  .ret [cA ((false),(⟨(none),((0:Nat)),((0:Nat))⟩:ar),(((0:Int)):Int),()),.bool (false)]) <|
 .ret [cA (y4.1),.bool (true)]
noncomputable def R7 (x0:ByteArray) (sc:Int) (w:ByteArray):T :=
 .call false 248 [.string w] (.t [(.o (.l)),(.o (.b))]) fun y3 =>
 .br (decide ((↑x0.size:Int) > (0:Int))) (
  .rq ((0:Int)<=(0:Int)/\(0:Int)<(↑x0.size:Int)) <|
  Ey x0 (de x0 (Int.toNat (0:Int)) == (45:Int)) sc y3.1 y3.2.fst) <|
 Ey x0 false sc y3.1 y3.2.fst
noncomputable def dsLp (x0:ByteArray) (sc:Int) (w:ByteArray) (d:Nat):T :=
 .lp [.o (.o (.s))] [.v (.string (w))] fun y2 =>
 .br (decide ((↑(ByteArray.size y2.fst):Int) > (1:Int))) (
  .rq ((0:Int)<=(0:Int)/\(0:Int)<(↑(ByteArray.size y2.fst):Int)) <|
  .br (de y2.fst (Int.toNat (0:Int)) == (48:Int)) (
   .rq ((0:Int)<=(1:Int)/\(1:Int)<=(↑(ByteArray.size y2.fst):Int)/\(↑(ByteArray.size y2.fst):Int)<=(↑(ByteArray.size y2.fst):Int)) <|
   .nx d [.v (.string (ByteArray.extract y2.fst (Int.toNat (1:Int)) (↑(ByteArray.size y2.fst):Int).toNat))]) <|
  R7 x0 sc y2.fst) <|
 R7 x0 sc y2.fst
theorem Lg {V0 V Vd:aa} {Ns:List (List LV->aa->Prop)} (iA:V0.le V) {s w:ByteArray} {n:Bool} {sc:Int} {t:ar} {o:List aI} {f:List Nat} {ok:Bool} (L:LR rI V t o f) (O:cQ V0 V f) (k:RU w o ok) (hw:w.size<=s.size) (h0:0<=sc) (h1:sc<=(s.size:Int))
  (hc:∀ m l q,cG m l q->dF m l q=s->w=dw l/\m=n/\q=sc):(Ey s n sc t ok).wp prog (fun V' vs=>va V0 s V' (packed vs)) V Vd Ns:=by
 simp only [Ey,T.wp];have get:∀ m l q,cG m l q->dF m l q=s->ok=true/\o=l/\m=n/\q=sc:=fun m l q a b=>by
  obtain⟨e1,e2,e3⟩:=hc m l q a b;obtain⟨k1,k2⟩:=Ev k a.1.1 e1.symm;exact⟨k1,k2,e2,e3⟩
 refine(Qt V n t sc o f L).mono ?_
 rintro _ _ ⟨rfl,⟨hd,rfl⟩ | ⟨hd,rfl⟩⟩
 ·refine⟨nofun,((n,t,sc,()),true,()),rfl,fun hf=>ya iA fun m l q a b=>?_,fun ht=>⟨nofun,fun _=>?_⟩⟩
  ·have:=(get m l q a b).1
   rw [this] at hf; cases hf
  have hk:ok=true:=by simpa using ht
  subst hk;have gR:o.length<=s.size:=by
   rcases k with ⟨_,k2,k3⟩ | ⟨k1,_⟩
   ·have:=K2 k2.1
    rw [k3] at this; omega
   cases k1
  refine(ss trivial n t sc o f L).mono ?_
  rintro V2 _ ⟨bm,rfl⟩;have leA:=iA.trans bm;have full:∀ m l q,cG m l q->dF m l q=s->n=m/\o=l/\sc=q:=fun m l q a b=>by
   obtain⟨_,e2,e3,e4⟩:=get m l q a b;exact⟨e3.symm,e2,e4.symm⟩
  refine⟨nofun,_,rfl,fun bR=>ya leA fun m l q a b=>?_,fun heq=>⟨leA,n,t,sc,o,f,true,rfl,L.le bm,O.post bm,⟨gR,fun _=>vd (aR.1 (by simpa using heq)) (by have:=Ex k; omega)⟩,h0,h1,fun m l q a b=>⟨rfl,full m l q a b⟩⟩⟩
  obtain⟨e1,e2,e3⟩:=full m l q a b;rw [e1,e2,e3,dG a,b] at bR;have:(s.toList == s.toList)=true:=aR.2 rfl;rw [this] at bR; cases bR
 have no:∀ m l q,cG m l q->dF m l q=s->False:=fun m l q a b=>by
  obtain⟨_,e2,e3,e4⟩:=get m l q a b;subst e2 e3 e4;exact hd a
 exact⟨nofun,((false,⟨none,0,0⟩,(0:Int),()),false,()),rfl,fun _=>ya iA no,fun _=>⟨fun _=>ya iA no,nofun⟩⟩
theorem Lh {V0 V Vd:aa} {Ns:List (List LV->aa->Prop)} (iA:V0.le V) {s w:ByteArray} {sc:Int} (hs:s.size<=1048576) (hw:w.size<=s.size) (h0:0<=sc) (h1:sc<=(s.size:Int))
  (hc:∀ m l q,cG m l q->dF m l q=s->w=dw l/\q=sc):(R7 s sc w).wp prog (fun V' vs=>va V0 s V' (packed vs)) V Vd Ns:=by
 unfold R7
 change ae _ _ _ _ (fun V' r=>_/\∃ y,_/\(_->_/\T.wp _ _ (Ey s _ sc _ _) _ _ _)/\(_->T.wp _ _ (Ey s _ sc _ _) _ _ _))
 refine(Qr V w (by omega)).mono ?_
 rintro V1 _ ⟨aF,t,o,f,ok,rfl,L1,O1,k⟩;refine⟨nofun,(t,ok,()),rfl,fun hp=>⟨⟨Int.le_refl _,bq hp⟩,?_⟩,fun hp=>?_⟩
 ·refine Lg (iA.trans aF) L1 (O1.pre iA) k hw h0 h1 fun m l q a b=>?_
  obtain⟨e1,e2⟩:=hc m l q a b;exact⟨e1,(Le a b).2.symm,e2⟩
 refine Lg (iA.trans aF) L1 (O1.pre iA) k hw h0 h1 fun m l q a b=>?_
 have h2:¬ (s.size:Int) > 0:=bU hp;have:=(Le a b).1;omega
theorem dsLp_wp {V0 V Vd:aa} {Ns:List (List LV->aa->Prop)} (iA:V0.le V) {s w:ByteArray} {sc:Int} (hs:s.size<=1048576) (hw:w.size<=s.size) (h0:0<=sc) (h1:sc<=(s.size:Int))
  (hc:∀ m l q,cG m l q->dF m l q=s->sE w l/\q=sc):(dsLp s sc w Ns.length).wp prog (fun V' vs=>va V0 s V' (packed vs)) V Vd Ns:=by
 unfold dsLp;refine⟨fun y V'=>V'=V/\ByteArray.size y.1<=s.size/\∀ m l q,cG m l q->dF m l q=s->sE y.1 l/\q=sc,fun y _=>ByteArray.size y.1,⟨(w,()),rfl,rfl,hw,hc⟩,?_⟩
 rintro⟨(y:ByteArray),u⟩ V' ⟨rfl,hy,hc⟩;replace hy:y.size<=s.size:=hy;replace hc:∀ m l q,cG m l q->dF m l q=s->sE y l/\q=sc:=hc;refine⟨fun aN=>?_,fun cg=>?_⟩
 ·have h2:1<y.size:=by
   have:(y.size:Int) > 1:=bq aN;omega
  refine⟨⟨Int.le_refl _,(by omega:(0:Int)<(y.size:Int))⟩,fun Cw=>?_,fun Cw=>?_⟩
  ·have h48':(bl y).head?=some 48:=(ve (by omega)).1 (by simpa using Cw)
   refine⟨⟨by decide,(by omega:(1:Int)<=(y.size:Int)),Int.le_refl _⟩,_,List.getElem?_concat_length ..,(y.extract 1 y.size,()),rfl,⟨rfl,?_,fun m l q a b=>?_⟩,?_⟩
   ·show(y.extract 1 y.size).size<=_
    rw [ByteArray.size_extract]; omega
   ·obtain⟨e1,e2⟩:=hc m l q a b
    exact⟨e1.step a.1.1.1 h2 h48',e2⟩
   show(y.extract 1 y.size).size<y.size
   rw [ByteArray.size_extract]; omega
  refine Lh iA hs hy h0 h1 fun m l q a b=>?_
  obtain⟨e1,e2⟩:=hc m l q a b;refine⟨e1.stop a.1.1.1 fun k=>?_,e2⟩
  have:=(ve (by omega)).2 k.2;have e:de y (Int.toNat 0)=48:=this;dsimp only at Cw;rw [e] at Cw; cases Cw
 have h2:¬ 1<y.size:=by
  have:¬ (y.size:Int) > 1:=bU cg;omega
 refine Lh iA hs hy h0 h1 fun m l q a b=>?_
 obtain⟨e1,e2⟩:=hc m l q a b;exact⟨e1.stop a.1.1.1 fun k=>h2 k.1,e2⟩
theorem BJ (V:aa) (s:ByteArray) (hs:s.size<=1048576):ae prog V 195 [.string s] (va V s):=by
 refine aM (Ot _) fun _=>?_
 unfold Al;have hl:=bD s;refine⟨fun y V'=>V'=V/\∃ k:Nat,(y.2.2.1:Int)=(k:Int)/\k<=s.size/\bl y.1=fD ((bl s).take k)/\Mj ((bl s).drop k) y.2.1=Mj (bl s) 0/\0<=(y.2.1:Int)/\(y.2.1:Int)<=s.size,fun y _=>((s.size:Int)-(y.2.2.1:Int)).toNat,
  ⟨(⟨#[]⟩,(0:Int),(0:Int),()),rfl,rfl,0,rfl,Nat.zero_le _,rfl,rfl,Int.le_refl _,by show(0:Int)<=_; omega⟩,?_⟩
 rintro⟨(w:ByteArray),(z:Int),(i:Int),u⟩ V' ⟨rfl,k,hi,hk,hw,hz,Mg,SI⟩;replace hi:i=(k:Int):=hi;replace hw:bl w=fD ((bl s).take k):=hw;replace hz:Mj ((bl s).drop k) z=Mj (bl s) 0:=hz;replace Mg:0<=z:=Mg;replace SI:z<=(s.size:Int):=SI;subst hi;have hwl:=bD w;have hws:w.size<=k:=by
  rw [<- hwl,hw];unfold fD;refine Nat.le_trans (List.length_filter_le _ _) ?_
  rw [List.length_take]; omega
 refine⟨fun aN=>?_,fun cg=>?_⟩
 ·have vW:k<s.size:=by
   have:(k:Int)<(s.size:Int):=bq aN;omega
  have Ca:k<(bl s).length:=by omega
  have hwr:i64.wrap ((k:Int)+1)=((k+1:Nat):Int):=by rw [wrap_i64 (by omega)]; omega
  have ek:de s (k:Int).toNat=((bl s)[k].toNat:Int):=by rw [Int.toNat_natCast]; exact lN Ca
  have htk:(bl s).take (k+1)=(bl s).take k++[(bl s)[k]]:=by simpa using qb Ca (Nat.zero_le k)
  have hdk:(bl s).drop k=(bl s)[k] :: (bl s).drop (k+1):=List.drop_eq_getElem_cons Ca;have hmm:((s.size:Int)-((k+1:Nat):Int)).toNat<((s.size:Int)-(k:Int)).toNat:=by omega
  have c46:((de s (k:Int).toNat) == (45+1:Int))=true↔(bl s)[k]=46:=by
   rw [ek]; exact yL (b:=46)
  have c45:((de s (k:Int).toNat) == (45:Int))=true↔(bl s)[k]=45:=by
   rw [ek]; exact yL (b:=45)
  rw [hdk] at hz;refine⟨⟨(by omega:(0:Int)<=(k:Int)),(by omega:(k:Int)<(s.size:Int))⟩,fun h46=>?_,fun h46=>⟨⟨(by omega:(0:Int)<=(k:Int)),(by omega:(k:Int)<(s.size:Int))⟩,fun h45=>?_,fun h45=>?_⟩⟩
  ·have hc:(bl s)[k]=46:=c46.1 h46
   have hwz:i64.wrap (i64.wrap ((s.size:Int)-1)-(k:Int))=(((bl s).drop (k+1)).length:Int):=by
    rw [List.length_drop,wrap_i64 (n:=(s.size:Int)-1) (by omega),wrap_i64 (by omega)]; omega
   have B3:((bl s).drop (k+1)).length<=s.size:=by rw [List.length_drop]; omega
   refine⟨_,rfl,(w,(((bl s).drop (k+1)).length:Int),((k+1:Nat):Int),()),?_,⟨rfl,k+1,rfl,vW,?_,?_,(by omega:(0:Int)<=(((bl s).drop (k+1)).length:Int)),(by omega:(((bl s).drop (k+1)).length:Int)<=(s.size:Int))⟩,hmm⟩
   ·dsimp only; rw [hwr,hwz]; rfl
   ·rw [htk,qI,hc]
    show bl w=_++[]
    rw [List.append_nil]; exact hw
   rw [Mj,if_pos hc] at hz;exact hz
  ·have hc:(bl s)[k]≠46:=fun e=>by
    have:=c46.2 e;dsimp only at h46;rw [show((46:Int))=45+1 from rfl,this] at h46; cases h46
   have wZ:(bl s)[k]≠45:=fun e=>by
    have h:=c45.2 e;have h45':(de s (k:Int).toNat != (45:Int))=true:=h45;simp only [bne,h] at h45';cases h45'
   have hex:bl (s.extract k (k+1))=[(bl s)[k]]:=by
    rw [ib,htk,List.drop_append_of_le_length (by rw [List.length_take]; omega)]
    rw [List.drop_of_length_le (by rw [List.length_take]; omega)]
    rfl
   have hes:(s.extract k (k+1)).size=1:=by rw [<- bD,hex]; rfl
   dsimp only;rw [hwr,Int.toNat_natCast,Int.toNat_natCast];refine⟨⟨(by omega:(0:Int)<=(k:Int)),(by omega:(k:Int)<=((k+1:Nat):Int)),(by omega:((k+1:Nat):Int)<=(s.size:Int))⟩,(by rw [hes]; omega),_,rfl,(w++s.extract k (k+1),z,((k+1:Nat):Int),()),rfl,⟨rfl,k+1,rfl,vW,?_,?_,Mg,SI⟩,hmm⟩
   ·show bl (w++s.extract k (k+1))=_
    rw [bO,hw,hex,htk,qI];rw [fD_keep hc wZ]
   rw [Mj,if_neg hc] at hz;exact hz
  have hc:(bl s)[k]≠46:=fun e=>by
   have:=c46.2 e;dsimp only at h46;rw [show((46:Int))=45+1 from rfl,this] at h46; cases h46
  have wZ:(bl s)[k]=45:=by
   refine c45.1 ?_
   have h45':(de s (k:Int).toNat != (45:Int))=false:=h45;simpa [bne] using h45'
  refine⟨_,rfl,(w,z,((k+1:Nat):Int),()),?_,⟨rfl,k+1,rfl,vW,?_,?_,Mg,SI⟩,hmm⟩
  ·dsimp only; rw [hwr]; rfl
  ·rw [htk,qI,wZ]
   show bl w=_++[]
   rw [List.append_nil]; exact hw
  rw [Mj,if_neg hc] at hz;exact hz
 have kv:k=s.size:=by
  have:¬ (k:Int)<(s.size:Int):=bU cg;omega
 subst kv;rw [<- hl,List.take_length] at hw;rw [<- hl,List.drop_length] at hz;replace hz:z=Mj (bl s) 0:=hz
 change T.wp _ _ (dsLp s z w 1) _ _ _
 refine dsLp_wp (Ns:=[_]) (aa.le.refl _) hs (by omega) Mg SI fun m l q a b=>?_
 obtain⟨e1,e2⟩:=decT_fD (neg:=m) a.1.1.1 a.2.1 a.2.2.1 a.2.2.2;rw [b] at e1 e2;obtain⟨j,e3⟩:=GJ (l:=l) a.2.2.2;exact⟨⟨j,by rw [hw,e1,e3]⟩,by rw [hz,e2]⟩
open Go.RowKit
theorem qc {c:ByteArray} (h:known c=true):(32:UInt8) ∉ bl c/\(59:UInt8) ∉ bl c/\(10:UInt8) ∉ bl c:=by
 have key:∀ r∈eX,(32:UInt8) ∉ bl r.1/\(59:UInt8) ∉ bl r.1/\(10:UInt8) ∉ bl r.1:=by decide +kernel
 obtain⟨r,hr,e⟩:=List.mem_map.1 (qB h);rw [<- e];exact key r hr
theorem jH {V V':aa} {a:Addr} {k:Nat} {x:List Value} (h:V.le V') (hl:aQ V a k=some x):aQ V' a k=some x:=by
 unfold aQ at hl ⊢;split at hl
 ·rename_i cs u h1 h2
  rw [h1,h _ _ h2];exact hl
 cases hl
theorem Qu (V:aa) (s:ByteArray) (hs:s.size<=1048576):ae prog V 172 [.string s] (u7 V 32 s):=by
 refine aM (fI_Cut _) fun _=>?_
 simp only [Ys,T.wp];refine(Lc V s 32 hs).mono ?_
 rintro V1 _ ⟨aF,t,f,rfl,L,O⟩;exact⟨nofun,t,rfl,aF,t,f,rfl,L,O⟩
theorem Qv {n:Bool} {l:List aI} {q:Int} (a:cG n l q):∀ c∈bl (dF n l q),c=45\/c=46\/Dg c:=by
 have hb:∀ c∈bl (o9 l q),c=46\/Dg c:=fun c hc=>by
  have hd:=yJ (sc:=q) a.1.1.1 a.2.2.2;rcases oP a.1.1.1 a.2.1 a.2.2.1 a.2.2.2 with ⟨_,e⟩ | ⟨_,A,B,e,e2,_⟩
  ·rw [e] at hc; exact .inr (hd c hc)
  rw [e] at hc;rw [e2] at hd;rcases List.mem_append.1 hc with h | h
  ·exact .inr (hd c (by simp [h]))
  rcases List.mem_cons.1 h with h | h
  ·exact .inl h
  exact .inr (hd c (by simp [h]))
 intro c hc;cases n with
 | false=>rw [uZ] at hc; exact .inr (hb c hc)
 | true =>
  rw [uY] at hc;rcases List.mem_cons.1 hc with h | h
  ·exact .inl h
  exact .inr (hb c h)
theorem R8 {n:Bool} {l:List aI} {q:Int} (a:cG n l q) {x:UInt8} (h1:x≠45) (h2:x≠46) (h3:¬ Dg x):x ∉ bl (dF n l q):=fun hx=>by
 rcases Qv a x hx with h | h | h
 ·exact h1 h
 ·exact h2 h
 exact h3 h
theorem GN {c:ByteArray} {m:Bool} {l:List aI} (h:bp c m l):cG m l (places c) :=
 ⟨h.2.1,by have:=h.2.2; omega,(qG c).1,by have:=(qG c).2; omega⟩
theorem Wf (c:ByteArray) (m:Bool) (l:List aI):bl (dW c m l)=bl c++32 :: bl (dF m l (places c)):=by
 unfold dW;rw [bO,bO];show(bl c++[32])++_=_
 simp
theorem jI {c:ByteArray} {m:Bool} {l:List aI} (h:bp c m l):dL 32 (dW c m l)=[(c,()),(dF m l (places c),())]:=by
 refine uX (Wf c m l) (by simp) fun x hx=>?_
 rcases List.mem_cons.1 hx with rfl | hx
 ·exact(qc h.1).1
 obtain rfl:x=(dF m l (places c),()):=by simpa using hx
 exact R8 (GN h) (by decide) (by decide) (by decide)
theorem Li (r:aW):bl (fH r)=bl r.1++32 :: (bl r.2.1++32 :: bl (dF r.2.2.1 r.2.2.2.1 r.2.2.2.2.1)):=by
 unfold fH;rw [bO,bO,bO,bO];show(((bl r.1++[32])++bl r.2.1)++[32])++_=_
 simp
theorem qd {r:aW} (h:bJ r):dL 32 (fH r)=[(r.1,()),(r.2.1,()),(dF r.2.2.1 r.2.2.2.1 r.2.2.2.2.1,())]:=by
 refine uX (Li r) (by simp) fun x hx=>?_
 rcases List.mem_cons.1 hx with rfl | hx
 ·exact(qc h.1).1
 rcases List.mem_cons.1 hx with rfl | hx
 ·exact(qc h.2.1).1
 obtain rfl:x=(dF r.2.2.1 r.2.2.2.1 r.2.2.2.2.1,()):=by simpa using hx
 exact R8 h.2.2.2.1 (by decide) (by decide) (by decide)
theorem R9 {c:UInt8} {s p q:ByteArray} (h:dL c s=[(p,()),(q,())]):s.size=p.size+1+q.size:=by
 have:=nR c s;rw [h] at this;have:=congrArg List.length this;rw [bD] at this;have e:(jg c ([(p,()),(q,())].map fun x=>bl x.1)).length=(bl p++c :: bl q).length:=rfl;rw [e,List.length_append,List.length_cons,bD,bD] at this;omega
theorem Ez {c:UInt8} {s p q r:ByteArray} (h:dL c s=[(p,()),(q,()),(r,())]):s.size=p.size+1+q.size+1+r.size:=by
 have:=nR c s;rw [h] at this;have:=congrArg List.length this;rw [bD] at this;have e:(jg c ([(p,()),(q,()),(r,())].map fun x=>bl x.1)).length=(bl p++c :: (bl q++c :: bl r)).length:=rfl;rw [e,List.length_append,List.length_cons,List.length_append,List.length_cons,bD,bD,bD] at this;omega
def MoRes (s:ByteArray) (c:ByteArray) (n:Bool) (o:List aI) (ok:Bool):Prop :=
 (c.size+o.length<=s.size/\(ok=true->bp c n o/\dW c n o=s))/\∀ c' m l,bp c' m l->dW c' m l=s->ok=true/\c=c'/\n=m/\o=l
abbrev MoRd (V:aa) (s:ByteArray):aa->Value->Prop:=fun V' r=>V.le V'/\∃ c n t o f ok,r=.tuple #[ct (c,n,t,()),.bool ok]/\LR rI V' t o f/\cQ V V' f/\MoRes s c n o ok
theorem vf {V V':aa} {s:ByteArray} (le:V.le V') (h:∀ c m l,bp c m l->dW c m l=s->False):MoRd V s V' (packed [ct (⟨#[]⟩,false,⟨none,0,0⟩,()),.bool false]) :=
 ⟨le,⟨#[]⟩,false,⟨none,0,0⟩,[],[],false,rfl,yK,cQ.nil,⟨Nat.zero_le _,nofun⟩,fun c m l a b=>(h c m l a b).elim⟩
theorem n_two {t:ar} {L:List Tx} (h:t.n=L.length):((t.n:Int) != (2:Int))=true->L.length≠2:=fun k e=>by
 have:(t.n:Int)≠2:=by simpa using k
 omega
theorem aak {t:ar} {L:List Tx} (h:t.n=L.length) (k:((t.n:Int) != (2:Int))=false):∃ p q,L=[(p,()),(q,())]:=by
 have e:(t.n:Int)=2:=by simpa using k
 match L,h with
 | [p,q],_=>exact⟨p.1,q.1,rfl⟩
 | [],h=>simp at h; omega
 | [_],h=>simp at h; omega
 | _ :: _ :: _ :: _,h=>simp at h; omega
theorem Lj {t:ar} {L:List Tx} (h:t.n=L.length) (k:((t.n:Int) != (3:Int))=false):∃ p q r,L=[(p,()),(q,()),(r,())]:=by
 have e:(t.n:Int)=3:=by simpa using k
 match L,h with
 | [p,q,r],_=>exact⟨p.1,q.1,r.1,rfl⟩
 | [],h=>simp at h; omega
 | [_],h=>simp at h; omega
 | [_,_],h=>simp at h; omega
 | _ :: _ :: _ :: _ :: _,h=>simp at h; omega
theorem LR.atK {V:aa} {t:ar} {l:List Tx} {f:List Nat} (h:LR bE V t l f) {i:Nat} {x:Tx} (e:l[i]?=some x):∃ b o,t.a=some ⟨b,o,none⟩/\aQ V ((⟨b,o,none⟩:Addr).add (i*1)) 1=some [.string x.1]:=by
 obtain⟨hi,rfl⟩:=List.getElem?_eq_some_iff.1 e;obtain⟨⟨b,o,a1,l1⟩,_⟩:=h.txt hi;exact⟨b,o,a1,l1⟩
theorem GO {V:aa} (hV:nW V) (s:ByteArray) (hs:s.size<=1048576):ae prog V 272 [.string s] (MoRd V s):=by
 refine aM (FP _) fun _=>?_
 simp only [ue,T.wp];refine(Qu V s hs).mono ?_
 rintro V1 _ ⟨aF,t,f,rfl,L1,O1⟩;have hn:=L1.1;refine⟨nofun,t,rfl,fun h2=>vf aF fun c m l a b=>?_,fun h2=>?_⟩
 ·refine n_two hn h2 ?_
  rw [<- b,jI a]; rfl
 obtain⟨p,q,e⟩:=aak hn h2;rw [e] at L1 hn;have hz:=R9 e;obtain⟨b,o,ha,Z3⟩:=L1.atK (i:=1) (x:=(q,())) rfl;obtain⟨b',o',sW,ld0⟩:=L1.atK (i:=0) (x:=(p,())) rfl;rw [ha] at sW;cases sW
 rw [ha];have sN:(t.n:Int)=2:=by rw [hn]; rfl
 refine⟨_,rfl,by decide,by omega,q,Z3,(BI (hV.le aF) q (by omega)).mono ?_⟩
 rintro V2 _ ⟨bm,n,t2,sc,o2,f2,ok,rfl,L2,O2,k1,k2,k3,k4⟩;have leA:=aF.trans bm;have get:∀ c m l,bp c m l->dW c m l=s->ok=true/\p=c/\n=m/\o2=l:=fun c m l a b=>by
  have:=jI a;rw [b,e] at this;simp only [List.cons.injEq,Prod.mk.injEq,and_true] at this;obtain⟨rfl,e2⟩:=this;obtain⟨j1,j2,j3,_⟩:=k4 m l _ (GN a) e2.symm;exact⟨j1,rfl,j2,j3⟩
 have Qw:aQ V2 ((⟨b,o,none⟩:Addr).add (Int.toNat 0*1)) 1=some [.string p]:=jH bm ld0;refine⟨nofun,((n,t2,sc,()),ok,()),rfl,_,rfl,by decide,by omega,p,Qw,fun hf=>vf leA fun c m l a b=>?_,fun ht=>?_⟩
 ·have:=(get c m l a b).1
  have sK:ok=false:=by simpa using hf
  rw [sK] at this; cases this
 have eg:ok=true:=by simpa using ht
 subst eg;refine(uR (hV.le leA) p n t2 o2 f2 L2 (by omega)).mono ?_
 rintro V3 _ ⟨bS,rfl⟩;have leB:=leA.trans bS;refine⟨nofun,_,rfl,fun bR=>vf leB fun c m l a b=>?_,fun heq=>⟨fun he=>vf leB fun c m l a b=>?_,fun _=>⟨leB,p,n,t2,o2,f2,true,rfl,L2.le bS,(O2.post bS).pre aF,⟨by omega,fun _=>vd (aR.1 (by simpa using heq)) (by omega)⟩,get⟩⟩⟩
 ·obtain⟨_,rfl,rfl,rfl⟩:=get c m l a b
  rw [dG a,b] at bR;have:(s.toList == s.toList)=true:=aR.2 rfl;rw [this] at bR; cases bR
 have Mg:s.size=0:=wF.1 he;omega
theorem Qx (V:aa) (c0:ByteArray) (c1:Bool) (c2:ar) (l:List aI) (f:List Nat) (h:LR rI V c2 l f) :
  ae prog V 196 [.string c0,cV (c1,c2,())] (fun V' r=>V.le V'/\((bp c0 c1 l/\r=.tuple #[ct (c0,c1,c2,()),.bool true])\/(¬ bp c0 c1 l/\r=.tuple #[ct (⟨#[]⟩,false,⟨none,0,0⟩,()),.bool false]))):=by
 refine aM (Am _ _) fun _=>?_
 simp only [rR,T.wp];refine(ia c0 c1 c2 l f h).mono ?_
 rintro V1 r ⟨aF,e,rfl,he⟩;refine⟨nofun,e,rfl,fun hf=>⟨aF,.inr ⟨fun k=>?_,rfl⟩⟩,fun ht=>⟨aF,.inl ⟨he.1 (by simpa using ht),rfl⟩⟩⟩
 rw [he.2 k] at hf; cases hf
theorem GP (V:aa) (s:ByteArray) (hs:s.size<=1048576):ae prog V 138 [.string s] (MoRd V s):=by
 refine aM (FD _) fun _=>?_
 simp only [tU,T.wp];refine(Qs V s hs).mono ?_
 rintro V1 _ ⟨aF,t,f,rfl,L1,O1⟩;have hn:=L1.1;refine⟨nofun,t,rfl,fun h2=>vf aF fun c m l a b=>?_,fun h2=>?_⟩
 ·refine n_two hn h2 ?_
  rw [<- b,jI a]; rfl
 obtain⟨p,q,e⟩:=aak hn h2;rw [e] at L1 hn;have hz:=R9 e;obtain⟨b,o,ha,Z3⟩:=L1.atK (i:=1) (x:=(q,())) rfl;obtain⟨b',o',sW,ld0⟩:=L1.atK (i:=0) (x:=(p,())) rfl;rw [ha] at sW;cases sW
 rw [ha];have sN:(t.n:Int)=2:=by rw [hn]; rfl
 refine⟨_,rfl,by decide,by omega,q,Z3,(BJ V1 q (by omega)).mono ?_⟩
 rintro V2 _ ⟨bm,n,t2,sc,o2,f2,ok,rfl,L2,O2,k1,k2,k3,k4⟩;have leA:=aF.trans bm;have get:∀ c m l,bp c m l->dW c m l=s->ok=true/\p=c/\n=m/\o2=l:=fun c m l a b=>by
  have:=jI a;rw [b,e] at this;simp only [List.cons.injEq,Prod.mk.injEq,and_true] at this;obtain⟨rfl,e2⟩:=this;obtain⟨j1,j2,j3,_⟩:=k4 m l _ (GN a) e2.symm;exact⟨j1,rfl,j2,j3⟩
 have Qw:aQ V2 ((⟨b,o,none⟩:Addr).add (Int.toNat 0*1)) 1=some [.string p]:=jH bm ld0;refine⟨nofun,((n,t2,sc,()),ok,()),rfl,_,rfl,by decide,by omega,p,Qw,(Qx V2 p n t2 o2 f2 L2).mono ?_⟩
 rintro V3 _ ⟨bS,⟨hm,rfl⟩ | ⟨hm,rfl⟩⟩
 ·have leB:=leA.trans bS
  refine⟨nofun,((p,n,t2,()),true,()),rfl,fun hf=>vf leB fun c m l a b=>?_,fun ht=>⟨nofun,fun _=>?_⟩⟩
  ·have:=(get c m l a b).1
   have sK:ok=false:=by simpa using hf
   rw [sK] at this; cases this
  have eg:ok=true:=by simpa using ht
  subst eg;refine(uQ trivial p n t2 o2 f2 (L2.le bS) (by omega)).mono ?_
  rintro V4 _ ⟨jm,rfl⟩;have leC:=leB.trans jm;refine⟨nofun,_,rfl,fun bR=>vf leC fun c m l a b=>?_,fun heq=>⟨leC,p,n,t2,o2,f2,true,rfl,(L2.le bS).le jm,(O2.post (bS.trans jm)).pre aF,⟨by omega,fun _=>vd (aR.1 (by simpa using heq)) (by omega)⟩,get⟩⟩
  obtain⟨_,rfl,rfl,rfl⟩:=get c m l a b;rw [dG a,b] at bR;have:(s.toList == s.toList)=true:=aR.2 rfl;rw [this] at bR; cases bR
 have leB:=leA.trans bS;have no:∀ c m l,bp c m l->dW c m l=s->False:=fun c m l a b=>by
  obtain⟨_,rfl,rfl,rfl⟩:=get c m l a b;exact hm a
 exact⟨nofun,((⟨#[]⟩,false,⟨none,0,0⟩,()),false,()),rfl,fun _=>vf leB no,fun _=>⟨fun _=>vf leB no,nofun⟩⟩
theorem rate_of {s p q r:ByteArray} {n:Bool} {o:List aI} {sc:Int} (e:dL 32 s=[(p,()),(q,()),(r,())]) (h:dF n o sc=r):fH (p,q,n,o,sc,())=s:=lM (by rw [Li,nR 32 s,e,<- h]; rfl)
def RtRes (s:ByteArray) (x:aW) (ok:Bool):Prop:=(x.1.size+x.2.1.size+x.2.2.2.1.length<=s.size/\(ok=true->bJ x/\fH x=s))/\∀ y:aW,bJ y->fH y=s->ok=true/\x=y
abbrev RtRd (V:aa) (s:ByteArray):aa->Value->Prop:=fun V' r=>V.le V'/\∃ (x:aW) (t:ar) (f:List Nat) (ok:Bool),r=.tuple #[fV (x.1,x.2.1,x.2.2.1,t,x.2.2.2.2.1,()),.bool ok]/\LR rI V' t x.2.2.2.1 f/\cQ V V' f/\RtRes s x ok
theorem BK {V V':aa} {s:ByteArray} (le:V.le V') (h:∀ y:aW,bJ y->fH y=s->False):RtRd V s V' (packed [fV (⟨#[]⟩,⟨#[]⟩,false,⟨none,0,0⟩,(0:Int),()),.bool false]) :=
 ⟨le,(⟨#[]⟩,⟨#[]⟩,false,[],0,()),⟨none,0,0⟩,[],false,rfl,yK,cQ.nil,⟨Nat.zero_le _,nofun⟩,fun y a b=>(h y a b).elim⟩
theorem R' {t:ar} {L:List Tx} (h:t.n=L.length):((t.n:Int) != (3:Int))=true->L.length≠3:=fun k e=>by
 have:(t.n:Int)≠3:=by simpa using k
 omega
theorem Ll {V:aa} (hV:nW V) (s:ByteArray) (hs:s.size<=1048576):ae prog V 275 [.string s] (RtRd V s):=by
 refine aM (Jq _) fun _=>?_
 simp only [xI,T.wp];refine(Qu V s hs).mono ?_
 rintro V1 _ ⟨aF,t,f,rfl,L1,O1⟩;have hn:=L1.1;refine⟨nofun,t,rfl,fun h2=>BK aF fun y a b=>?_,fun h2=>?_⟩
 ·refine R' hn h2 ?_
  rw [<- b,qd a]; rfl
 obtain⟨p,q,r,e⟩:=Lj hn h2;rw [e] at L1 hn;have hz:=Ez e;obtain⟨b,o,ha,ld2⟩:=L1.atK (i:=2) (x:=(r,())) rfl;obtain⟨b',o',sW,ld0⟩:=L1.atK (i:=0) (x:=(p,())) rfl;rw [ha] at sW;cases sW
 obtain⟨b',o',sW,Z3⟩:=L1.atK (i:=1) (x:=(q,())) rfl;rw [ha] at sW;cases sW
 rw [ha];have sN:(t.n:Int)=3:=by rw [hn]; rfl
 refine⟨_,rfl,by decide,by omega,r,ld2,(BI (hV.le aF) r (by omega)).mono ?_⟩
 rintro V2 _ ⟨bm,n,t2,sc,o2,f2,ok,rfl,L2,O2,k1,k2,k3,k4⟩;have leA:=aF.trans bm;have get:∀ y:aW,bJ y->fH y=s->ok=true/\((p,q,n,o2,sc,()):aW)=y:=fun y a b=>by
  have:=qd a;rw [b,e] at this;simp only [List.cons.injEq,Prod.mk.injEq,and_true] at this;obtain⟨e0,e1,e2⟩:=this;obtain⟨j1,j2,j3,j4⟩:=k4 _ _ _ a.2.2.2.1 e2.symm;obtain⟨y0,y1,y2,y3,y4,yu⟩:=y;subst e0 e1 j2 j3 j4;exact⟨j1,rfl⟩
 have Qw:aQ V2 ((⟨b,o,none⟩:Addr).add (Int.toNat 0*1)) 1=some [.string p]:=jH bm ld0;have ld1':aQ V2 ((⟨b,o,none⟩:Addr).add (Int.toNat 1*1)) 1=some [.string q]:=jH bm Z3;refine⟨nofun,((n,t2,sc,()),ok,()),rfl,_,rfl,by decide,by omega,p,Qw,_,rfl,by decide,by omega,q,ld1',fun hf=>BK leA fun y a b=>?_,fun ht=>?_⟩
 ·have:=(get y a b).1
  have sK:ok=false:=by simpa using hf
  rw [sK] at this; cases this
 have eg:ok=true:=by simpa using ht
 subst eg;refine(kV (hV.le leA).c ((p,q,n,o2,sc,()):aW) t2 f2 L2).mono ?_
 rintro V3 _ ⟨bS,e3,rfl,vw⟩;have leB:=leA.trans bS;refine⟨nofun,_,rfl,fun bR=>BK leB fun y a b=>?_,fun eg=>⟨leB,(p,q,n,o2,sc,()),t2,f2,true,rfl,L2.le bS,(O2.post bS).pre aF,⟨by show p.size+q.size+o2.length<=_; omega,fun _=>⟨vw.1 (by simpa using eg),rate_of e (k1.2 rfl).2⟩⟩,get⟩⟩
 obtain⟨_,rfl⟩:=get y a b;rw [vw.2 a] at bR; cases bR
theorem Lm (V:aa) (s:ByteArray) (hs:s.size<=1048576):ae prog V 137 [.string s] (RtRd V s):=by
 refine aM (I0 _) fun _=>?_
 simp only [xx,T.wp];refine(Qs V s hs).mono ?_
 rintro V1 _ ⟨aF,t,f,rfl,L1,O1⟩;have hn:=L1.1;refine⟨nofun,t,rfl,fun h2=>BK aF fun y a b=>?_,fun h2=>?_⟩
 ·refine R' hn h2 ?_
  rw [<- b,qd a]; rfl
 obtain⟨p,q,r,e⟩:=Lj hn h2;rw [e] at L1 hn;have hz:=Ez e;obtain⟨b,o,ha,ld2⟩:=L1.atK (i:=2) (x:=(r,())) rfl;obtain⟨b',o',sW,ld0⟩:=L1.atK (i:=0) (x:=(p,())) rfl;rw [ha] at sW;cases sW
 obtain⟨b',o',sW,Z3⟩:=L1.atK (i:=1) (x:=(q,())) rfl;rw [ha] at sW;cases sW
 rw [ha];have sN:(t.n:Int)=3:=by rw [hn]; rfl
 refine⟨_,rfl,by decide,by omega,r,ld2,(BJ V1 r (by omega)).mono ?_⟩
 rintro V2 _ ⟨bm,n,t2,sc,o2,f2,ok,rfl,L2,O2,k1,k2,k3,k4⟩;have leA:=aF.trans bm;have get:∀ y:aW,bJ y->fH y=s->ok=true/\((p,q,n,o2,sc,()):aW)=y:=fun y a b=>by
  have:=qd a;rw [b,e] at this;simp only [List.cons.injEq,Prod.mk.injEq,and_true] at this;obtain⟨e0,e1,e2⟩:=this;obtain⟨j1,j2,j3,j4⟩:=k4 _ _ _ a.2.2.2.1 e2.symm;obtain⟨y0,y1,y2,y3,y4,yu⟩:=y;subst e0 e1 j2 j3 j4;exact⟨j1,rfl⟩
 have Qw:aQ V2 ((⟨b,o,none⟩:Addr).add (Int.toNat 0*1)) 1=some [.string p]:=jH bm ld0;have ld1':aQ V2 ((⟨b,o,none⟩:Addr).add (Int.toNat 1*1)) 1=some [.string q]:=jH bm Z3;refine⟨nofun,((n,t2,sc,()),ok,()),rfl,_,rfl,by decide,by omega,p,Qw,_,rfl,by decide,by omega,q,ld1',fun hf=>BK leA fun y a b=>?_,fun ht=>?_⟩
 ·have:=(get y a b).1
  have sK:ok=false:=by simpa using hf
  rw [sK] at this; cases this
 have eg:ok=true:=by simpa using ht
 subst eg;refine(kU trivial ((p,q,n,o2,sc,()):aW) t2 f2 L2).mono ?_
 rintro V3 _ ⟨bS,e3,rfl,vw⟩;have leB:=leA.trans bS;refine⟨nofun,_,rfl,fun bR=>BK leB fun y a b=>?_,fun _=>?_⟩
 ·obtain⟨_,rfl⟩:=get y a b
  rw [vw.2 a] at bR; cases bR
 refine(x6 trivial ((p,q,n,o2,sc,()):aW) t2 f2 (L2.le bS)).mono ?_
 rintro V4 _ ⟨jm,rfl⟩;have leC:=leB.trans jm;refine⟨nofun,_,rfl,fun bR=>BK leC fun y a b=>?_,fun heq=>⟨leC,(p,q,n,o2,sc,()),t2,f2,true,rfl,(L2.le bS).le jm,(O2.post (bS.trans jm)).pre aF,⟨by show p.size+q.size+o2.length<=_; omega,fun _=>vd (aR.1 (by simpa using heq)) (by omega)⟩,get⟩⟩
 obtain⟨_,rfl⟩:=get y a b;rw [dG a,b] at bR;have:(s.toList == s.toList)=true:=aR.2 rfl;rw [this] at bR; cases bR
theorem BL (c:UInt8):∀ (p a b:List UInt8),eL c p (a++c :: b)=eL c p a++eL c [] b
 | p,[],b=>by simp [eL]
 | p,x :: a,b=>by
  rw [List.cons_append,eL,eL];split
  ·rw [BL c [] a b]; rfl
  exact BL c _ a b
theorem EA (c:UInt8):∀ (L:List (List UInt8)),L≠[]->eL c [] (jg c L)=L.flatMap (eL c [])
 | [],h=>absurd rfl h
 | [x],_=>by simp [jg]
 | x :: y :: r,_=>by
  rw [sD (by simp),BL,EA c (y :: r) (by simp)]; rfl
theorem Lo (c:UInt8):∀ (L:List (List UInt8)),Go.Lib.join L [c]=jg c L
 | []=>rfl
 | [a]=>by rw [Go.Lib.join_one]; rfl
 | a :: b :: r=>by
  rw [sD (by simp),<- Lo c (b :: r),Go.Lib.join_cons,Go.Lib.join_cons];simp [Go.Lib.joinTail]
theorem wH (c:UInt8) (l:List Tx):bl (eK l ⟨⟨[c]⟩⟩)=jg c (l.map fun x=>bl x.1):=by
 rw [<- Lo];show bl (⟨(Go.Lib.join (gI l) [c]).toArray⟩:ByteArray)=_
 exact rp _
theorem Wg (c:UInt8) {l:List Tx} (h:l≠[]):dL c (eK l ⟨⟨[c]⟩⟩)=l.flatMap fun t=>dL c t.1:=by
 unfold dL;rw [wH,EA c _ (by simpa using h),List.flatMap_map,List.map_flatMap]
theorem sG (c:UInt8) (s:ByteArray):eK (dL c s) ⟨⟨[c]⟩⟩=s:=lM (by rw [wH,<- nR])
def nw (f:Int):Nat:=if f=8 then 3 else if f=4 then 2 else 1
def aal (s:ByteArray) (op:Int):Prop:=(1<=op/\op<=9/\qV op=s)\/(op=0/\∀ o:Int,1<=o->o<=9->qV o≠s)
theorem Sa {a b:Int} (ha:1<=a/\a<=9) (hb:1<=b/\b<=9) (e:qV a=qV b):a=b:=by
 have h1:a=1\/a=2\/a=3\/a=4\/a=5\/a=6\/a=7\/a=8\/a=9:=by omega
 have h2:b=1\/b=2\/b=3\/b=4\/b=5\/b=6\/b=7\/b=8\/b=9:=by omega
 have key:∀ i:Nat,i<10->∀ j:Nat,j<10->(opL.getD i (fQ,())).1.data.toList=(opL.getD j (fQ,())).1.data.toList->i=j:=by decide
 have:=key a.toNat (by omega) b.toNat (by omega) (congrArg (fun x:ByteArray=>x.data.toList) e);omega
theorem Wh (V:aa) (s:ByteArray):ae prog V 136 [.string s] (fun V' r=>V.le V'/\∃ op:Int,r=.int .i64 op/\aal s op):=by
 refine aM (TR _) fun _=>?_
 simp only [Dl,T.wp];refine⟨fun y V'=>V.le V'/\1<=(y.1:Int)/\(y.1:Int)<=10/\∀ o:Int,1<=o->o<(y.1:Int)->qV o≠s,fun y _=>(10-(y.1:Int)).toNat,⟨((1:Int),()),rfl,aa.le.refl _,Int.le_refl _,by decide,fun o h1 h2=>absurd h1 (by have h2:o<1:=h2; omega)⟩,?_⟩
 rintro⟨(j:Int),u⟩ V' ⟨hle,h1,h2,h3⟩;replace h1:1<=j:=h1;replace h2:j<=10:=h2;replace h3:∀ o:Int,1<=o->o<j->qV o≠s:=h3;refine⟨fun h9=>?_,fun h9=>?_⟩
 ·have h9':j<=9:=bq h9
  refine(wx V' j ⟨h1,h9'⟩).mono ?_
  rintro V2 _ ⟨rfl,rfl⟩;refine⟨nofun,_,rfl,fun he=>⟨hle,j,rfl,.inl ⟨h1,h9',aR.1 he⟩⟩,fun bR=>⟨_,rfl,(j+1,()),?_,⟨hle,by show 1<=j+1; omega,by show j+1<=10; omega,fun o ho J4=>?_⟩,?_⟩⟩
  ·rw [wrap_i64 (by omega)]; rfl
  ·have J4:o<j+1:=J4
   by_cases e:o=j
   ·rw [e]; exact E4.1 bR
   exact h3 o ho (by omega)
  show(10-(j+1)).toNat<(10-j).toNat
  omega
 have h9':¬ j<=9:=bU h9;exact⟨hle,0,rfl,.inr ⟨rfl,fun o ho ho9=>h3 o ho (by omega)⟩⟩
theorem Wi (V:aa) (s:ByteArray):ae prog V 173 [.string s] (fun V' r=>V.le V'/\∃ op:Int,r=.int .i64 op/\aal s op):=by
 refine aM (TZ _) fun _=>?_
 simp only [Dp,T.wp];refine⟨fun y V'=>V.le V'/\1<=(y.1:Int)/\(y.1:Int)<=10/\∀ o:Int,1<=o->o<(y.1:Int)->qV o≠s,fun y _=>(10-(y.1:Int)).toNat,⟨((1:Int),()),rfl,aa.le.refl _,Int.le_refl _,by decide,fun o h1 h2=>absurd h1 (by have h2:o<1:=h2; omega)⟩,?_⟩
 rintro⟨(j:Int),u⟩ V' ⟨hle,h1,h2,h3⟩;replace h1:1<=j:=h1;replace h2:j<=10:=h2;replace h3:∀ o:Int,1<=o->o<j->qV o≠s:=h3;refine⟨fun h9=>?_,fun h9=>?_⟩
 ·have h9':j<=9:=bq h9
  refine(Ee V' j ⟨h1,h9'⟩).mono ?_
  rintro V2 _ ⟨bm,rfl⟩;refine⟨nofun,_,rfl,fun he=>⟨hle.trans bm,j,rfl,.inl ⟨h1,h9',aR.1 he⟩⟩,fun bR=>⟨_,rfl,(j+1,()),?_,⟨hle.trans bm,by show 1<=j+1; omega,by show j+1<=10; omega,fun o ho J4=>?_⟩,?_⟩⟩
  ·rw [wrap_i64 (by omega)]; rfl
  ·have J4:o<j+1:=J4
   by_cases e:o=j
   ·rw [e]; exact E4.1 bR
   exact h3 o ho (by omega)
  show(10-(j+1)).toNat<(10-j).toNat
  omega
 have h9':¬ j<=9:=bU h9;exact⟨hle,0,rfl,.inr ⟨rfl,fun o ho ho9=>h3 o ho (by omega)⟩⟩
theorem Qy (V:aa) (f:Int):ae prog V 174 [.int .i64 f] (fun V' r=>V'=V/\r=.int .i64 (nw f:Int)):=by
 refine aM (Ol _) fun _=>?_
 simp only [Ai,T.wp];unfold nw;refine⟨fun h=>?_,fun h=>⟨fun h4=>?_,fun h4=>?_⟩⟩
 ·have:f=8:=by simpa using h
  rw [if_pos this]; exact⟨by trivial,rfl⟩
 ·have:¬ f=8:=by simpa using h
  have e:f=4:=by simpa using h4
  rw [if_neg this,if_pos e]; exact⟨by trivial,rfl⟩
 have:¬ f=8:=by simpa using h
 have e:¬ f=4:=by simpa using h4
 rw [if_neg this,if_neg e]; exact⟨by trivial,rfl⟩
theorem str_sz:prog.types[(9:Nat)].size=1:=by kernel_rfl
theorem LR.takeK {V:aa} {t:ar} {l:List Tx} {f:List Nat} (h:LR bE V t l f) {k:Nat} (hk:k<=l.length):∃ f',LR bE V ⟨t.a,k,t.c⟩ (l.take k) f':=by
 obtain⟨h1,h2,h3,h4⟩:=h;rcases h4 with ⟨h0,hc,rfl⟩ | ⟨b,pre,post,u,fps,cs,ha,hb,he,rfl⟩
 ·exact⟨[],by rw [List.length_take]; show k=_; omega,by show k<=t.c; omega,by show k<=_; omega,.inl ⟨by show k=0; omega,hc,rfl⟩⟩
 obtain⟨rfl,rfl⟩:=oN he;have hz:∀ x∈cs.take k,x.1.size<=9223372036854775807:=fun x hx=>by
  obtain⟨i,hi,rfl⟩:=List.mem_iff_getElem.1 (List.mem_of_mem_take hx);have L:LR bE V t cs [b]:=⟨h1,h2,h3,.inr ⟨b,pre,post,u,[],cs,ha,hb,he,rfl⟩⟩;exact(L.txt hi).2
 refine⟨[b],by rw [List.length_take]; show k=_; omega,by show k<=t.c; omega,by show k<=_; omega,.inr ⟨b,pre,(cs.drop k).flatMap (aH.aD [.s])++post,u,[],cs.take k,ha,?_,yF _ hz,rfl⟩⟩
 rw [hb,<- List.append_assoc (List.flatMap _ (cs.take k)),<- List.flatMap_append,List.take_append_drop]
theorem txs_len (l:List Tx):(l.flatMap (aH.aD [.s])).length=l.length:=by rw [uS]; simp
theorem LR.dropK {V:aa} {t:ar} {l:List Tx} {f:List Nat} (h:LR bE V t l f) {k:Nat} (hk:k<=l.length):∃ f',LR bE V ⟨(if t.c=k then t.a else t.a.map fun x=>x.add (k*1)),t.n-k,t.c-k⟩ (l.drop k) f':=by
 obtain⟨h1,h2,h3,h4⟩:=h;rcases h4 with ⟨h0,hc,rfl⟩ | ⟨b,pre,post,u,fps,cs,ha,hb,he,rfl⟩
 ·have:k=0:=by omega
  subst this;refine⟨[],by rw [List.length_drop]; show t.n-0=_; omega,by show t.n-0<=t.c-0; omega,by show t.n-0<=_; omega,.inl ⟨by show t.n-0=0; omega,fun hn=>?_,rfl⟩⟩
  show t.c-0=0
  by_cases c0:t.c=0
  ·omega
  simp only [if_neg c0] at hn;cases ht:t.a with
  | none=>have:=hc ht; omega
  | some a=>rw [ht] at hn; cases hn
 obtain⟨rfl,rfl⟩:=oN he;have hl:t.n-k=(cs.drop k).length:=by rw [List.length_drop]; omega
 by_cases c1:t.c=k
 ·rw [if_pos c1]
  exact⟨[],hl,by show t.n-k<=t.c-k; omega,by show t.n-k<=_; omega,.inl ⟨by show t.n-k=0; omega,fun _=>by show t.c-k=0; omega,rfl⟩⟩
 rw [if_neg c1,ha];have hz:∀ x∈cs.drop k,x.1.size<=9223372036854775807:=fun x hx=>by
  obtain⟨i,hi,rfl⟩:=List.mem_iff_getElem.1 (List.mem_of_mem_drop hx);have L:LR bE V t cs [b]:=⟨h1,h2,h3,.inr ⟨b,pre,post,u,[],cs,ha,hb,he,rfl⟩⟩;exact(L.txt hi).2
 refine⟨[b],hl,by show t.n-k<=t.c-k; omega,by show t.n-k<=_; omega,.inr ⟨b,pre++(cs.take k).flatMap (aH.aD [.s]),post,u,[],cs.drop k,?_,?_,yF _ hz,rfl⟩⟩
 ·show some ((⟨b,pre.length,none⟩:Addr).add (k*1))=_
  rw [ah];have e:((cs.take k).flatMap (aH.aD [.s])).length=k:=(txs_len (cs.take k)).trans (by rw [List.length_take]; omega)
  rw [List.length_append,e,Nat.mul_one]
 rw [hb,List.append_assoc,<- List.append_assoc (List.flatMap _ (cs.take k)),<- List.flatMap_append,List.take_append_drop]
theorem LR.aam {V:aa} {t:ar} {l:List Tx} {f:List Nat} (h:LR bE V t l f) {k:Int} (h0:0<=k) (hk:k<=(l.length:Int)) :
  ∃ t' f',Value.slice (if (t.c:Int).toNat=Int.toNat k then t.a else Option.map (fun x=>x.add (Int.toNat k*prog.types[(9:Nat)].size)) t.a) ((t.n:Int).toNat-Int.toNat k) ((t.c:Int).toNat-Int.toNat k)=qL t'/\LR bE V t' (l.drop k.toNat) f':=by
 obtain⟨f',L⟩:=h.dropK (k:=k.toNat) (by omega);refine⟨_,f',?_,L⟩
 rw [str_sz]
 rfl
theorem LR.takeS {V:aa} {t:ar} {l:List Tx} {f:List Nat} (h:LR bE V t l f) {k:Int} (h0:0<=k) (hk:k<=(l.length:Int)) :
  ∃ t' f',Value.slice (if (t.c:Int).toNat=Int.toNat (0:Int) then t.a else Option.map (fun x=>x.add (Int.toNat (0:Int)*prog.types[(9:Nat)].size)) t.a) (k.toNat-Int.toNat (0:Int)) ((t.c:Int).toNat-Int.toNat (0:Int))=qL t'/\LR bE V t' (l.take k.toNat) f':=by
 obtain⟨f',L⟩:=h.takeK (k:=k.toNat) (by omega);refine⟨_,f',?_,L⟩
 show Value.slice _ _ _=Value.slice _ _ _
 have e:Int.toNat (0:Int)=0:=rfl;rw [e,Nat.zero_mul,Nat.sub_zero]
 congr 1
 split
 ·rfl
 cases t.a with
 | none=>rfl
 | some a =>
  show some (a.add 0)=some a
  obtain⟨b,o,r⟩:=a;cases r <;> simp [Addr.add]
def hd (l:List Tx):ByteArray:=(l.getD 0 (fQ,())).1
theorem Qz (V:aa) (t:ar) (l:List Tx) (f:List Nat) (h:LR bE V t l f):ae prog V 134 [qL t] (fun V' r=>V'=V/\∃ t' f',r=.tuple #[.string (hd l),qL t']/\LR bE V t' l.tail f'):=by
 refine aM (N' _) fun _=>?_
 simp only [z8,T.wp];have hn:=h.1;have hc:=h.2.1;refine⟨fun h0=>?_,fun h0=>?_⟩
 ·have:t.n=0:=by
   have:(t.n:Int)=0:=by simpa using h0
   omega
  have e:l=[]:=List.eq_nil_of_length_eq_zero (by omega);subst e;exact⟨by trivial,t,f,rfl,h⟩
 have hp:0<l.length:=by
  have:¬ (t.n:Int)=0:=by simpa using h0
  omega
 obtain⟨⟨b,o,a1,l1⟩,z1⟩:=h.txt hp;obtain⟨t',f',e',L'⟩:=h.aam (k:=1) (by decide) (by omega);refine⟨_,a1,by decide,by omega,l[0].1,l1,⟨by decide,by omega,by omega,by omega⟩,by trivial,t',f',?_,?_⟩
 ·rw [<- e']
  show Value.tuple #[.string l[0].1,_]=Value.tuple #[.string (hd l),_]
  rw [hd,List.getD_eq_getElem?_getD,List.getElem?_eq_getElem hp]
  rfl
 have:l.tail=l.drop (1:Int).toNat:=by simp
 rw [this]; exact L'
def EB:TypeDesc->Bool | .interface _=>false | _=>true
theorem Lp {P:Program} {V:aa} {T xt:TypeId} {u:TypeDesc} {v:Value} (hu:P.underlying T=some u) (hn:EB u=true) :
  sV P V (sU.as (.iface T v) xt T true).ye (fun V' r=>V'=V/\r=.tuple #[v,.bool true]):=by
 intro w hw;refine⟨_,w,V,?_,Fr.refl V w,hw,rfl,rfl⟩
 cases u <;> first | (simp [EB] at hn; done) | simp [sU.ye,Instr.typeAssert,run_underlying hu]
theorem Lq {P:Program} {V:aa} {T xt:TypeId} {u:TypeDesc} {z:Value} (hu:P.underlying T=some u) (hn:EB u=true) (hz:∀ w,(zeroValue T).run P w=.ok z w) :
  sV P V (sU.as .nilIface xt T true).ye (fun V' r=>V'=V/\r=.tuple #[z,.bool false]):=by
 intro w hw;refine⟨_,w,V,?_,Fr.refl V w,hw,rfl,rfl⟩
 cases u <;> first | (simp [EB] at hn; done) | simp [sU.ye,Instr.typeAssert,run_underlying hu,hz]
abbrev gMo:dx:=.g [.s,.b,.l]
abbrev gRt:dx:=.g [.s,.s,.b,.l,.i .i64]
def sH (P:Program) (T:TypeId):Bool:=match P.underlying T with | some u=>EB u | none=>false
theorem BM {P:Program} {T:TypeId} (h:sH P T=true):∃ u,P.underlying T=some u/\EB u=true:=by
 unfold sH at h;split at h
 ·exact⟨_,by assumption,h⟩
 cases h
theorem GQ {V:aa} {T xt:TypeId} {x:Value} (h:sH prog T=true):sV prog V (sU.as (.iface T x) xt T true).ye (fun V' r=>V'=V/\r=.tuple #[x,.bool true]):=by
 obtain⟨u,hu,hn⟩:=BM h;exact Lp hu hn
theorem aan {V:aa} {T xt:TypeId} {z:Value} (h:sH prog T=true) (hz:∀ w,(zeroValue T).run prog w=.ok z w):sV prog V (sU.as .nilIface xt T true).ye (fun V' r=>V'=V/\r=.tuple #[z,.bool false]):=by
 obtain⟨u,hu,hn⟩:=BM h;exact Lq hu hn hz
theorem aao:sH prog 9=true:=by kernel_rfl
theorem if_mo:sH prog 89=true:=by kernel_rfl
theorem if_rt:sH prog 86=true:=by kernel_rfl
theorem z_mo (w:World):(zeroValue 89).run prog w=.ok (dx.val gMo (⟨⟨[]⟩⟩,false,⟨none,0,0⟩,())) w:=aZ (by kernel_rfl) w
theorem z_rt (w:World):(zeroValue 86).run prog w=.ok (dx.val gRt (⟨⟨[]⟩⟩,⟨⟨[]⟩⟩,false,⟨none,0,0⟩,(0:Int),())) w:=aZ (by kernel_rfl) w
def VMo (V V':aa) (s:ByteArray) (r:Value):Prop:=(∃ (c:ByteArray) (n:Bool) (t:ar) (o:List aI) (g:List Nat),r=.iface 89 (dx.val gMo (c,n,t,()))/\LR rI V' t o g/\cQ V V' g/\bp c n o/\dW c n o=s/\∀ c' n' o',bp c' n' o'->dW c' n' o'=s->c=c'/\n=n'/\o=o')\/(r=.nilIface/\∀ c n o,bp c n o->dW c n o=s->False)
def VRt (V V':aa) (s:ByteArray) (r:Value):Prop:=(∃ (x:aW) (t:ar) (g:List Nat),r=.iface 86 (dx.val gRt (x.1,x.2.1,x.2.2.1,t,x.2.2.2.2.1,()))/\LR rI V' t x.2.2.2.1 g/\cQ V V' g/\bJ x/\fH x=s/\∀ y,bJ y->fH y=s->x=y)\/(r=.nilIface/\∀ y,bJ y->fH y=s->False)
def VStr (s:ByteArray) (r:Value):Prop:=r=.iface 9 (.string s)
theorem Wj {V:aa} (hV:nW V) (s:ByteArray) (hs:s.size<=1048576):ae prog V 221 [.string s,.int .i64 4] (fun V' r=>V.le V'/\VMo V V' s r):=by
 refine aM (oh _ _) fun _=>?_
 simp only [kG,T.wp];refine⟨fun _=>?_,fun h=>by simp at h⟩
 refine(GO hV s hs).mono ?_
 rintro V1 _ ⟨aF,c,n,t,o,f,ok,rfl,L,O,h1,h2⟩;refine⟨nofun,((c,n,t,()),ok,()),rfl,fun hT=>?_,fun hF=>?_⟩
 ·obtain rfl:ok=true:=hT
  obtain⟨k1,k2⟩:=h1.2 rfl;exact⟨aF,.inl ⟨c,n,t,o,f,rfl,L,O,k1,k2,fun c' n' o' a b=>(h2 c' n' o' a b).2⟩⟩
 obtain rfl:ok=false:=hF;exact⟨aF,.inr ⟨rfl,fun c' n' o' a b=>by cases (h2 c' n' o' a b).1⟩⟩
theorem Wk {V:aa} (hV:nW V) (s:ByteArray) (hs:s.size<=1048576):ae prog V 221 [.string s,.int .i64 8] (fun V' r=>V.le V'/\VRt V V' s r):=by
 refine aM (oh _ _) fun _=>?_
 simp only [kG,T.wp];refine⟨fun h=>by simp at h,fun _=>⟨fun h=>by simp at h,fun _=>⟨fun h=>by simp at h,fun _=>⟨fun _=>?_,fun h=>by simp at h⟩⟩⟩⟩
 refine(Ll hV s hs).mono ?_
 rintro V1 _ ⟨aF,x,t,f,ok,rfl,L,O,h1,h2⟩;refine⟨nofun,((x.1,x.2.1,x.2.2.1,t,x.2.2.2.2.1,()),ok,()),rfl,fun hT=>?_,fun hF=>?_⟩
 ·obtain rfl:ok=true:=hT
  obtain⟨k1,k2⟩:=h1.2 rfl;exact⟨aF,.inl ⟨x,t,f,rfl,L,O,k1,k2,fun y a b=>(h2 y a b).2⟩⟩
 obtain rfl:ok=false:=hF;exact⟨aF,.inr ⟨rfl,fun y a b=>by cases (h2 y a b).1⟩⟩
theorem BN {V:aa} (s:ByteArray) (f:Int) (h4:f≠4) (h6:f≠6) (h7:f≠7) (h8:f≠8):ae prog V 221 [.string s,.int .i64 f] (fun V' r=>V'=V/\VStr s r):=by
 refine aM (oh _ _) fun _=>?_
 simp only [kG,T.wp];refine⟨fun h=>absurd (by simpa using h) h4,fun _=>⟨fun h=>absurd (by simpa using h) h6,fun _=>⟨fun h=>absurd (by simpa using h) h7,fun _=>⟨fun h=>absurd (by simpa using h) h8,fun _=>⟨by trivial,rfl⟩⟩⟩⟩⟩
abbrev yb:List Sc:=[.i .i64,.s,.s,.s,.s,.s,.b,.l,.i .i64,.l,.l,.b,.l,.i .i64,.s,.s,.b,.l,.i .i64]
theorem Wl (V:aa) (b:Nat) (u:TypeId) (op:Int) (c1:ByteArray) (c2:ByteArray) (c3:ByteArray) (c4:ByteArray) (c5:ByteArray) (c6:Bool) (c7:ar) (c8:Int) (c9:ar) (c10:ar) (Tf:Bool) (c12:ar) (c13:Int) (c14:ByteArray) (c15:ByteArray) (c16:Bool) (c17:ar) (c18:Int) (s:ByteArray)
  (hb:V b=some (aH.aD yb (op,c1,c2,c3,c4,c5,c6,c7,c8,c9,c10,Tf,c12,c13,c14,c15,c16,c17,c18,()),(u,(0,0)))) :
  ae prog V 175 [.pointer (some ⟨b,0,none⟩),.string s,.int .i64 0] (fun V' r=>V'=aB V b (aH.aD yb (op,s,c2,c3,c4,c5,c6,c7,c8,c9,c10,Tf,c12,c13,c14,c15,c16,c17,c18,()),(u,(0,0)))/\r=.bool true):=by
 refine aM (kF _ _ _) fun _=>?_
 simp only [iR,T.wp];refine(BN s 0 (by decide) (by decide) (by decide) (by decide)).mono ?_
 rintro V1 r ⟨rfl,rfl⟩;refine⟨nofun,⟨.iface 9 (.string s),rfl⟩,rfl,?_⟩
 refine⟨fun _=>?_,fun h=>by simp at h⟩
 refine(GQ aao).mono ?_
 rintro V2 r ⟨rfl,rfl⟩;refine⟨(s,true,()),rfl,?_⟩
 simp only [ah];exact⟨_,u,by trivial,hb,(by show 0+1+1<=19; omega),rfl,rfl⟩
theorem Wm (V:aa) (b:Nat) (u:TypeId) (op:Int) (c1:ByteArray) (c2:ByteArray) (c3:ByteArray) (c4:ByteArray) (c5:ByteArray) (c6:Bool) (c7:ar) (c8:Int) (c9:ar) (c10:ar) (Tf:Bool) (c12:ar) (c13:Int) (c14:ByteArray) (c15:ByteArray) (c16:Bool) (c17:ar) (c18:Int) (s:ByteArray)
  (hb:V b=some (aH.aD yb (op,c1,c2,c3,c4,c5,c6,c7,c8,c9,c10,Tf,c12,c13,c14,c15,c16,c17,c18,()),(u,(0,0)))) :
  ae prog V 175 [.pointer (some ⟨b,0,none⟩),.string s,.int .i64 3] (fun V' r=>V'=aB V b (aH.aD yb (op,c1,c2,c3,s,c5,c6,c7,c8,c9,c10,Tf,c12,c13,c14,c15,c16,c17,c18,()),(u,(0,0)))/\r=.bool true):=by
 refine aM (kF _ _ _) fun _=>?_
 simp only [iR,T.wp];refine(BN s 3 (by decide) (by decide) (by decide) (by decide)).mono ?_
 rintro V1 r ⟨rfl,rfl⟩;refine⟨nofun,⟨.iface 9 (.string s),rfl⟩,rfl,?_⟩
 refine⟨fun h=>by simp at h,fun _=>⟨fun h=>by simp at h,fun _=>⟨fun h=>by simp at h,fun _=>⟨fun _=>?_,fun h=>by simp at h⟩⟩⟩⟩
 refine(GQ aao).mono ?_
 rintro V2 r ⟨rfl,rfl⟩;refine⟨(s,true,()),rfl,?_⟩
 simp only [ah];exact⟨_,u,by trivial,hb,(by show 0+4+1<=19; omega),rfl,rfl⟩
theorem Wn {V:aa} (hV:nW V) (b:Nat) (u:TypeId) (op:Int) (c1:ByteArray) (c2:ByteArray) (c3:ByteArray) (c4:ByteArray) (c5:ByteArray) (c6:Bool) (c7:ar) (c8:Int) (c9:ar) (c10:ar) (Tf:Bool) (c12:ar) (c13:Int) (c14:ByteArray) (c15:ByteArray) (c16:Bool) (c17:ar) (c18:Int) (s:ByteArray) (hs:s.size<=1048576)
  (hb:V b=some (aH.aD yb (op,c1,c2,c3,c4,c5,c6,c7,c8,c9,c10,Tf,c12,c13,c14,c15,c16,c17,c18,()),(u,(0,0)))) :
  ae prog V 175 [.pointer (some ⟨b,0,none⟩),.string s,.int .i64 4] (fun V' r=>∃ (V1:aa) (c:ByteArray) (n:Bool) (t:ar) (ok:Bool),V.le V1/\((ok=true/\∃ (o:List aI) (g:List Nat),LR rI V1 t o g/\cQ V V1 g/\bp c n o/\dW c n o=s/\∀ c1 n1 o1,bp c1 n1 o1->dW c1 n1 o1=s->c=c1/\n=n1/\o=o1)\/(ok=false/\c=fQ/\n=false/\t=⟨none,0,0⟩/\∀ c1 n1 o1,bp c1 n1 o1->dW c1 n1 o1=s->False))/\V'=aB V1 b (aH.aD yb (op,c1,c2,c3,c4,c,n,t,c8,c9,c10,Tf,c12,c13,c14,c15,c16,c17,c18,()),(u,(0,0)))/\r=.bool ok):=by
 refine aM (kF _ _ _) fun _=>?_
 simp only [iR,T.wp];refine(Wj hV s hs).mono ?_
 rintro V1 r ⟨aF,hv⟩;have fW:=aF _ _ hb;rcases hv with ⟨c,n,t,o,g,rfl,h⟩ | ⟨rfl,h⟩
 ·refine⟨nofun,⟨_,rfl⟩,rfl,?_⟩
  refine⟨fun h=>by simp at h,fun _=>⟨fun h=>by simp at h,fun _=>⟨fun h=>by simp at h,fun _=>⟨fun h=>by simp at h,fun _=>⟨fun _=>?_,fun h=>by simp at h⟩⟩⟩⟩⟩
  refine(GQ if_mo).mono ?_
  rintro V2 r ⟨rfl,rfl⟩;refine⟨((c,n,t,()),true,()),rfl,?_⟩
  simp only [ah];exact⟨_,u,by trivial,fW,(by show 0+5+3<=19; omega),V2,c,n,t,true,aF,.inl ⟨rfl,o,g,h⟩,rfl,rfl⟩
 refine⟨nofun,⟨_,rfl⟩,rfl,?_⟩
 refine⟨fun h=>by simp at h,fun _=>⟨fun h=>by simp at h,fun _=>⟨fun h=>by simp at h,fun _=>⟨fun h=>by simp at h,fun _=>⟨fun _=>?_,fun h=>by simp at h⟩⟩⟩⟩⟩
 refine(aan if_mo z_mo).mono ?_
 rintro V2 r ⟨rfl,rfl⟩;refine⟨((⟨⟨[]⟩⟩,false,⟨none,0,0⟩,()),false,()),rfl,?_⟩
 simp only [ah];exact⟨_,u,by trivial,fW,(by show 0+5+3<=19; omega),V2,⟨⟨[]⟩⟩,false,⟨none,0,0⟩,false,aF,.inr ⟨rfl,rfl,rfl,rfl,h⟩,rfl,rfl⟩
theorem Wo {V:aa} (hV:nW V) (b:Nat) (u:TypeId) (op:Int) (c1:ByteArray) (c2:ByteArray) (c3:ByteArray) (c4:ByteArray) (c5:ByteArray) (c6:Bool) (c7:ar) (c8:Int) (c9:ar) (c10:ar) (Tf:Bool) (c12:ar) (c13:Int) (c14:ByteArray) (c15:ByteArray) (c16:Bool) (c17:ar) (c18:Int) (s:ByteArray) (hs:s.size<=1048576)
  (hb:V b=some (aH.aD yb (op,c1,c2,c3,c4,c5,c6,c7,c8,c9,c10,Tf,c12,c13,c14,c15,c16,c17,c18,()),(u,(0,0)))) :
  ae prog V 175 [.pointer (some ⟨b,0,none⟩),.string s,.int .i64 8] (fun V' r=>∃ (V1:aa) (p:ByteArray) (q:ByteArray) (n:Bool) (t:ar) (k:Int) (ok:Bool),V.le V1/\((ok=true/\∃ (o:List aI) (g:List Nat),LR rI V1 t o g/\cQ V V1 g/\bJ (p,q,n,o,k,())/\fH (p,q,n,o,k,())=s/\∀ y,bJ y->fH y=s->((p,q,n,o,k,()):aW)=y)\/(ok=false/\p=fQ/\q=fQ/\n=false/\t=⟨none,0,0⟩/\k=0/\∀ y,bJ y->fH y=s->False))/\V'=aB V1 b (aH.aD yb (op,c1,c2,c3,c4,c5,c6,c7,c8,c9,c10,Tf,c12,c13,p,q,n,t,k,()),(u,(0,0)))/\r=.bool ok):=by
 refine aM (kF _ _ _) fun _=>?_
 simp only [iR,T.wp];refine(Wk hV s hs).mono ?_
 rintro V1 r ⟨aF,hv⟩;have fW:=aF _ _ hb;rcases hv with ⟨x,t,g,rfl,h⟩ | ⟨rfl,h⟩
 ·refine⟨nofun,⟨_,rfl⟩,rfl,?_⟩
  refine⟨fun h=>by simp at h,fun _=>⟨fun h=>by simp at h,fun _=>⟨fun h=>by simp at h,fun _=>⟨fun h=>by simp at h,fun _=>⟨fun h=>by simp at h,fun _=>⟨fun h=>by simp at h,fun _=>⟨fun h=>by simp at h,fun _=>⟨fun h=>by simp at h,fun _=>⟨fun _=>?_,fun h=>by simp at h⟩⟩⟩⟩⟩⟩⟩⟩⟩
  refine(GQ if_rt).mono ?_
  rintro V2 r ⟨rfl,rfl⟩;refine⟨((x.1,x.2.1,x.2.2.1,t,x.2.2.2.2.1,()),true,()),rfl,?_⟩
  simp only [ah];exact⟨_,u,by trivial,fW,(by show 0+14+5<=19; omega),V2,x.1,x.2.1,x.2.2.1,t,x.2.2.2.2.1,true,aF,.inl ⟨rfl,_,g,h⟩,rfl,rfl⟩
 refine⟨nofun,⟨_,rfl⟩,rfl,?_⟩
 refine⟨fun h=>by simp at h,fun _=>⟨fun h=>by simp at h,fun _=>⟨fun h=>by simp at h,fun _=>⟨fun h=>by simp at h,fun _=>⟨fun h=>by simp at h,fun _=>⟨fun h=>by simp at h,fun _=>⟨fun h=>by simp at h,fun _=>⟨fun h=>by simp at h,fun _=>⟨fun _=>?_,fun h=>by simp at h⟩⟩⟩⟩⟩⟩⟩⟩⟩
 refine(aan if_rt z_rt).mono ?_
 rintro V2 r ⟨rfl,rfl⟩;refine⟨((⟨⟨[]⟩⟩,⟨⟨[]⟩⟩,false,⟨none,0,0⟩,(0:Int),()),false,()),rfl,?_⟩
 simp only [ah];exact⟨_,u,by trivial,fW,(by show 0+14+5<=19; omega),V2,⟨⟨[]⟩⟩,⟨⟨[]⟩⟩,false,⟨none,0,0⟩,0,false,aF,.inr ⟨rfl,rfl,rfl,rfl,rfl,rfl,h⟩,rfl,rfl⟩
theorem vg {s:ByteArray} (h:gH s):(32:UInt8) ∉ bl s:=fun k=>by
 obtain⟨i,hi,e⟩:=List.mem_iff_getElem.1 k;have hl:=bD s;have:=h.2.2.2 i (by omega);rw [lN hi,e] at this
 revert this; unfold mS kj; decide
theorem Lr {s:ByteArray} (h:Ec s):(32:UInt8) ∉ bl s:=fun k=>by
 obtain⟨i,hi,e⟩:=List.mem_iff_getElem.1 k;have hl:=bD s;have h3:=h.1;have:=h.2 i (by omega);rw [lN hi,e] at this
 revert this; decide
theorem lO {c:UInt8} {s:ByteArray} (h:c ∉ bl s):dL c s=[(s,())]:=uX (by simp [jg]) (by simp) (fun x hx=>by
 obtain rfl:x=(s,()):=by simpa using hx
 exact h)
theorem op_no {op:Int} (h:1<=op/\op<=9):(32:UInt8) ∉ bl (qV op):=by
 have h9:op=1\/op=2\/op=3\/op=4\/op=5\/op=6\/op=7\/op=8\/op=9:=by omega
 rcases h9 with rfl | rfl | rfl | rfl | rfl | rfl | rfl | rfl | rfl <;> decide
theorem wI (c:UInt8):∀ (p l:List UInt8),((eL c p l).map List.length).sum+(eL c p l).length=p.length+l.length+1
 | p,[]=>by simp [eL]
 | p,b :: l=>by
  rw [eL];split
  ·rw [List.map_cons,List.sum_cons,List.length_cons]
   have:=wI c [] l;simp only [List.length_nil,List.length_cons] at this ⊢;omega
  have:=wI c (p++[b]) l;simp only [List.length_append,List.length_cons,List.length_nil] at this ⊢;omega
theorem Lu (c:UInt8) (s:ByteArray):qR (dL c s)+(dL c s).length=s.size+1:=by
 have:=wI c [] (bl s);rw [bD] at this;have e:qR (dL c s)=((eL c [] (bl s)).map List.length).sum:=by
  unfold qR gI dL Go.Lib.lens;rw [List.map_map,List.map_map]
  congr 1
 rw [e];have e2:(dL c s).length=(eL c [] (bl s)).length:=by unfold dL; rw [List.length_map]
 rw [e2];simpa using this
theorem fT_nw {i:Ln} (ok:jC i) {g:aI} (hg:g∈aL (cY i)):(dL 32 (fT i g.1)).length=nw g.1:=by
 cases i with
 | r x =>
  obtain rfl:g=(8,()):=by simpa [fl_r] using hg
  exact(congrArg List.length (qd (show bJ x from ok))).trans rfl
 | o a =>
  rw [ZY] at hg;rcases List.mem_cons.1 hg with rfl | hg
  ·exact(congrArg List.length (lO (vg ok.1))).trans rfl
  obtain rfl:g=(3,()):=by simpa using hg
  exact(congrArg List.length (lO (Lr (oO ok.2)))).trans rfl
 | p a =>
  rw [BB] at hg;rcases List.mem_cons.1 hg with rfl | hg
  ·exact(congrArg List.length (lO (vg ok.1))).trans rfl
  obtain rfl:g=(4,()):=by simpa using hg
  exact(congrArg List.length (jI (lL ok.2.1))).trans rfl
noncomputable def mJ (i:Ln) (k:Nat):List Tx:=((aL (cY i)).drop k).flatMap fun g=>dL 32 (fT i g.1)
theorem QA {i:Ln} {k:Nat} (h:k<(aL (cY i)).length):mJ i k=dL 32 (fT i (aL (cY i))[k].1)++mJ i (k+1):=by
 unfold mJ;rw [List.drop_eq_getElem_cons h,List.flatMap_cons]
theorem Wp (i:Ln):mJ i (aL (cY i)).length=[]:=by unfold mJ; rw [List.drop_length]; rfl
theorem Sb (i:Ln):dL 32 (RN i)=(qV (cY i),()) :: mJ i 0:=by
 unfold RN;rw [Wg 32 (by simp [cT])];unfold cT mJ;rw [List.flatMap_cons,lO (op_no (jQ i)),List.flatMap_map,List.drop_zero]
 rfl
def nmN:Ln->ByteArray
 | .r _=>fQ
 | .o a=>a.1
 | .p a=>a.1
def part (i:Ln) (k:Nat):aH jE:=cm (cY i) (if k=0 then fQ else nmN i) fQ fQ ai fQ fQ false ai 0
def PartR (V:aa) (i:Ln) (k:Nat) (c:aH jE):Prop:=(k<(aL (cY i)).length/\c=part i k)\/(k=(aL (cY i)).length/\∃ s f,c=cells s i/\LR rI V s (sB i) f)
abbrev RdPost (V:aa) (b:Nat) (u:TypeId) (i:Ln) (k:Nat):aa->Value->Prop:=fun V' r=>r=.bool true/\∃ V1 c,V.le V1/\V'=aB V1 b (aH.aD jE c,(u,(0,0)))/\PartR V' i (k+1) c
theorem Sd {V V1:aa} {b:Nat} {y z:List Value × vn} {t:ar} {o:List aI} {g:List Nat} (hb:V b=some z) (L:LR rI V1 t o g) (O:cQ V V1 g):LR rI (aB V1 b y) t o g :=
 L.loc fun k hk=>bh fun e=>by
  have:=O.2.1 k hk;rw [e,hb] at this; cases this
theorem cI_step {V:aa} (hV:nW V) {i:Ln} (ok:jC i) {k:Nat} (hk:k<(aL (cY i)).length) {b:Nat} {u:TypeId} (hb:V b=some (aH.aD jE (part i k),(u,(0,0)))) :
  ae prog V 175 [.pointer (some ⟨b,0,none⟩),.string (fT i (aL (cY i))[k].1),.int .i64 (aL (cY i))[k].1] (RdPost V b u i k):=by
 have hz:=Nat.le_trans (GG ok (aL (cY i))[k].1) (by decide:2200<=1048576);have word:∀ {a:ByteArray} {op:Int},V b=some (aH.aD jE (cm op fQ fQ fQ ai fQ fQ false ai 0),(u,(0,0)))->ae prog V 175 [.pointer (some ⟨b,0,none⟩),.string a,.int .i64 0] (fun V' r=>r=.bool true/\V'=aB V b (aH.aD jE (cm op a fQ fQ ai fQ fQ false ai 0),(u,(0,0)))):=fun h =>
  (Wl V b u _ _ _ _ _ _ _ _ _ _ _ _ _ _ _ _ _ _ _ _ h).mono fun _ _ h=>⟨h.2,h.1⟩
 cases i with
 | r x =>
  obtain rfl:k=0:=by
   have:(aL (cY (.r x))).length=1:=rfl;omega
  refine(Wo hV b u _ _ _ _ _ _ _ _ _ _ _ _ _ _ _ _ _ _ _ (fH x) hz hb).mono ?_
  rintro V' r ⟨V1,p,q,n,t,k,ok',le,⟨rfl,o,g,L,O,_,_,hu⟩ | ⟨_,_,_,_,_,_,h⟩,rfl,rfl⟩
  ·obtain rfl:=hu x ok rfl
   exact⟨rfl,V1,cells t (.r (p,q,n,o,k,())),le,rfl,.inr ⟨rfl,t,g,rfl,Sd hb L O⟩⟩
  exact absurd rfl (h x ok)
 | o a =>
  have h2:(aL (cY (.o a))).length=2:=rfl
  match k,hk with
  | 0,_ =>
   refine(word hb).mono ?_
   rintro V' r ⟨rfl,rfl⟩;exact⟨rfl,V,part (.o a) 1,aa.le.refl _,rfl,.inl ⟨by omega,rfl⟩⟩
  | 1,_ =>
   refine(Wm V b u _ _ _ _ _ _ _ _ _ _ _ _ _ _ _ _ _ _ _ _ hb).mono ?_
   rintro V' r ⟨rfl,rfl⟩;exact⟨rfl,V,cells ai (.o a),aa.le.refl _,rfl,.inr ⟨rfl,ai,[],rfl,jd⟩⟩
 | p a =>
  have h2:(aL (cY (.p a))).length=2:=by rw [BB]; rfl
  match k,hk with
  | 0,_ =>
   have e:(aL (cY (.p a)))[0]=(0,()):=by simp [BB]
   rw [e];refine(word hb).mono ?_
   rintro V' r ⟨rfl,rfl⟩;exact⟨rfl,V,part (.p a) 1,aa.le.refl _,rfl,.inl ⟨by omega,rfl⟩⟩
  | 1,_ =>
   have e:(aL (cY (.p a)))[1]=(4,()):=by simp [BB]
   rw [e] at hz ⊢;refine(Wn hV b u _ _ _ _ _ _ _ _ _ _ _ _ _ _ _ _ _ _ _ (dW a.2.1 false a.2.2.2.1) hz hb).mono ?_
   rintro V' r ⟨V1,c,n,t,ok',le,⟨rfl,o,g,L,O,_,_,hu⟩ | ⟨_,_,_,_,h⟩,rfl,rfl⟩
   ·obtain⟨rfl,rfl,rfl⟩:=hu _ _ _ (lL ok.2.1) rfl
    exact⟨rfl,V1,cells t (.p a),le,rfl,.inr ⟨h2.symm,t,g,rfl,Sd hb L O⟩⟩
   exact absurd rfl (h _ _ _ (lL ok.2.1))
  | k+2,h=>exact absurd h (by rw [h2]; omega)
abbrev QB (V:aa) (i:Ln):aa->Value->Prop:=fun V' r=>V.le V'/\∃ s f,r=.tuple #[l8 (cells s i),.bool true]/\LR rI V' s (sB i) f
theorem Lv {V:aa} (hV:nW V) {i:Ln} (ok:jC i):ae prog V 107 [.string (RN i)] (QB V i):=by
 refine aM (N7 _) fun _=>?_
 simp only [zZ,T.wp];have hs:=Nat.le_trans (BC ok) (by decide:10000<=1048576);refine(Qu V _ hs).mono ?_
 rintro V1 _ ⟨aF,t,f,rfl,L,_⟩;rw [Sb] at L;have hn:=L.1;rw [List.length_cons] at hn;have hc:=L.2.1;obtain⟨⟨b0,o0,a0,ld0⟩,_⟩:=L.txt (i:=0) (by simp);refine⟨nofun,t,rfl,_,a0,by decide,(by omega:(0:Int)<(t.n:Int)),_,ld0,(Wi V1 _).mono ?_⟩
 rintro V2 _ ⟨bm,op,rfl,ho⟩;have eo:op=cY i:=by
  rcases ho with ⟨a,b,c⟩ | ⟨_,c⟩
  ·exact Sa ⟨a,b⟩ (jQ i) c
  exact absurd rfl (c _ (jQ i).1 (jQ i).2)
 subst eo;refine⟨nofun,cY i,rfl,⟨by decide,by omega,by omega,by omega⟩,(p5 V2 _).mono ?_⟩
 rintro V3 _ ⟨bS,sf,ff,rfl,LF,_⟩;refine⟨nofun,sf,rfl,fun b hb=>?_⟩
 have l3:=(aF.trans bm).trans bS;obtain⟨t',f',et,L'⟩:=(L.le (bm.trans bS)).aam (k:=1) (by decide) (by rw [List.length_cons]; omega)
 have hfn:=LF.1;have h6:=(wA i).2.1;have h0n:=(wA i).1;refine⟨fun y V'=>V3.le V'/\∃ (k:Nat) (c:aH jE) (g:List Nat),y.2.1=(k:Int)/\k<=(aL (cY i)).length/\V' b=some (aH.aD jE c,(91,(0,0)))/\PartR V' i k c/\LR bE V3 y.1 (mJ i k) g,
  fun y _=>(((aL (cY i)).length:Int)-(y.2.1:Int)).toNat,⟨(t',(0:Int),()),?_,aG hb,0,part i 0,f',rfl,Nat.zero_le _,av,.inl ⟨h0n,rfl⟩,L'⟩,?_⟩
 ·rw [et]; rfl
 rintro⟨(tw:ar),(j:Int),u⟩ V' ⟨GS,k,c,g,e1,lV,hBx,hP,LW⟩;replace e1:j=(k:Int):=e1;replace LW:LR bE V3 tw (mJ i k) g:=LW;subst e1;have hwn:=LW.1;have hwc:=LW.2.1;refine⟨fun aN=>?_,fun cg=>?_⟩
 ·have h1:k<(aL (cY i)).length:=by
   have:(k:Int)<(sf.n:Int):=bq aN;omega
  have lY:(aL (cY i))[k]∈aL (cY i):=List.getElem_mem h1;obtain⟨b1,o1,a1,l1⟩:=(LF.le GS).int h1;have Hm:=fT_nw ok lY;have ll:=QA h1;rw [ll,List.length_append] at hwn;have nT:=Lu 32 (fT i (aL (cY i))[k].1);have gv:=GG ok (aL (cY i))[k].1;obtain⟨_,rfl⟩:=hP.resolve_right fun h=>by omega
  refine⟨_,a1,(by omega:(0:Int)<=(k:Int)),(by omega:(k:Int)<(sf.n:Int)),(aL (cY i))[k].1,l1,(Qy V' _).mono ?_⟩
  rintro V4 _ ⟨rfl,rfl⟩;refine⟨nofun,_,rfl,fun Pr=>?_,fun _=>?_⟩
  ·have:(tw.n:Int)<(nw (aL (cY i))[k].1:Int):=bq Pr
   omega
  have q1:((nw (aL (cY i))[k].1:Nat):Int)<=(tw.c:Int):=by omega
  have q2:((nw (aL (cY i))[k].1:Nat):Int)<=(tw.n:Int):=by omega
  have q3:(tw.n:Int)<=(tw.c:Int):=by omega
  have q4:((nw (aL (cY i))[k].1:Nat):Int)<=((mJ i k).length:Int):=by rw [ll,List.length_append]; omega
  obtain⟨t2,f2,et2,L2⟩:=(LW.le GS).takeS (k:=(nw (aL (cY i))[k].1:Int)) (by omega) q4;rw [Int.toNat_natCast,ll,List.take_left' Hm] at L2;refine⟨⟨Int.le_refl _,Int.natCast_nonneg _,q1,Int.le_refl _⟩,?_⟩
  rw [et2];refine(yG V4 t2 _ f2 (⟨⟨[32]⟩⟩:ByteArray) L2 ?_ ?_).mono ?_
  ·have h3:(⟨⟨[32]⟩⟩:ByteArray).size=1:=rfl
   rw [h3];omega
  ·omega
  rintro V5 _ ⟨rfl,rfl⟩;rw [sG];refine⟨nofun,_,rfl,(cI_step (hV.le (l3.trans GS)) ok h1 hBx).mono ?_⟩
  rintro V6 _ ⟨rfl,V7,c',o8,rfl,hP'⟩;refine⟨nofun,true,rfl,fun z=>absurd z (by decide),fun _=>?_⟩
  obtain⟨t3,f3,et3,L3⟩:=LW.aam (k:=(nw (aL (cY i))[k].1:Int)) (by omega) q4;rw [Int.toNat_natCast,ll,List.drop_left' Hm] at L3;refine⟨⟨Int.natCast_nonneg _,q2,q3,Int.le_refl _⟩,?_⟩
  rw [et3];refine⟨_,rfl,(t3,((k+1:Nat):Int),()),by rw [kD h1 (by omega)]; rfl,⟨nI (GS.trans o8) hb,k+1,c',f3,rfl,h1,av,hP',L3⟩,?_⟩
  show(((aL (cY i)).length:Int)-((k+1:Nat):Int)).toNat<(((aL (cY i)).length:Int)-(k:Int)).toNat
  omega
 have h1:k=(aL (cY i)).length:=by
  have:¬ (k:Int)<(sf.n:Int):=bU cg;omega
 rw [h1,Wp] at hwn;have lv:=l3.trans GS;rcases hP with ⟨h,_⟩ | ⟨_,s,fs,rfl,Ls⟩
 ·omega
 refine⟨fun h0=>?_,fun _=>⟨cells s i,fw (k:=0) (n:=19) hBx rfl,(wB (hV.le lv) ok Ls).mono ?_⟩⟩
 ·have:(tw.n:Int) > 0:=bq h0
  rw [List.length_nil] at hwn;omega
 rintro V7 _ ⟨o8,rfl⟩;refine⟨nofun,true,rfl,fun z=>absurd z (by decide),fun _=>?_⟩
 exact⟨cells s i,fw (k:=0) (n:=19) (o8 _ _ hBx) rfl,lv.trans o8,s,fs,rfl,Ls.le o8⟩
theorem BO:¬ gH fQ:=fun h=>by have:=h.1; revert this; decide
theorem noT_code:¬ Ec fQ:=fun h=>by have:=h.1; revert this; decide
theorem yM {e:Bool} {p:Prop} (h:e=true↔p) (n:¬ p):e=false:=by
 cases e with
 | true=>exact absurd (h.1 rfl) n
 | false=>rfl
theorem Hs:¬ false=true:=by decide
theorem Ht:¬ true=false:=by decide
def CmS (V:aa) (op:Int) (a u mc:ByteArray) (mm:ar) (pf pt:ByteArray) (pn:Bool) (pm:ar) (ps:Int):Prop :=
 (op=1\/op=2\/op=3\/op=9)/\(op=9/\a=fQ\/op≠9/\gH a)/\(op=1/\Ec u\/op≠1/\u=fQ)/\((2<=op/\op<=7)/\(∃ o f,pR (mc,false,o,())/\LR rI V mm o f)\/¬ (2<=op/\op<=7)/\mc=fQ/\mm=ai) /\
 (op=9/\(∃ o f,bJ (pf,pt,pn,o,ps,())/\LR rI V pm o f)\/op≠9/\pf=fQ/\pt=fQ/\pn=false/\pm=ai/\ps=0)
theorem QC {V:aa} {op:Int} {a u mc:ByteArray} {mm:ar} {pf pt:ByteArray} {pn:Bool} {pm:ar} {ps:Int} (h:CmS V op a u mc mm pf pt pn pm ps) :
  ae prog V 84 [l8 (cm op a u mc mm pf pt pn pm ps)] (lK V):=by
 obtain⟨dm,ha,hu,hm,hr⟩:=h;refine aM (X7 _) fun _=>?_
 simp only [IH,T.wp];refine(wu V op).mono ?_
 rintro V1 _ ⟨rfl,rfl⟩;have d1:decide (op=4\/op=5\/op=7)=false:=decide_eq_false (by omega);have d2:decide (op=7)=false:=decide_eq_false (by omega);have d4:decide (op=5\/op=7\/op=8)=false:=decide_eq_false (by omega);rw [d1,d2,d4];have b6:¬ (op == 6)=true:=fun q=>by have:=beq_iff_eq.1 q; omega
 have le:=aa.le.refl V1;have nt:¬ (!fQ.toList == fQ.toList)=true:=by rw [uW]; decide
 have zw:fQ.size<=9223372036854775807:=by decide
 refine⟨nofun,(false,false,decide (2<=op/\op<=7),false,()),rfl,fun _ V'=>V1.le V',?_,?_⟩
 ·refine(KJ V1 op).mono ?_
  rintro V2 r ⟨rfl,e,rfl,he⟩;obtain rfl:e=true:=he.2 (by omega);have za:a.size<=9223372036854775807:=by
   rcases ha with ⟨_,rfl⟩ | ⟨_,h⟩
   ·exact zw
   exact jB h
  refine⟨fun _=>le,true,rfl,fun z=>absurd z (by decide),fun _=>(jy V2 a za).mono ?_⟩
  rintro V3 r ⟨rfl,e3,rfl,vw⟩;rcases ha with ⟨rfl,rfl⟩ | ⟨h9,hw⟩
  ·obtain rfl:=yM vw BO
   exact⟨fun _=>le,false,rfl,fun z=>absurd z (by decide),fun _=>⟨fun _=>⟨fun z=>absurd z nt,fun _=>⟨_,rfl,(),rfl,le⟩⟩,fun z=>absurd z (by decide)⟩⟩
  obtain rfl:=vw.2 hw;have q9:(op == 9)=false:=beq_eq_false_iff_ne.2 h9;dsimp only;rw [q9];exact⟨fun _=>le,true,rfl,fun z=>absurd z (by decide),fun _=>⟨fun z=>absurd z (by decide),fun _=>⟨_,rfl,(),rfl,le⟩⟩⟩
 rintro _ W0 iA;refine⟨fun _ V'=>V1.le V',?_,?_⟩
 ·refine(jy W0 fQ zw).mono ?_
  rintro V4 r ⟨rfl,e4,rfl,he4⟩;obtain rfl:=yM he4 BO;refine⟨nofun,false,rfl,fun z=>absurd z (show ¬ false=true by decide),fun _=>⟨fun _=>⟨fun z=>absurd z nt,fun _=>(jy V4 fQ zw).mono ?_⟩,fun z=>absurd z (show ¬ true=false by decide)⟩⟩
  rintro V5 r ⟨rfl,e5,rfl,he5⟩;obtain rfl:=yM he5 BO;exact⟨nofun,false,rfl,fun z=>absurd z (show ¬ false=true by decide),fun _=>⟨fun _=>⟨fun z=>absurd z nt,fun _=>⟨_,rfl,(),rfl,iA⟩⟩,fun z=>absurd z (show ¬ true=false by decide)⟩⟩
 rintro _ W1 aF;refine⟨fun _ V'=>V1.le V',?_,?_⟩
 ·have zu:u.size<=9223372036854775807:=by
   rcases hu with ⟨_,h⟩ | ⟨_,rfl⟩
   ·have:=h.1; omega
   exact zw
  refine(VG W1 u zu).mono ?_
  rintro V4 r ⟨rfl,e4,rfl,he4⟩;rcases hu with ⟨rfl,hc⟩ | ⟨h1,rfl⟩
  ·obtain rfl:=he4.2 hc
   exact⟨fun _=>aa.le.refl _,true,rfl,fun z=>absurd z (by decide),fun _=>⟨fun z=>absurd z (by decide),fun _=>⟨_,rfl,(),rfl,aF⟩⟩⟩
  obtain rfl:=yM he4 noT_code;have q1:(op == 1)=false:=beq_eq_false_iff_ne.2 h1;dsimp only;rw [q1];exact⟨fun _=>aa.le.refl _,false,rfl,fun z=>absurd z (by decide),fun _=>⟨fun _=>⟨fun z=>absurd z nt,fun _=>⟨_,rfl,(),rfl,aF⟩⟩,fun _=>⟨_,rfl,(),rfl,aF⟩⟩⟩
 rintro _ W2 bm;refine⟨fun _ V'=>V1.le V',?_,?_⟩
 ·rcases hm with ⟨h2,o,f,hp,L⟩ | ⟨h2,rfl,rfl⟩
  ·rw [decide_eq_true h2]
   have z3:mc.size=3:=bH hp.1;refine⟨fun _=>(pY (V:=W2) _ (mc,false,o,()) f (ko (by omega) (L.le bm))).mono ?_,fun z=>absurd z (by decide)⟩
   rintro V4 r ⟨jm,e4,rfl,he4⟩;obtain rfl:=he4.2 ⟨hp,rfl⟩;exact⟨nofun,true,rfl,fun z=>absurd z (by decide),fun _=>⟨fun z=>absurd z (by decide),fun _=>⟨_,rfl,(),rfl,bm.trans jm⟩⟩⟩
  rw [decide_eq_false h2];exact⟨fun z=>absurd z (by first | exact Hs | exact Ht),fun _=>⟨fun _=>⟨fun z=>absurd z nt,fun _=>⟨fun z=>absurd z (by first | exact Hs | exact Ht),fun _=>⟨fun z=>absurd z (by first | exact Hs | exact Ht),fun _=>⟨_,rfl,(),rfl,bm⟩⟩⟩⟩,fun z=>absurd z (by first | exact Hs | exact Ht)⟩⟩
 rintro _ W3 bS;refine⟨fun _ V'=>V1.le V',⟨fun z=>absurd z (by first | exact Hs | exact Ht),fun _=>⟨fun _=>⟨fun z=>absurd z (by first | exact Hs | exact Ht),fun _=>⟨_,rfl,(),rfl,bS⟩⟩,fun z=>absurd z (by first | exact Hs | exact Ht)⟩⟩,?_⟩
 rintro _ W4 jm;refine⟨fun _ V'=>V1.le V',⟨fun z=>absurd z b6,fun _=>⟨fun _=>⟨fun z=>absurd z (by first | exact Hs | exact Ht),fun _=>⟨_,rfl,(),rfl,jm⟩⟩,fun _=>⟨_,rfl,(),rfl,jm⟩⟩⟩,?_⟩
 rintro _ W5 fu;refine⟨fun _ V'=>V1.le V',⟨fun z=>absurd z (by first | exact Hs | exact Ht),fun _=>⟨fun _=>(Bq W5 false ai 0 [] [] jd).mono ?_,fun z=>absurd z (by first | exact Hs | exact Ht)⟩⟩,?_⟩
 ·rintro V6 r ⟨rfl,e6,rfl,he6⟩
  obtain rfl:=he6.2 ⟨⟨rfl,rfl⟩,rfl⟩;exact⟨fun _=>aa.le.refl _,true,rfl,fun z=>absurd z (by decide),fun _=>⟨_,rfl,(),rfl,fu⟩⟩
 rintro _ W6 rk;rcases hr with ⟨h9,o,f,hq,L⟩ | ⟨h9,rfl,rfl,rfl,rfl,rfl⟩
 ·refine⟨fun _ V'=>V1.le V'/\False,⟨fun _=>(kU (V:=W6) trivial (pf,pt,pn,o,ps,()) pm f (L.le rk)).mono ?_,fun z=>absurd h9 (beq_eq_false_iff_ne.1 z)⟩,fun _ _ h=>absurd h.2 id⟩
  rintro V7 r ⟨o8,e7,rfl,he7⟩;obtain rfl:=he7.2 hq;exact⟨nofun,true,rfl,rk.trans o8,rfl⟩
 refine⟨fun _ V'=>V1.le V',⟨fun z=>absurd (beq_iff_eq.1 z) h9,fun _=>⟨_,rfl,(),rfl,rk⟩⟩,?_⟩
 rintro _ W7 o8;have nt1:¬ (fQ.toList == fQ.toList)=false:=by rw [uW]; decide
 refine⟨fun _=>⟨fun _=>(Bq W7 false ai 0 [] [] jd).mono ?_,fun z=>absurd z nt1⟩,fun z=>absurd z nt1⟩
 rintro V8 r ⟨rfl,e8,rfl,he8⟩;obtain rfl:=he8.2 ⟨⟨rfl,rfl⟩,rfl⟩;exact⟨nofun,true,rfl,o8,rfl⟩
theorem vh (a:aE):cY (.p a)=2\/cY (.p a)=3:=by unfold cY; dsimp only; split <;> simp
theorem wJ {V:aa} {s:ar} {f:List Nat} {i:Ln} (ok:jC i) (L:LR rI V s (sB i) f):ae prog V 84 [l8 (cells s i)] (lK V):=by
 cases i with
 | r x=>exact QC (op:=9) ⟨by decide,.inl ⟨rfl,rfl⟩,.inr ⟨by decide,rfl⟩,.inr ⟨by decide,rfl,rfl⟩,.inl ⟨rfl,_,f,ok,L⟩⟩
 | o a=>exact QC (op:=1) ⟨by decide,.inr ⟨by decide,ok.1⟩,.inl ⟨rfl,oO ok.2⟩,.inr ⟨by decide,rfl,rfl⟩,.inr ⟨by decide,rfl,rfl,rfl,rfl,rfl⟩⟩
 | p a =>
  have h:=vh a;exact QC (op:=cY (.p a)) ⟨by omega,.inr ⟨by omega,ok.1⟩,.inr ⟨by omega,rfl⟩,.inl ⟨by omega,_,f,lL ok.2.1,L⟩,.inr ⟨by omega,rfl,rfl,rfl,rfl,rfl⟩⟩
theorem join2 (a b:ByteArray):eK [(a,()),(b,())] ⟨⟨[32]⟩⟩=a++⟨⟨[32]⟩⟩++b:=lM (by
 rw [wH,bO,bO];simp [jg]
 rfl)
theorem cell_nm (s:ar) (i:Ln):(cells s i).2.1=nmN i:=by cases i <;> rfl
def Se:Ln->List Tx
 | .o a=>[(qV 1,()),(a.1,()),(a.2.1,())]
 | i=>[(qV (cY i),()),(nmN i,())]
theorem yc {V:aa} {s:ar} {f:List Nat} {i:Ln} (ok:jC i) (L:LR rI V s (sB i) f):ae prog V 43 [l8 (cells s i)] (eF V (RN i)):=by
 refine aM (Nt _) fun _=>?_
 simp only [zJ,T.wp];refine(wJ ok L).mono ?_
 rintro V1 _ ⟨aF,rfl⟩;refine⟨nofun,true,rfl,fun z=>absurd z (by decide),fun _=>?_⟩
 rw [p',cell_nm];have dm:cY i=1\/cY i=2\/cY i=3\/cY i=9:=by
  cases i with
  | r x=>exact .inr (.inr (.inr rfl))
  | o a=>exact .inl rfl
  | p a=>have:=vh a; omega
 refine(wu V1 (cY i)).mono ?_
 rintro V2 _ ⟨rfl,rfl⟩;have d1:decide (cY i=4\/cY i=5\/cY i=7)=false:=decide_eq_false (by omega);have d2:decide (cY i=7)=false:=decide_eq_false (by omega);have d4:decide (cY i=5\/cY i=7\/cY i=8)=false:=decide_eq_false (by omega);rw [d1,d2,d4];have b6:¬ (cY i == 6)=true:=fun q=>by have:=beq_iff_eq.1 q; omega
 refine⟨nofun,(false,false,decide (2<=cY i/\cY i<=7),false,()),rfl,(wx V2 _ (jQ i)).mono ?_⟩
 rintro V3 _ ⟨rfl,rfl⟩;have hr:(∃ x,i=.r x)\/cY i≠9:=by
  cases i with
  | r x=>exact .inl ⟨x,rfl⟩
  | o a=>exact .inr (show(1:Int)≠9 by decide)
  | p a=>have:=vh a; exact .inr (by omega)
 rcases hr with ⟨x,rfl⟩ | h9
 ·refine⟨nofun,_,rfl,fun _=>(wx V3 9 (by decide)).mono ?_,fun z=>absurd z (by show ¬ ((9:Int) == 9)=false; decide)⟩
  rintro V4 _ ⟨rfl,rfl⟩;have h1:=sw (show bJ x from ok);have h2:=KP (op:=9) (by decide);have h3:(⟨⟨[32]⟩⟩:ByteArray).size=1:=rfl;refine⟨fun _=>aa.le.refl _,qV 9,rfl,by omega,(x6 (V:=V4) trivial x s f (L.le aF)).mono ?_⟩
  rintro V5 _ ⟨fu,rfl⟩;rw [dG (show bJ x from ok)];refine⟨nofun,fH x,rfl,by rw [ByteArray.size_append]; omega,aF.trans fu,?_⟩
  exact congrArg Value.string (join2 _ _).symm
 refine⟨nofun,_,rfl,fun z=>absurd (beq_iff_eq.1 z) h9,fun _=>⟨rfl,⟨rfl,by decide,by decide⟩,fun y V'=>V3.le V'/\y.1.1=2/\y.1.2=[.string (qV (cY i)),.string (nmN i)],⟨fun z=>absurd z (by first | exact Hs | exact Ht),fun _=>⟨_,rfl,((2,_),()),rfl,aa.le.refl _,rfl,rfl⟩⟩,?_⟩⟩
 rintro⟨⟨n0,ys0⟩,u0⟩ W0 ⟨iA,UE,hy0⟩;replace UE:n0=2:=UE;replace hy0:ys0=_:=hy0;subst UE hy0;refine⟨fun y V'=>V3.le V'/\y.1.1=2/\y.1.2=[.string (qV (cY i)),.string (nmN i)],⟨fun z=>absurd z (by first | exact Hs | exact Ht),fun _=>⟨_,rfl,((2,_),()),rfl,iA,rfl,rfl⟩⟩,?_⟩
 rintro⟨⟨n1,ys1⟩,u1⟩ W1 ⟨lw1,gm,hy1⟩;replace gm:n1=2:=gm;replace hy1:ys1=_:=hy1;subst gm hy1;refine⟨fun y V'=>V3.le V'/\y.1.1=(Se i).length/\y.1.2=(Se i).map dO,?_,?_⟩
 ·cases i with
  | r x=>exact absurd rfl h9
  | o a=>exact⟨fun _=>⟨rfl,⟨rfl,show(2+1)*16<=140737488355328 by decide,show 2+1<=9223372036854775807 by decide⟩,_,rfl,((3,_),()),rfl,lw1,rfl,rfl⟩,fun z=>absurd z (by show ¬ ((1:Int) == 1)=false; decide)⟩
  | p a =>
   have:=vh a;exact⟨fun z=>by have:=beq_iff_eq.1 z; omega,fun _=>⟨_,rfl,((2,_),()),rfl,lw1,rfl,rfl⟩⟩
 rintro⟨⟨n2,ys2⟩,u2⟩ W2 ⟨bm,sN,yQ⟩;replace sN:n2=(Se i).length:=sN;replace yQ:ys2=(Se i).map dO:=yQ;subst sN yQ;refine⟨fun y V'=>V3.le V'/\y.1.1=(cT i).length/\y.1.2=(cT i).map dO,?_,?_⟩
 ·cases i with
  | r x=>exact absurd rfl h9
  | o a=>exact⟨fun z=>absurd z (by show ¬ decide ((2:Int)<=1/\(1:Int)<=7)=true; decide),fun _=>⟨_,rfl,((3,_),()),rfl,bm,rfl,rfl⟩⟩
  | p a =>
   have hp:=vh a;have hm:=lL ok.2.1;have z3:=bH hm.1;refine⟨fun _=>(uQ (V:=W2) trivial a.2.1 false s a.2.2.2.1 f (L.le (aF.trans bm)) (by omega)).mono ?_,fun z=>absurd (bU z) (fun k=>k (by omega))⟩
   rintro V5 _ ⟨fu,rfl⟩;rw [dG hm];refine⟨nofun,_,rfl,rfl,⟨rfl,show(2+1)*16<=140737488355328 by decide,show 2+1<=9223372036854775807 by decide⟩,_,rfl,((3,_),()),rfl,bm.trans fu,?_,?_⟩
   ·rw [jF,BB]; rfl
   show _=((qV (cY (.p a)),()) :: (aL (cY (.p a))).map fun g=>(fT (.p a) g.1,())).map dO
   rw [BB]; rfl
 rintro⟨⟨n3,ys3⟩,u3⟩ W3 ⟨bS,Rv,hy3⟩;refine⟨fun y V'=>V3.le V'/\y.1.1=(cT i).length/\y.1.2=(cT i).map dO,⟨fun z=>absurd z b6,fun _=>⟨_,rfl,((n3,ys3),()),rfl,bS,Rv,hy3⟩⟩,?_⟩
 rintro⟨⟨n4,ys4⟩,u4⟩ W4 ⟨jm,hn4,hy4⟩;refine⟨fun y V'=>V3.le V'/\y.1.1=(cT i).length/\y.1.2=(cT i).map dO,⟨fun z=>absurd z (by first | exact Hs | exact Ht),fun _=>⟨_,rfl,((n4,ys4),()),rfl,jm,hn4,hy4⟩⟩,?_⟩
 rintro⟨⟨n5,ys5⟩,u5⟩ W5 ⟨fu,hn5,hy5⟩;refine⟨fun y V'=>V3.le V'/\y.1.1=(cT i).length/\y.1.2=(cT i).map dO,⟨fun z=>absurd z (by first | exact Hs | exact Ht),fun _=>⟨_,rfl,((n5,ys5),()),rfl,fu,hn5,hy5⟩⟩,?_⟩
 rintro⟨⟨n6,ys6⟩,u6⟩ W6 ⟨rk,hn6,hy6⟩;replace hn6:n6=(cT i).length:=hn6;replace hy6:ys6=(cT i).map dO:=hy6;subst hn6 hy6;intro b' cap spare vq hc _;have hl:=jF i;have h6:=(wA i).2.1;have gv:=qa ok;have q:=ZM (V:=W6) (b:=b') (cap:=cap) (o:=cT i) (spare:=spare) (t:=9) vq hc (by omega) (fun y hy=>by have:=gv y hy; omega)
 refine(RJ _ _ _ _ (⟨⟨[32]⟩⟩:ByteArray) q.1 (Nat.le_trans (sC ok) (by decide))).mono ?_
 rintro V7 _ ⟨rfl,rfl⟩;exact⟨nofun,_,rfl,aF.trans (rk.trans (aG vq)),rfl⟩
def opV (s:ar):Ln->Value
 | .r y=>.iface 298 (fV (y.1,y.2.1,y.2.2.1,s,y.2.2.2.2.1,()))
 | .o a=>.iface 284 (E2 (a.1,a.2.1,()))
 | .p a=>.iface 286 (E3 (a.1,a.2.1,false,s,a.2.2.1,()))
theorem one_opV (s:ar) (i:Ln):Sx.one [opV s i]=true:=by cases i <;> rfl
theorem cI_opOf (V:aa) (s:ar) (i:Ln):ae prog V 224 [l8 (cells s i)] (fun V' r=>V'=V/\r=opV s i):=by
 refine aM (As _) fun _=>?_
 simp only [pD,T.wp];cases i with
 | r y =>
  refine⟨fun h=>by simp [cells] at h,fun _=>⟨fun h=>by simp [cells] at h,fun _=>⟨fun h=>by simp [cells] at h,fun _=>⟨fun h=>by simp [cells] at h,fun _=>⟨fun h=>by simp [cells] at h,fun _=>⟨fun h=>by simp [cells] at h,fun _=>⟨fun h=>by simp [cells] at h,fun _=>⟨fun h=>by simp [cells] at h,fun _=>⟨by trivial,rfl⟩⟩⟩⟩⟩⟩⟩⟩⟩
 | o a=>exact⟨fun _=>⟨by trivial,rfl⟩,fun h=>by simp [cells] at h⟩
 | p a =>
  obtain⟨n,c,e,m,u⟩:=a;cases e with
  | true=>exact⟨fun h=>by simp [cells,cY] at h,fun _=>⟨fun h=>by simp [cells,cY] at h,fun _=>⟨fun _=>⟨by trivial,rfl⟩,fun h=>by simp [cells,cY] at h⟩⟩⟩
  | false=>exact⟨fun h=>by simp [cells,cY] at h,fun _=>⟨fun _=>⟨by trivial,rfl⟩,fun h=>by simp [cells,cY] at h⟩⟩
theorem EC {y:aW} (h:bJ y):az.cB y<=1048576:=by
 have e:az.cB y=y.1.size+(y.2.1.size+(y.2.2.2.1.length+aC rI y.2.2.2.1+0)):=rfl;have h1:=bH h.1;have h2:=bH h.2.1;have h3:=h.2.2.2.2.2;rw [e,FY];omega
theorem cI_perfR {V:aa} (hV:wc V) {c:aH dq} {x:ao} {f:List Nat} (h:aj.R V c x f) (ht:aj.cB x<=1048576) {i:Ln} (ok:jC i) {s:ar} {g:List Nat} (L:LR rI V s (sB i) g) :
  ae prog V 223 [aU c,opV s i] (jc V (pW x (rn x i))):=by
 cases i with
 | r y =>
  have z1:=bH ok.1;have z2:=bH ok.2.1;have hr:∀ {V1:aa},V.le V1->az.R V1 (y.1,y.2.1,y.2.2.1,s,y.2.2.2.2.1,()) y (g++[]):=fun le=>cr.mk (by omega) (cr.mk (by omega) (bB.mk (cC.mk (L.le le) (np.mk a8.mk))))
  exact aM (uo c (y.1,y.2.1,y.2.2.1,s,y.2.2.2.2.1,())) fun _=>Gl (g:=543) (o:=fV (y.1,y.2.1,y.2.2.1,s,y.2.2.2.2.1,())) hV h ht (fun _ V1 c1 f1 aF R1 O1=>Vw (hV.le aF) c1 x f1 R1 ht O1 aF _ y _ (hr aF) (EC ok)) Gm
 | o a =>
  have z2:=bH ok.2;exact aM (uk c (a.1,a.2.1,())) fun _=>Gl (g:=412) (o:=E2 (a.1,a.2.1,())) hV h ht (fun _ _ c1 f1 aF R1 O1=>VS (hV.le aF) c1 x f1 R1 O1 aF a.1 a.2.1 (jB ok.1) (by omega)) GC
 | p a =>
  have z2:=bH ok.2.1.1;exact Qa hV c x f h ht a.1 (jB ok.1) (a.2.1,false,s,()) (KU a.2) g (ko (by omega) L) a.2.2.1
theorem vi {x:ao} (h:a7 x):aj.cB x<=1048576:=Nat.le_trans (PY h) (by decide)
theorem cI_DoR {V:aa} (hV:nW V) {c:aH dq} {x:ao} {f:List Nat} (h:aj.R V c x f) (hx:a7 x) {i:Ln} (ok:jC i) {s:ar} {g:List Nat} (L:LR rI V s (sB i) g) {z:ao} (e:rn x i=(z,0)) :
  ae prog V 177 [aU c,l8 (cells s i)] (jc V (z,0)):=by
 refine aM (fI_Do _ _) fun _=>?_
 simp only [tI_Do,T.wp];refine(wB hV ok L).mono ?_
 rintro V1 _ ⟨aF,rfl⟩;refine⟨nofun,true,rfl,fun q=>absurd q (by decide),fun _=>(cI_opOf V1 s i).mono ?_⟩
 rintro V2 _ ⟨rfl,rfl⟩;refine⟨fun _=>aa.le.refl _,⟨opV s i,one_opV s i⟩,rfl,(cI_perfR (hV.c.le aF) (aj.le h aF) (vi hx) ok (L.le aF)).mono ?_⟩
 rw [j5 hx,e];rintro V3 _ ⟨bS,c3,f3,rfl,R3,O3⟩;exact⟨nofun,(c3,_,()),rfl,aF.trans bS,c3,f3,rfl,R3,O3.pre aF⟩
theorem Wq {V:aa} (hV:nW V) {c:aH dq} {x:ao} {f:List Nat} (h:aj.R V c x f) (hx:a7 x) {i:Ln} (ok:jC i) {s:ar} {g:List Nat} (L:LR rI V s (sB i) g) {z:ao} (e:rn x i=(z,0)) :
  ae prog V 109 [aU c,l8 (cells s i)] (jc V (z,0)):=by
 refine aM (X' _ _) fun _=>?_
 simp only [IN,T.wp];refine(cI_DoR hV h hx ok L e).mono ?_
 rintro V1 _ ⟨aF,c1,f1,rfl,R1,O1⟩;exact⟨nofun,(c1,0,()),rfl,fun q=>by simp at q,fun _=>⟨aF,c1,f1,rfl,R1,O1⟩⟩
def okS:ByteArray:=⟨⟨[111,107]⟩⟩
def lcL:List Tx:=[(okS,()),(⟨⟨[102,111,114,109]⟩⟩,()),(⟨⟨[99,117,114]⟩⟩,()),(⟨⟨[97,99,99,116]⟩⟩,()),(⟨⟨[104,97,118,101]⟩⟩,()),(⟨⟨[109,97,116,99,104]⟩⟩,()),(⟨⟨[114,97,116,101]⟩⟩,()),(⟨⟨[119,101,105,103,104,116]⟩⟩,()),(⟨⟨[108,97,114,103,101]⟩⟩,()),(⟨⟨[102,117,108,108]⟩⟩,())]
theorem cI_Lc0 (V:aa):ae prog V 108 [.int .i64 0] (eF V okS):=by
 refine aM (TB _) fun _=>?_
 simp only [Da,T.wp];intro b cap spare hb hc _;have hz:∀ y∈lcL,y.1.size<=9223372036854775807:=fun y hy=>Nat.le_trans ((by decide:∀ y∈lcL,y.1.size<=6) y hy) (by decide)
 have k:=ZM (V:=V) (b:=b) (cap:=cap) (o:=lcL) (spare:=spare) (t:=9) hb hc (by decide) hz;refine(Ed _ _ lcL _ 0 k.1 (by decide)).mono ?_
 rintro V1 _ ⟨rfl,rfl⟩;exact⟨nofun,_,rfl,aG hb,rfl⟩


abbrev GU (o:Bool) (V:aa) (z:ao):aa->Value->Prop:=fun V' v=>V.le V'/\∃ c f,v=.tuple #[aU c,.string okS]/\aj.R V' c z f/\(o=true->cQ V V' f)
abbrev Lw (o:Bool) (V:aa) (z:ao):aa->Value->Prop:=fun V' v=>V.le V'/\∃ c f,v=.tuple #[aU c,.int .i64 0]/\aj.R V' c z f/\(o=true->cQ V V' f)
theorem ans_wp {gT gK gL gP:Nat} {o:Bool} {V V0:aa} {c:aH dq} {i:Ln} {z:ao} (hT:ae prog V gT [.string (RN i)] (QB V i))
  (hP:∀ {V':aa},V.le V'->∀ {s:ar} {g:List Nat},LR rI V' s (sB i) g->ae prog V' gP [aU c,l8 (cells s i)] (Lw o V' z)) (hL:∀ V',ae prog V' gL [.int .i64 0] (eF V' okS)) :
  (tAns gT gK gL gP c (RN i)).wp prog (fun V' vs=>GU o V z V' (packed vs)) V V0 []:=by
 simp only [tAns,T.wp];refine hT.mono ?_
 rintro V1 _ ⟨aF,s,g,rfl,L⟩;refine⟨nofun,(cells s i,true,()),rfl,fun q=>by simp at q,fun _=>(hP aF L).mono ?_⟩
 rintro V2 _ ⟨bm,c2,f2,rfl,R2,O2⟩;refine⟨nofun,(c2,0,()),rfl,(hL V2).mono ?_⟩
 rintro V3 _ ⟨bS,rfl⟩;exact⟨fun _=>bS,okS,rfl,(aF.trans bm).trans bS,c2,f2,rfl,aj.le R2 bS,fun q=>((O2 q).pre aF).post bS⟩
theorem QD {V:aa} (hV:nW V) {c:aH dq} {x:ao} {f:List Nat} (h:aj.R V c x f) (hx:a7 x) {i:Ln} (ok:jC i) {z:ao} (e:rn x i=(z,0)) :
  ae prog V 54 [aU c,.string (RN i)] (GU true V z) :=
 aM (Tk _ _) fun _=>ans_wp (Lv hV ok) (fun le _ _ L=>(Wq (hV.le le) (aj.le h le) hx ok L e).mono fun _ _ ⟨q,c,f,k,R,O⟩=>⟨q,c,f,k,R,fun _=>O⟩) cI_Lc0
theorem Lx {gK gA:Nat} {o:Bool} {V V0:aa} {c:aH dq} {x y:ao} {l:List Ln} (hr:VU x l y) (hl:l.length<=36) {t:ar} {g:List Nat} (L:LR bE V t (l.map tx) g)
  (hK:ae prog V gK [aU c] (fun V' v=>V.le V'/\∃ c f,v=aU c/\aj.R V' c x f/\(o=true->cQ V V' f)))
  (hA:∀ {V':aa},V.le V'->∀ {c:aH dq} {z:ao} {f:List Nat} {i:Ln} {z':ao},aj.R V' c z f->a7 z->jC i->rn z i=(z',0)->ae prog V' gA [aU c,.string (RN i)] (GU o V' z')) :
  (tAll gK gA c t).wp prog (fun V' vs=>V.le V'/\∃ c f t,packed vs=.tuple #[aU c,qL t]/\aj.R V' c y f/\(o=true->cQ V V' f)) V V0 []:=by
 simp only [tAll,T.wp];refine hK.mono ?_
 rintro V1 _ ⟨aF,c1,f1,rfl,R1,O1⟩;have hn:=L.1;rw [List.length_map] at hn;refine⟨nofun,c1,rfl,fun w V'=>V1.le V'/\∃ (k:Nat) (z:ao) (g:List Nat),w.2.1=(k:Int)/\k<=l.length/\w.1.1=k/\aj.R V' w.2.2 z g/\(o=true->cQ V V' g)/\VU z (l.drop k) y,fun w _=>((l.length:Int)-(w.2.1:Int)).toNat,⟨((0,[]),(0:Int),c1),rfl,aa.le.refl _,0,x,f1,rfl,Nat.zero_le _,rfl,R1,O1,hr⟩,?_⟩
 rintro⟨⟨n1,ys⟩,(j:Int),cw⟩ V2 ⟨hle,k,z,g2,hk,lV,gm,R2,O2,jO⟩;replace hk:j=(k:Int):=hk;replace gm:n1=k:=gm;replace R2:aj.R V2 cw z g2:=R2;subst hk gm;have bm:=aF.trans hle;refine⟨fun aN=>?_,fun cg=>?_⟩
 ·have h1:n1<l.length:=by
   have:(n1:Int)<(t.n:Int):=bq aN;omega
  obtain⟨⟨b1,o1,a1,l1⟩,_⟩:=(L.le bm).txt (i:=n1) (by rw [List.length_map]; exact h1)
  rw [List.getElem_map] at l1;rw [List.drop_eq_getElem_cons h1] at jO;obtain⟨hz,ok,z',e,hr3⟩:=jO;refine⟨_,a1,(by omega:(0:Int)<=(n1:Int)),(by omega:(n1:Int)<(t.n:Int)),_,l1,(hA bm R2 hz ok e).mono ?_⟩
  rintro V3 _ ⟨bS,c3,f3,rfl,R3,O3⟩;refine⟨nofun,(c3,okS,()),rfl,rfl,⟨rfl,(by omega:(n1+1)*16<=140737488355328),(by omega:n1+1<=9223372036854775807)⟩,_,rfl,((n1+1,ys++[.string okS]),((n1+1:Nat):Int),c3),by rw [kD h1 (by omega)]; rfl,⟨hle.trans bS,n1+1,z',f3,rfl,h1,rfl,R3,fun q=>(O3 q).pre bm,hr3⟩,?_⟩
  show((l.length:Int)-((n1+1:Nat):Int)).toNat<((l.length:Int)-(n1:Int)).toNat
  omega
 have h1:n1=l.length:=by
  have:¬ (n1:Int)<(t.n:Int):=bU cg;omega
 rw [h1,List.drop_length] at jO;replace jO:z=y:=jO;subst jO;intro b cap spare hb hc _;exact⟨bm.trans (aG hb),cw,g2,⟨some ⟨b,0,none⟩,n1,cap⟩,rfl,aj.le R2 (aG hb),fun q=>(O2 q).post (aG hb)⟩
abbrev Sf (o:Bool) (V:aa) (y:ao):aa->Value->Prop:=fun V' v=>V.le V'/\∃ c f t,v=.tuple #[aU c,qL t]/\aj.R V' c y f/\(o=true->cQ V V' f)
theorem cI_AllR {V:aa} (hV:nW V) {c:aH dq} {x y:ao} {f:List Nat} (h:aj.R V c x f) (hx:a7 x) {l:List Ln} (hr:VU x l y) (hl:l.length<=36) {t:ar} {g:List Nat} (L:LR bE V t (l.map tx) g) :
  ae prog V 23 [aU c,qL t] (Sf true V y) :=
 aM (Fg _ _) fun _=>Lx hr hl L ((rl V c x f h (vi hx)).mono fun _ _ ⟨q,c,f,k,R,O⟩=>⟨q,c,f,k,R,fun _=>O⟩) fun le _ _ _ _ _ R hz ok e=>QD (hV.le le) R hz ok e
abbrev bareL (x:ao):ao:=(x.1,[],x.2.2.1,x.2.2.2.1,())
theorem bare_ok {x:ao} (h:a7 x):a7 (bareL x):=⟨h.1,j6,h.2.2⟩
theorem Ly {x:ao} (h:a7 x):a7 ([],[],x.2.2.1,[],()):=⟨Bz,j6,x8 (b:=x.2.2.2.1) h.2.2⟩
theorem Sg (V:aa) {p:ByteArray} (hp:known p=true):aj.R V (ai,ai,p,ai,()) (([],[],p,[],()):ao) ([]++([]++[])) :=
 nN (x:=([],[],p,[],())) Bh Bh rfl (by have:=bH hp; omega) Bh
theorem cI_NewR {V:aa} (hV:nW V) {p:ByteArray} (hp:known p=true):ae prog V 22 [.string p] (fun V' r=>V'=V/\r=.tuple #[aU (ai,ai,p,ai,()),.bool true]):=by
 refine aM (Fc _) fun _=>?_
 simp only [tI,T.wp];refine(pG hV.1 p).mono ?_
 rintro V1 _ ⟨rfl,rfl⟩;rw [hp];exact⟨nofun,true,rfl,fun q=>absurd q (by decide),fun _=>⟨by trivial,rfl⟩⟩
theorem QE {V:aa} (c:aH dq) (x:ao) (fp:List Nat) (hx:aj.R V c x fp) (hL:a7 x) :
  ae prog V 17 [aU c] (fun V' r=>V.le V'/\∃ s f,r=qL s/\LR bE V' s ((jD x).map tx) f) :=
 aM (S5 _) fun _=>Z2 c x fp hx hL (iu trivial c x fp hx) (fun _=>yc) A1 fun V c x f h k=>Bk V c x f h k
theorem wK {V:aa} {t:ar} {l:List Tx} {w:ByteArray} {f:List Nat} (h:LR bE V t ((w,()) :: l) f):ae prog V 134 [qL t] (fun V' r=>V'=V/\∃ t' f',r=.tuple #[.string w,qL t']/\LR bE V t' l f') :=
 (Qz V t _ f h).mono (by
  rintro V' r ⟨rfl,t',f',rfl,L⟩;exact⟨rfl,t',f',rfl,L⟩)
theorem restW_o (a:aE) (ok:jC (.o a)):mJ (.o a) 0=[(a.1,()),(a.2.1,())]:=by
 show dL 32 a.1++(dL 32 a.2.1++[])=_
 rw [lO (vg ok.1),lO (Lr (oO ok.2))]; rfl
theorem restW_p (a:aE) (ok:jC (.p a)):mJ (.p a) 0=[(a.1,()),(a.2.1,()),(dF false a.2.2.2.1 (places a.2.1),())]:=by
 unfold mJ;rw [BB];show dL 32 a.1++(dL 32 (dW a.2.1 false a.2.2.2.1)++[])=_
 rw [lO (vg ok.1),jI (lL ok.2.1)]; rfl
theorem Ws (a:aE) (ok:jC (.p a)):a.2.1++⟨⟨[32]⟩⟩++dF false a.2.2.2.1 (places a.2.1)=dW a.2.1 false a.2.2.2.1:=by
 rw [<- join2,<- jI (lL ok.2.1),sG]
theorem Wt (x:aW):mJ (.r x) 0=dL 32 (fH x):=by
 show dL 32 (fH x)++[]=_
 rw [List.append_nil]
theorem got_op {i:Ln} {op:Int} (h:aal (qV (cY i)) op):op=cY i:=by
 rcases h with ⟨a,b,c⟩ | ⟨_,c⟩
 ·exact Sa ⟨a,b⟩ (jQ i) c
 exact absurd rfl (c _ (jQ i).1 (jQ i).2)
def Rd0 (V:aa):Ln->ar->aH jE->Prop
 | .r x,_,c=>∃ s f,c=cells s (.r x)/\LR rI V s x.2.2.2.1 f
 | .o a,t,c=>c=part (.o a) 1/\∃ f,LR bE V t [(a.2.1,())] f
 | .p a,t,c=>c=part (.p a) 1/\∃ f,LR bE V t [(a.2.1,()),(dF false a.2.2.2.1 (places a.2.1),())] f
def Rd3 (V:aa):Ln->ar->aH jE->Prop
 | .r x,_,c=>∃ s f,c=cells s (.r x)/\LR rI V s x.2.2.2.1 f
 | .o a,_,c=>c=cells ai (.o a)
 | .p a,t,c=>c=part (.p a) 1/\∃ f,LR bE V t [(a.2.1,()),(dF false a.2.2.2.1 (places a.2.1),())] f
def Rd4 (V:aa) (i:Ln) (c:aH jE):Prop:=∃ s f,c=cells s i/\LR rI V s (sB i) f
theorem opN_not {i:Ln}:cY i=1\/cY i=2\/cY i=3\/cY i=9:=by
 cases i with
 | r x=>exact .inr (.inr (.inr rfl))
 | o a=>exact .inl rfl
 | p a=>have:=vh a; omega
theorem LA {V:aa} {i:Ln} (ok:jC i):ae prog V 81 [.string (RN i)] (QB V i):=by
 refine aM (N3 _) fun _=>?_
 simp only [zW,F9,T.wp];have hs:=Nat.le_trans (BC ok) (by decide:10000<=1048576);refine(Qs V _ hs).mono ?_
 rintro V1 _ ⟨aF,t,f,rfl,L,_⟩;rw [Sb] at L;refine⟨nofun,t,rfl,(wK L).mono ?_⟩
 rintro V2 _ ⟨rfl,t1,f1,rfl,L1⟩;refine⟨nofun,(qV (cY i),t1,()),rfl,(Wh V2 _).mono ?_⟩
 rintro V3 _ ⟨bS,op,rfl,ho⟩;obtain rfl:=got_op ho;refine⟨nofun,cY i,rfl,(wu V3 _).mono ?_⟩
 rintro V4 _ ⟨rfl,rfl⟩;have dm:=opN_not (i:=i);have d1:decide (cY i=4\/cY i=5\/cY i=7)=false:=decide_eq_false (by omega);have d2:decide (cY i=7)=false:=decide_eq_false (by omega);have d4:decide (cY i=5\/cY i=7\/cY i=8)=false:=decide_eq_false (by omega);rw [d1,d2,d4];refine⟨nofun,(false,false,decide (2<=cY i/\cY i<=7),false,()),rfl,fun y V'=>V.le V'/\Rd0 V' i y.1 y.2,?_,?_⟩
 ·replace L1:=L1.le bS
  have l4:=aF.trans bS;cases i with
  | r x =>
   refine⟨fun _=>?_,fun z=>absurd z (by show ¬ ((9:Int) == 9)=false; decide)⟩
   rw [Wt] at L1;have h1:=Lu 32 (fH x);have h2:=sw (show bJ x from ok);have h3:(⟨⟨[32]⟩⟩:ByteArray).size=1:=rfl;refine(RJ V4 t1 _ f1 (⟨⟨[32]⟩⟩:ByteArray) L1 (by rw [h3]; omega)).mono ?_
   rintro V5 _ ⟨rfl,rfl⟩;rw [sG];refine⟨nofun,_,rfl,(Lm V5 _ (by omega)).mono ?_⟩
   rintro V6 _ ⟨rk,y,t6,f6,ok6,rfl,L6,_,hr⟩;obtain⟨rfl,rfl⟩:=hr.2 x ok rfl;exact⟨nofun,((y.1,y.2.1,y.2.2.1,t6,y.2.2.2.2.1,()),true,()),rfl,_,rfl,(t1,cells t6 (.r y)),rfl,l4.trans rk,t6,f6,rfl,L6⟩
  | o a =>
   refine⟨fun z=>absurd z (by show ¬ ((1:Int) == 9)=true; decide),fun _=>?_⟩
   rw [restW_o a ok] at L1;refine(wK L1).mono ?_
   rintro V5 _ ⟨rfl,t2,f2,rfl,L2⟩;exact⟨nofun,(a.1,t2,()),rfl,_,rfl,(t2,part (.o a) 1),rfl,l4,rfl,f2,L2⟩
  | p a =>
   have hp:=vh a;refine⟨fun z=>by have:cY (.p a)=9:=beq_iff_eq.1 z; omega,fun _=>?_⟩
   rw [restW_p a ok] at L1;refine(wK L1).mono ?_
   rintro V5 _ ⟨rfl,t2,f2,rfl,L2⟩;exact⟨nofun,(a.1,t2,()),rfl,_,rfl,(t2,part (.p a) 1),rfl,l4,rfl,f2,L2⟩
 rintro⟨t0,c0⟩ W0 h0;refine⟨fun y V'=>V.le V'/\Rd0 V' i y.1 y.2,⟨fun z=>absurd z (by first | exact Hs | exact Ht),fun _=>⟨_,rfl,(t0,c0),rfl,h0⟩⟩,?_⟩
 rintro⟨t2,c2⟩ W2 h2;refine⟨fun y V'=>V.le V'/\Rd0 V' i y.1 y.2,⟨fun z=>absurd z (by first | exact Hs | exact Ht),fun _=>⟨_,rfl,(t2,c2),rfl,h2⟩⟩,?_⟩
 rintro⟨t3,c3⟩ W3 ⟨GS,h3⟩;refine⟨fun y V'=>V.le V'/\Rd3 V' i y.1 y.2,?_,?_⟩
 ·cases i with
  | r x =>
   obtain⟨s,g,rfl,Ls⟩:=h3;exact⟨fun z=>absurd z (by show ¬ ((9:Int) == 1)=true; decide),fun _=>⟨_,rfl,(t3,cells s (.r x)),rfl,GS,s,g,rfl,Ls⟩⟩
  | o a =>
   obtain⟨rfl,g,Lt⟩:=h3;refine⟨fun _=>(wK Lt).mono ?_,fun z=>absurd z (by show ¬ ((1:Int) == 1)=false; decide)⟩
   rintro V5 _ ⟨rfl,t4,f4,rfl,L4⟩;exact⟨nofun,(a.2.1,t4,()),rfl,_,rfl,(t4,cells ai (.o a)),rfl,GS,rfl⟩
  | p a =>
   obtain⟨rfl,g,Lt⟩:=h3;have hp:=vh a;refine⟨fun z=>?_,fun _=>⟨_,rfl,(t3,part (.p a) 1),rfl,GS,rfl,g,Lt⟩⟩
   have:cY (.p a)=1:=beq_iff_eq.1 z;omega
 rintro⟨t4,c4⟩ W4 ⟨le4',h4⟩;refine⟨fun y V'=>V.le V'/\Rd4 V' i y.2,?_,?_⟩
 ·cases i with
  | r x =>
   obtain⟨s,g,rfl,Ls⟩:=h4;exact⟨fun z=>absurd z (by show ¬ decide ((2:Int)<=9/\(9:Int)<=7)=true; decide),fun _=>⟨_,rfl,(t4,cells s (.r x)),rfl,le4',s,g,rfl,Ls⟩⟩
  | o a =>
   obtain rfl:=h4;exact⟨fun z=>absurd z (by show ¬ decide ((2:Int)<=1/\(1:Int)<=7)=true; decide),fun _=>⟨_,rfl,(t4,cells ai (.o a)),rfl,le4',ai,[],rfl,jd⟩⟩
  | p a =>
   obtain⟨rfl,g,Lt⟩:=h4;have hp:=vh a;refine⟨fun _=>(wK Lt).mono ?_,fun z=>absurd (bU z) (fun k=>k (by omega))⟩
   rintro V5 _ ⟨rfl,t5,f5,rfl,L5⟩;refine⟨nofun,(a.2.1,t5,()),rfl,(wK L5).mono ?_⟩
   rintro V6 _ ⟨rfl,t6,f6,rfl,L6⟩;have hm:=Ws a ok;have hz:=x5 (lL ok.2.1);have e1:=congrArg ByteArray.size hm;rw [ByteArray.size_append] at e1;have e2:(a.2.1++⟨⟨[32]⟩⟩:ByteArray).size=a.2.1.size+1:=ByteArray.size_append;have e3:(⟨⟨[32]⟩⟩:ByteArray).size=1:=rfl;refine⟨nofun,(dF false a.2.2.2.1 (places a.2.1),t6,()),rfl,by dsimp only; omega,by dsimp only; omega,?_⟩
   dsimp only;rw [hm];refine(GP V6 _ (by omega)).mono ?_
   rintro V7 _ ⟨o8,c,n,t7,o,f7,ok7,rfl,L7,_,_,h7⟩;obtain⟨rfl,rfl,rfl,rfl⟩:=h7 _ _ _ (lL ok.2.1) rfl;exact⟨nofun,((a.2.1,false,t7,()),true,()),rfl,_,rfl,(t6,cells t7 (.p a)),rfl,le4'.trans o8,t7,f7,rfl,L7⟩
 rintro⟨t5,c5⟩ W5 ⟨fu,s5,f5,hc5,L5⟩;replace hc5:c5=cells s5 i:=hc5;subst hc5;refine⟨fun y V'=>V.le V'/\Rd4 V' i y.2,⟨fun z=>?_,fun _=>⟨_,rfl,(t5,cells s5 i),rfl,fu,s5,f5,rfl,L5⟩⟩,?_⟩
 ·have q:cY i=6:=by have q:(cells s5 i).1=6:=beq_iff_eq.1 z; rw [p'] at q; exact q
  omega
 rintro⟨t6,c6⟩ W6 ⟨rk,s6,f6,hc6,L6⟩;replace hc6:c6=cells s6 i:=hc6;subst hc6;refine⟨fun y V'=>V.le V'/\Rd4 V' i y.2,⟨fun z=>absurd z (by first | exact Hs | exact Ht),fun _=>⟨_,rfl,(t6,cells s6 i),rfl,rk,s6,f6,rfl,L6⟩⟩,?_⟩
 rintro⟨t7,c7⟩ W7 ⟨o8,s7,f7,hc7,L7⟩;replace hc7:c7=cells s7 i:=hc7;subst hc7;refine⟨fun y V'=>V.le V'/\Rd4 V' i y,⟨fun z=>absurd z (by first | exact Hs | exact Ht),fun _=>⟨_,rfl,cells s7 i,rfl,o8,s7,f7,rfl,L7⟩⟩,?_⟩
 rintro c8 W8 ⟨le8,s8,f8,hc8,L8⟩;replace hc8:c8=cells s8 i:=hc8;subst hc8;refine(wJ ok L8).mono ?_
 rintro V9 _ ⟨le9,rfl⟩;refine⟨nofun,true,rfl,fun z=>absurd z (by decide),fun _=>(yc ok (L8.le le9)).mono ?_⟩
 rintro V10 _ ⟨le10,rfl⟩;refine⟨nofun,RN i,rfl,fun z=>?_,fun _=>⟨(le8.trans le9).trans le10,s8,f8,rfl,(L8.le le9).le le10⟩⟩
 rw [uW] at z; cases z
theorem cS_Lc0 (V:aa):ae prog V 82 [.int .i64 0] (eF V okS):=by
 refine aM (Tq _) fun _=>?_
 simp only [CY,T.wp];refine(pJ V 0 0 9).mono ?_
 rintro V1 _ ⟨rfl,rfl⟩;exact⟨nofun,true,rfl,fun z=>absurd z (by decide),fun _=>⟨⟨by decide,by decide⟩,okS,rfl,aa.le.refl _,rfl⟩⟩
theorem cS_DoR {V:aa} {c:aH dq} {x:ao} {f:List Nat} (h:aj.R V c x f) (hx:a7 x) {i:Ln} (ok:jC i) {s:ar} {g:List Nat} (L:LR rI V s (sB i) g) {z:ao} (e:rn x i=(z,0)) :
  ae prog V 144 [aU c,l8 (cells s i)] (DoS V (z,0)):=by
 refine aM (fS_Do _ _) fun _=>?_
 simp only [tS_Do,T.wp];refine(wJ ok L).mono ?_
 rintro V1 _ ⟨aF,rfl⟩;refine⟨nofun,true,rfl,fun z=>absurd z (by decide),fun _=>?_⟩
 have ht:=vi hx;have h1:=aj.le h aF;have fin:∀ {V2:aa} {v:Value},DoS V1 (pW x (rn x i)) V2 v->∃ c f,V.le V2/\v=.tuple #[aU c,.int .i64 0]/\aj.R V2 c z f:=by
  rintro V2 v ⟨bm,c2,f2,rfl,R2⟩;rw [j5 hx,e] at R2;exact⟨c2,f2,aF.trans bm,by rw [j5 hx,e],R2⟩
 cases i with
 | r y =>
  have z1:=bH ok.1;have z2:=bH ok.2.1;refine⟨fun q=>by simp [cells] at q,fun _=>⟨fun q=>by simp [cells] at q,fun _=>⟨fun q=>by simp [cells] at q,fun _=>⟨fun q=>by simp [cells] at q,fun _=>⟨fun q=>by simp [cells] at q,fun _=>⟨fun q=>by simp [cells] at q,fun _=>⟨fun q=>by simp [cells] at q,fun _=>⟨fun q=>by simp [cells] at q,fun _=>?_⟩⟩⟩⟩⟩⟩⟩⟩
  refine(Vx trivial c x f h1 ht (y.1,y.2.1,y.2.2.1,s,y.2.2.2.2.1,()) y (g++[]) (cr.mk (by omega) (cr.mk (by omega) (bB.mk (cC.mk (L.le aF) (np.mk a8.mk))))) (EC ok)).mono ?_
  intro V2 v h2;obtain⟨c2,f2,bm,rfl,R2⟩:=fin h2;exact⟨nofun,(c2,0,()),rfl,bm,c2,f2,rfl,R2⟩
 | o a =>
  have z2:=bH ok.2;refine⟨fun _=>(VT trivial c x f h1 ht a.1 a.2.1 (jB ok.1) (by omega)).mono ?_,fun q=>by simp [cells] at q⟩
  intro V2 v h2;obtain⟨c2,f2,bm,rfl,R2⟩:=fin h2;exact⟨nofun,(c2,0,()),rfl,bm,c2,f2,rfl,R2⟩
 | p a =>
  have z2:=bH ok.2.1.1;have hM:aY.R V1 (a.2.1,false,s,()) (KU a.2) g:=ko (by omega) (L.le aF);obtain⟨n,cu,e',m,u⟩:=a;cases e' with
  | true =>
   refine⟨fun q=>by simp [cells,cY] at q,fun _=>⟨fun q=>by simp [cells,cY] at q,fun _=>⟨fun _=>(VC trivial c x f h1 ht n (jB ok.1) (cu,false,s,()) (KU (cu,true,m,u)) g hM).mono ?_,fun q=>by simp [cells,cY] at q⟩⟩⟩
   intro V2 v h2;obtain⟨c2,f2,bm,rfl,R2⟩:=fin h2;exact⟨nofun,(c2,0,()),rfl,bm,c2,f2,rfl,R2⟩
  | false =>
   refine⟨fun q=>by simp [cells,cY] at q,fun _=>⟨fun _=>(ZC trivial c x f h1 ht n (jB ok.1) (cu,false,s,()) (KU (cu,false,m,u)) g hM).mono ?_,fun q=>by simp [cells,cY] at q⟩⟩
   intro V2 v h2;obtain⟨c2,f2,bm,rfl,R2⟩:=fin h2;exact⟨nofun,(c2,0,()),rfl,bm,c2,f2,rfl,R2⟩
theorem Wu {V:aa} {c:aH dq} {x:ao} {f:List Nat} (h:aj.R V c x f) (hx:a7 x) {i:Ln} (ok:jC i) {s:ar} {g:List Nat} (L:LR rI V s (sB i) g) {z:ao} (e:rn x i=(z,0)) :
  ae prog V 83 [aU c,l8 (cells s i)] (Lw false V z):=by
 refine aM (X5 _ _) fun _=>?_
 simp only [IG,T.wp];refine(cS_DoR h hx ok L e).mono ?_
 rintro V1 _ ⟨aF,c1,f1,rfl,R1⟩;exact⟨nofun,(c1,0,()),rfl,fun q=>by simp at q,fun _=>⟨aF,c1,f1,rfl,R1,nofun⟩⟩
theorem cS_AllR {V:aa} {c:aH dq} {x y:ao} {f:List Nat} (h:aj.R V c x f) (hx:a7 x) {l:List Ln} (hr:VU x l y) (hl:l.length<=36) {t:ar} {g:List Nat} (L:LR bE V t (l.map tx) g) :
  ae prog V 16 [aU c,qL t] (Sf false V y) :=
 aM (Fb _ _) fun _=>Lx hr hl L ((oJ V c x f h (vi hx)).mono fun _ _ ⟨q,c,f,k,R⟩=>⟨q,c,f,k,R,nofun⟩) fun _ _ _ _ _ _ R hz ok e =>
  aM (Te _ _) fun _=>ans_wp (LA ok) (fun le' _ _ L=>Wu (aj.le R le') hz ok L e) cS_Lc0
def Wv (x y:ao) (ok:Bool):Prop:=(a7 x/\y=bareL x/\ok=true)\/(¬ a7 x/\y=dt/\ok=false)
theorem LB {x y y':ao} {a b:Bool} (h:Wv x y a) (k:Wv x y' b):y=y'/\a=b:=by
 rcases h with ⟨h,rfl,rfl⟩ | ⟨h,rfl,rfl⟩ <;> rcases k with ⟨k,rfl,rfl⟩ | ⟨k,rfl,rfl⟩
 ·exact⟨rfl,rfl⟩
 ·exact absurd h k
 ·exact absurd k h
 exact⟨rfl,rfl⟩
theorem rebR_tot {x y:ao} {a:Bool} (h:Wv x y a):aj.cB y<=1048576:=by
 rcases h with ⟨h,rfl,_⟩ | ⟨_,rfl,_⟩
 ·exact vi (bare_ok h)
 decide
abbrev GV (o:Bool) (V:aa) (x:ao):aa->Value->Prop:=fun V' v=>V.le V'/\∃ c y f ok,v=.tuple #[aU c,.bool ok]/\aj.R V' c y f/\(o=true->cQ V V' f)/\Wv x y ok
theorem QF {o:Bool} {V V':aa} {x:ao} (le:V.le V') (h:¬ a7 x):GV o V x V' (packed [aU lJ,.bool false]):=⟨le,lJ,dt,[],false,rfl,Gk V',fun _=>cQ.nil,.inr ⟨h,rfl,rfl⟩⟩
theorem QG {V:aa} (hV:nW V) (c:aH dq) (x:ao) (f:List Nat) (h:aj.R V c x f) (_:aj.cB x<=1048576) :
  ae prog V 7 [aU c] (GV true V x):=by
 have e2:c.2.2.1=x.2.2.1:=by
  obtain⟨c0,c1,c3,f0,f1,f3,rfl,_⟩:=fi h
  rfl
 refine aM (MW _) fun _=>?_
 simp only [zC,T.wp];refine(pP hV.c c x f h).mono ?_
 rintro V1 _ ⟨aF,e,rfl,he⟩;refine⟨nofun,e,rfl,fun q=>QF aF (bf he (by simpa using q)),fun q=>?_⟩
 have hx:=bt he (by simpa using q);rw [e2];refine(cI_NewR (hV.le aF) hx.2.2.1).mono ?_
 rintro V2 _ ⟨rfl,rfl⟩;refine⟨nofun,((ai,ai,x.2.2.1,ai,()),true,()),rfl,(Qk (hV.le aF) c x f (aj.le h aF) hx).mono ?_⟩
 rintro V3 _ ⟨bS,s,g,rfl,L⟩;refine⟨fun _=>bS,s,rfl,(cI_AllR ((hV.le aF).le bS) (Sg V3 hx.2.2.1) (Ly hx) (GD hx) (GF hx) L).mono ?_⟩
 rintro V4 _ ⟨jm,c4,f4,t4,rfl,R4,O4⟩;exact⟨nofun,(c4,t4,()),rfl,(aF.trans bS).trans jm,c4,_,f4,true,rfl,R4,fun q=>(O4 q).pre (aF.trans bS),.inl ⟨hx,rfl,rfl⟩⟩
theorem QH {V:aa} (_:VH V) (c:aH dq) (x:ao) (f:List Nat) (h:aj.R V c x f) (_:aj.cB x<=1048576) :
  ae prog V 5 [aU c] (GV false V x):=by
 have e2:c.2.2.1=x.2.2.1:=by
  obtain⟨c0,c1,c3,f0,f1,f3,rfl,_⟩:=fi h
  rfl
 refine aM (MV _) fun _=>?_
 simp only [zB,T.wp];have new:ae prog V 14 [.string c.2.2.1] (fun V' r=>V.le V'/\∃ c',r=.tuple #[aU c',.bool (known x.2.2.1)]/\(known x.2.2.1=true->c'=(ai,ai,x.2.2.1,ai,()))):=by
  rw [e2];refine aM (E9 _) fun _=>?_
  simp only [tH,T.wp];refine(mA V _).mono ?_
  rintro V1 _ ⟨aF,rfl⟩;refine⟨nofun,_,rfl,fun q=>⟨aF,_,by rw [show known x.2.2.1=false by simpa using q]; rfl,fun k=>by rw [show known x.2.2.1=false by simpa using q] at k; cases k⟩,fun q=>⟨aF,_,by rw [show known x.2.2.1=true by simpa using q]; rfl,fun _=>rfl⟩⟩
 refine new.mono ?_
 rintro V1 _ ⟨aF,c1,rfl,nT⟩;refine⟨nofun,(c1,known x.2.2.1,()),rfl,fun q=>QF aF fun k=>?_,fun q=>(iu trivial c x f (aj.le h aF)).mono ?_⟩
 ·have q':known x.2.2.1=false:=by simpa using q
  rw [k.2.2.1] at q'; cases q'
 obtain rfl:=nT (by simpa using q);rintro V2 _ ⟨bm,e,rfl,he⟩;have l2:=aF.trans bm;refine⟨nofun,e,rfl,fun q=>QF l2 (bf he (by simpa using q)),fun q=>?_⟩
 have hx:=bt he (by simpa using q);refine(QE c x f (aj.le h l2) hx).mono ?_
 rintro V3 _ ⟨bS,s,g,rfl,L⟩;refine⟨fun _=>bS,s,rfl,(cS_AllR (Sg V3 hx.2.2.1) (Ly hx) (GD hx) (GF hx) L).mono ?_⟩
 rintro V4 _ ⟨jm,c4,f4,t4,rfl,R4,_⟩;exact⟨nofun,(c4,t4,()),rfl,(l2.trans bS).trans jm,c4,_,f4,true,rfl,R4,nofun,.inl ⟨hx,rfl,rfl⟩⟩
theorem BP {V:aa} (hV:nW V) (c:aH dq) (x:ao) (f:List Nat) (h:aj.R V c x f) (ht:aj.cB x<=1048576) :
  ae prog V 7 [aU c] (fun V' v=>V.le V'/\∃ c y f ok,v=.tuple #[aU c,.bool ok]/\aj.R V' c y f/\cQ V V' f/\Wv x y ok) :=
 (QG hV c x f h ht).mono fun _ _ ⟨q,c,y,f,ok,e,R,O,k⟩=>⟨q,c,y,f,ok,e,R,O rfl,k⟩
theorem QI {V:aa} (hV:VH V) (c:aH dq) (x:ao) (f:List Nat) (h:aj.R V c x f) (ht:aj.cB x<=1048576) :
  ae prog V 5 [aU c] (fun V' v=>V.le V'/\∃ c y f ok,v=.tuple #[aU c,.bool ok]/\aj.R V' c y f/\True/\Wv x y ok) :=
 (QH hV c x f h ht).mono fun _ _ ⟨q,c,y,f,ok,e,R,_,k⟩=>⟨q,c,y,f,ok,e,R,trivial,k⟩
def dch (k:Int):ByteArray:=hJ [.int .u8 (IntKind.u8.wrap (i64.wrap (48+k.tmod 10)))]
theorem LC (k:Int):(dch k).size=1:=rfl
def vj:Nat->Int->ByteArray->ByteArray
 | 0,_,out=>out
 | n+1,k,out=>if k > 0 then vj n (k.tdiv 10) (dch k++out) else out
theorem Si {k:Int} (h:0<k):0<=k.tdiv 10/\(k.tdiv 10).toNat<k.toNat/\k.tdiv 10+1<=k:=by
 rw [Int.tdiv_eq_ediv_of_nonneg (by omega)];omega
theorem yd:∀ (n m:Nat) (k:Int) (out:ByteArray),k.toNat<=n->k.toNat<=m->vj n k out=vj m k out
 | 0,0,_,_,_,_=>rfl
 | 0,m+1,k,out,h,_=>by
  unfold vj;rw [if_neg (by omega)]
 | n+1,0,k,out,_,h=>by
  unfold vj;rw [if_neg (by omega)]
 | n+1,m+1,k,out,h,h'=>by
  unfold vj
  by_cases hk:k > 0
  ·rw [if_pos hk,if_pos hk]
   have:=Si hk;exact yd n m _ _ (by omega) (by omega)
  rw [if_neg hk,if_neg hk]
def cI (k:Int):ByteArray:=if k<=0 then ⟨#[109,48]⟩ else ⟨#[109]⟩++vj k.toNat k ⟨#[]⟩
theorem dP (V:aa) (k:Int) (hk:k<=4611686018427387904):ae prog V 62 [.int .i64 k] (fun V' r=>V.le V'/\r=.string (cI k)/\(cI k).size<=9223372036854775807):=by
 refine aM (Iv _) fun _=>?_
 simp only [xj,T.wp];refine⟨fun h0=>?_,fun h0=>?_⟩
 ·have UK:k<=0:=bq h0
  rw [cI,if_pos UK];exact⟨aa.le.refl _,rfl,by decide⟩
 have UK:¬ k<=0:=bU h0;refine⟨fun y V'=>V.le V'/\0<=(y.1:Int)/\(y.2.1.size:Int)+(y.1:Int)<=k/\vj (y.1:Int).toNat y.1 y.2.1=vj k.toNat k ⟨#[]⟩,fun y=>(y.1:Int).toNat,⟨(k,⟨#[]⟩,()),rfl,aa.le.refl _,(by omega:0<=k),(by show((0:Nat):Int)+k<=k; omega),rfl⟩,?_⟩
 rintro⟨(j:Int),out,u⟩ V' ⟨hle,hj,gv,hd⟩;replace hj:0<=j:=hj;replace gv:(ByteArray.size out:Int)+j<=k:=gv;replace hd:vj j.toNat j out=vj k.toNat k ⟨#[]⟩:=hd;refine⟨fun hp=>?_,fun hz=>?_⟩
 ·have WK:j > 0:=bq hp
  have ht:=Si WK;refine⟨by decide,fun b cap spare hb hc _=>?_⟩
  have hV:=aG (x:=([Value.int .u8 (IntKind.u8.wrap (i64.wrap (48+j.tmod 10)))]++spare,((5:TypeId),((0,0):Nat × Nat)))) hb;refine⟨[.int .u8 (IntKind.u8.wrap (i64.wrap (48+j.tmod 10)))],.inr ⟨_,rfl,?_⟩,rfl,by simp [bytesOf,jJ],?_,by decide,_,rfl,(j.tdiv 10,dch j++out,()),?_,⟨hle.trans hV,ht.1,?_,?_⟩,?_⟩
  ·simp only [aQ,av]
   exact fK (x:=[Value.int .u8 (IntKind.u8.wrap (i64.wrap (48+j.tmod 10)))])
  ·have:=LC j
   show(dch j).size+ByteArray.size out<=_
   omega
  ·have hw:i64.wrap (j.tdiv 10)=j.tdiv 10:=wrap_i64 (by omega)
   rw [hw]; rfl
  ·show((dch j++out).size:Int)+j.tdiv 10<=k
   rw [ByteArray.size_append,LC];omega
  ·show vj (j.tdiv 10).toNat (j.tdiv 10) (dch j++out)=_
   rw [<- hd];obtain⟨n,hn⟩:∃ n,j.toNat=n+1:=⟨j.toNat-1,by omega⟩;rw [hn,vj,if_pos WK];exact yd _ _ _ _ (Nat.le_refl _) (by omega)
  exact ht.2.1
 have EJ:¬ j > 0:=bU hz;have hj0:j=0:=by omega
 subst hj0;have hd':vj k.toNat k ⟨#[]⟩=out:=by rw [<- hd]; rfl
 have hsm:(⟨#[109]⟩:ByteArray).size=1:=rfl;have e:cI k=⟨#[109]⟩++out:=by rw [cI,if_neg UK,hd']
 refine⟨(by rw [hsm]; show 1+ByteArray.size out<=_; omega),hle,by rw [e]; rfl,?_⟩
 rw [e,ByteArray.size_append,hsm];omega
structure Mk (α:Type) where
 cnt:α->Nat
 ok:Int->α->Prop
def aA {α:Type} (m:Mk α):List α->Nat
 | []=>0
 | x :: l=>m.cnt x+aA m l
def pg {α:Type} (m:Mk α):Int->List α->Prop
 | _,[]=>True
 | k,x :: l=>m.ok k x/\pg m (k+m.cnt x) l
theorem qJ {α:Type} (m:Mk α) (x:α):∀ l:List α,aA m (l++[x])=aA m l+m.cnt x
 | []=>by simp [aA]
 | y :: l=>by simp only [List.cons_append,aA,qJ m x l]; omega
theorem LD {α:Type} (m:Mk α) (x:α):∀ (k:Int) (l:List α),pg m k l->m.ok (k+aA m l) x->pg m k (l++[x])
 | k,[],_,h=>⟨by simpa [aA] using h,trivial⟩
 | k,y :: l,h,hx=>⟨h.1,LD m x _ l h.2 (by
   have e:k+(aA m (y :: l):Nat)=k+m.cnt y+aA m l:=by simp only [aA]; omega
   rw [<- e]; exact hx)⟩
def mkNil:Mk Unit:=⟨fun _=>0,fun _ _=>True⟩
def mkStr {α:Type} (m:Mk α):Mk (ByteArray × α):=⟨fun x=>1+m.cnt x.2,fun k x=>x.1=cI k/\m.ok (k+1) x.2⟩
def QJ {α:Type} (m:Mk α):Mk (Bool × α):=⟨fun x=>1+m.cnt x.2,fun k x=>x.1=(Int.tmod k 3 == 0)/\m.ok (k+1) x.2⟩
def mkInt {α:Type} (m:Mk α):Mk (Int × α):=⟨fun x=>1+m.cnt x.2,fun k x=>x.1=k/\m.ok (k+1) x.2⟩
def mkSl {α β:Type} (e:Mk β) (m:Mk α):Mk (List β × α):=⟨fun x=>aA e x.1+m.cnt x.2,fun k x=>pg e k x.1/\m.ok (k+aA e x.1) x.2⟩
abbrev mI:Mk aI:=mkInt mkNil
theorem j7:∀ l:List aI,aA mI l=l.length
 | []=>rfl
 | x :: l=>by
  have e:mI.cnt x=1:=rfl;simp only [aA,j7 l,List.length_cons,e]; omega
theorem GW:∀ (k:Int) (l:List aI),pg mI k l↔∀ j,j<l.length->ab l j=k+j
 | k,[]=>⟨fun _ j hj=>by simp at hj,fun _=>trivial⟩
 | k,x :: l=>by
  have ih:=GW (k+1) l;refine⟨fun h j hj=>?_,fun h=>⟨⟨?_,trivial⟩,?_⟩⟩
  ·match j with
   | 0 =>
    have:x.1=k:=h.1.1;show x.1=_
    omega
   | j+1 =>
    have:=ih.1 h.2 j (by simpa using hj);show ab l j=_
    omega
  ·have:=h 0 (by simp)
   replace this:x.1=k+((0:Nat):Int):=this;omega
  refine ih.2 fun j hj=>?_
  have:=h (j+1) (by simpa using hj);replace this:ab l j=k+((j+1:Nat):Int):=this;omega
section
variable {P:Program} {K:aa->List Value->Prop} {V V0:aa} {Ns:List (List LV->aa->Prop)}
theorem BQ {dr:Bool} {g:FuncId} {args args':List Value} {sh:Sh} {k:sh.ty->T} (h:args=args') (hn:(T.call dr g args' sh k).wp P K V V0 Ns):(T.call dr g args sh k).wp P K V V0 Ns:=h ▸ hn
theorem nS {a:Option Addr} {n:Nat} {i:Int} {k:Addr->T} {ad:Addr} (h:a=some ad) (h0:0<=i) (h1:i<(n:Int)) (hn:(k ad).wp P K V V0 Ns):(T.el a n i k).wp P K V V0 Ns:=⟨ad,h,h0,h1,hn⟩
theorem oQ {b:Nat} {a:Addr} {A Q vs:List Value} {x v:Value} {tt:TypeId} {t:T} (hv:V b=some (A++([x]++Q),(tt,((0,0):Nat × Nat)))) (ha:a=⟨b,A.length,none⟩) (Mi:vs=[v])
  (hn:∀ V1:aa,V1 b=some ((A++[v])++Q,(tt,((0,0):Nat × Nat)))->(∀ y,y≠b->V1 y=V y)->t.wp P K V1 V0 Ns):(T.st a vs t).wp P K V V0 Ns:=by
 subst ha Mi;refine⟨_,tt,rfl,hv,by simp,hn _ ?_ fun y hy=>bh hy⟩
 rw [av,iL rfl (by simp)];simp
theorem GX {b:Nat} {a:Addr} {A Q:List Value} {s:ar} {tt:TypeId} {w:Nat × Nat} {k:ar->T} (hv:V b=some (A++([.slice s.a s.n s.c]++Q),(tt,w))) (ha:a=⟨b,A.length,none⟩)
  (hn:(k s).wp P K V V0 Ns):(T.ld false a (.o .l) k).wp P K V V0 Ns:=by
 subst ha;refine⟨s,?_,hn⟩
 show aQ V _ 1=_
 simp only [aQ,hv];have:=eH (x:=A) (y:=[Value.slice s.a s.n s.c]++Q) (o:=0) (n:=1);rw [Nat.add_zero] at this;rw [this];exact fK (x:=[Value.slice s.a s.n s.c])
end
theorem cO {b o m:Nat} (h:o=m):(⟨b,o,none⟩:Addr)=⟨b,m,none⟩:=by rw [h]
theorem GY {sh:List Sc} {α:Type} {P:Program} {K:aa->List Value->Prop} {V V0:aa} (r:Rp sh α) (m:Mk α) {s:ar} {l:List α} {f:List Nat} {k0:Int} {row:cH [.o (.o (.i .i64)),.o (.o (.i .i64))]->T}
  (h:LR r V s l f) (vy:f.Nodup) (hw:Wr V f) (ix:0<=k0) (lP:k0+aA m l<=4611686018427387904)
  (mO:∀ (N:List LV->aa->Prop) (V1:aa) (j:Nat) (k:Int) (b o:Nat) (A R:List Value) (tt:TypeId) (c:aH sh) (x:α) (w:List Nat),s.a=some ⟨b,o,none⟩->A.length=o+j*sh.length->j<s.n->s.n<=9223372036854775807->0<=k->k+m.cnt x<=4611686018427387904 ->
   V1 b=some (A++(aH.aD sh c++R),(tt,((0,0):Nat × Nat)))->r.R V1 c x w->(b :: w).Nodup->Wr V1 w ->
   (∀ (V2:aa) (c':aH sh) (x':α),V2 b=some (A++(aH.aD sh c'++R),(tt,((0,0):Nat × Nat)))->r.R V2 c' x' w->Wr V2 w->bI (b :: w) V1 V2->m.ok k x'->m.cnt x'=m.cnt x->N [.v (.int .i64 (k+m.cnt x)),.v (.int .i64 ((j+1:Nat):Int))] V2) ->
   (row (k,(j:Int),())).wp P K V1 V1 [N])
  (hK:∀ (V1:aa) (l':List α),bI f V V1->Wr V1 f->LR r V1 s l' f->pg m k0 l'->aA m l'=aA m l->K V1 [.int .i64 (k0+aA m l)]) :
  (T.lp [.o (.o (.i .i64)),.o (.o (.i .i64))] [.v (.int .i64 k0),.v (.int .i64 (0:Int))] fun y=>.br (decide (y.2.fst<(s.n:Int))) (row y) (.ret [.int .i64 y.fst])).wp P K V V0 []:=by
 have hn:=h.1;have jT:=h.2.2.1;rcases h.2.2.2 with ⟨hz,hc,hf⟩ | ⟨b,pre,post,t,fps,cs,a1,v1,Ia,rfl⟩
 ·have hl:l=[]:=List.eq_nil_of_length_eq_zero (by omega)
  refine lp_once (k0,(0:Int),()) rfl fun N=>⟨fun aN=>?_,fun _=>?_⟩
  ·have:(0:Int)<(s.n:Int):=bq aN
   omega
  have:=hK V l bI.refl hw h (by rw [hl]; trivial) rfl
  rw [hl] at this;simp only [aA,Int.natCast_zero,Int.add_zero] at this;exact this
 obtain⟨cc,tt,hwb⟩:=hw b (by simp);rw [v1] at hwb;simp only [Option.some.injEq,Prod.mk.injEq] at hwb;obtain⟨rfl,rfl⟩:=hwb;refine⟨fun y V'=>bI (b :: fps) V V'/\∃ (i:Nat) (ds:List (aH sh)) (xs:List α) (gd g:List Nat),y.2.1=(i:Int)/\i<=l.length/\ds.length=i/\(y.1:Int)=k0+aA m xs/\aA m xs+aA m (l.drop i)=aA m l /\
   V' b=some (pre++((ds++cs.drop i).flatMap (aH.aD sh)++post),(tt,(0,0)))/\kS r V' ds xs gd/\kS r V' (cs.drop i) (l.drop i) g/\gd++g=fps/\Wr V' fps/\pg m k0 xs,
  fun y _=>((l.length:Int)-(y.2.1:Int)).toNat,⟨(k0,(0:Int),()),rfl,bI.refl,0,[],[],[],fps,rfl,by omega,rfl,by simp [aA],by simp [aA],v1,rfl,Ia,rfl,fun x hx=>hw x (by simp [hx]),trivial⟩,?_⟩
 rintro⟨(k:Int),(i:Int),u⟩ V' ⟨hb,j,ds,xs,gd,g,hj,BY,HL,hk,hcn,hv,hD,hE,WH,hwr,eg⟩;replace hj:i=(j:Int):=hj;replace hk:k=k0+aA m xs:=hk;subst hj;refine⟨fun aN=>?_,fun cg=>?_⟩
 ·have hi:j<l.length:=by
   have:(j:Int)<(s.n:Int):=bq aN;omega
  have eG:cs.length=l.length:=Ia.len;have qp:j<cs.length:=by omega
  rw [List.drop_eq_getElem_cons hi] at hE hcn;rw [List.drop_eq_getElem_cons qp] at hE hv
  generalize l[j]=x at hE hcn
  generalize cs[j]=c at hE hv
  obtain⟨w,g2,rfl,hR,hE2⟩:=hE;simp only [aA] at hcn;have bC:(gd++(w++g2)).Nodup/\b ∉ gd++(w++g2):=by
   rw [WH];exact⟨(List.nodup_cons.1 vy).2,(List.nodup_cons.1 vy).1⟩
  have hbw:b ∉ w:=fun hm=>bC.2 (by simp [hm])
  have n1:=List.nodup_append.1 bC.1;have n2:=List.nodup_append.1 n1.2.1;have zq:pre++((ds++c :: cs.drop (j+1)).flatMap (aH.aD sh)++post)=(pre++ds.flatMap (aH.aD sh))++(aH.aD sh c++((cs.drop (j+1)).flatMap (aH.aD sh)++post)):=by
   simp
  rw [zq] at hv;refine mO _ V' j k b pre.length (pre++ds.flatMap (aH.aD sh)) _ tt c x w a1 ?_ (by omega) jT (by omega) (by omega) hv hR (List.nodup_cons.2 ⟨hbw,n2.1⟩) (fun y hy=>hwr y (by rw [<- WH]; simp [hy])) ?_
  ·rw [List.length_append,iM,HL]
  intro V2 c' x' yl Mh hw2 ow hok2 hcnt2;have keepd:∀ y∈gd,y ∉ b :: w:=fun y hy hm=>by
   rcases List.mem_cons.1 hm with e | hm
   ·exact bC.2 (by rw [<- e]; simp [hy])
   exact n1.2.2 y hy y (by simp [hm]) rfl
  have keepg:∀ y∈g2,y ∉ b :: w:=fun y hy hm=>by
   rcases List.mem_cons.1 hm with e | hm
   ·exact bC.2 (by rw [<- e]; simp [hy])
   exact n2.2.2 y hm y hy rfl
  have mv:∀ (y:Nat) (z:List Value × TypeId × Nat × Nat),y ∉ b :: w->V' y=some z->V2 y=V' y:=fun y z hy hz=>by rw [hz]; exact ow y z hy hz
  refine⟨(k+m.cnt x,((j+1:Nat):Int),()),rfl,⟨hb.trans (ow.sub fun y hy=>?_),j+1,ds++[c'],xs++[x'],gd++w,g2,rfl,hi,by simp [HL],?_,?_,?_,?_,?_,by rw [<- WH]; simp,?_,?_⟩,?_⟩
  ·rcases List.mem_cons.1 hy with e | hy
   ·simp [e]
   rw [<- WH]; simp [hy]
  ·rw [qJ]
   show k+(m.cnt x:Int)=k0+((aA m xs+m.cnt x':Nat):Int)
   omega
  ·rw [qJ]; omega
  ·rw [yl]; simp
  ·exact kS.snoc Mh (hD.loc fun y hy=>by obtain⟨z,hz⟩:=hD.kn y hy; exact mv y z (keepd y hy) hz)
  ·exact hE2.loc fun y hy=>by obtain⟨z,hz⟩:=hE2.kn y hy; exact mv y z (keepg y hy) hz
  ·intro y hy
   rw [<- WH] at hy
   by_cases hyw:y∈w
   ·exact hw2 y hyw
   obtain⟨cc,t',hz⟩:=hwr y (by rw [<- WH]; exact hy)
   have bR:y ∉ b :: w:=fun hm=>by
    rcases List.mem_cons.1 hm with e | hm
    ·exact bC.2 (by rw [<- e]; exact hy)
    exact hyw hm
   exact⟨cc,t',by rw [mv y _ bR hz]; exact hz⟩
  ·exact LD m x' k0 xs eg (by rw [<- hk]; exact hok2)
  show((l.length:Int)-((j+1:Nat):Int)).toNat<((l.length:Int)-(j:Int)).toNat
  omega
 have hi:j=l.length:=by
  have:¬ (j:Int)<(s.n:Int):=bU cg;omega
 have hd0:l.drop j=[]:=by rw [hi]; simp
 have hd1:cs.drop j=[]:=by rw [hi,<- Ia.len]; simp
 rw [hd0] at hE hcn;rw [hd1] at hE hv;replace hE:g=[]:=hE;subst hE;simp only [List.append_nil] at WH hv;subst WH;have nV:aA m xs=aA m l:=by simpa [aA] using hcn
 have:=hK V' xs hb ?_ ?_ eg nV
 ·rw [<- nV,<- hk] at this
  exact this
 ·intro y hy
  rcases List.mem_cons.1 hy with e | hy
  ·subst e; exact⟨_,_,hv⟩
  exact hwr y hy
 exact⟨by rw [hn,<- hi,<- HL,hD.len],h.2.1,jT,.inr ⟨b,pre,post,_,gd,ds,a1,hv,hD,rfl⟩⟩
theorem LG (V:aa) (s:ar) (l:List aI) (f:List Nat) (k:Int) (h:LR rI V s l f) (hw:Wr V f) (ix:0<=k) (lP:k+l.length<=4611686018427387904) :
  ae prog V 63 [qL s,.int .i64 k] (fun V' r=>bI f V V'/\Wr V' f/\r=.int .i64 (k+l.length)/\∃ l',LR rI V' s l' f/\l'.length=l.length/\∀ j,j<l.length->ab l' j=k+j):=by
 refine aM (Ix _ _) fun _=>?_
 simp only [xk,T.wp];have hn:=h.1;refine⟨fun y V'=>bI f V V'/\Wr V' f/\∃ (i:Nat) (l':List aI),y.2.1=(i:Int)/\i<=l.length/\y.1=k+(i:Int)/\LR rI V' s l' f/\l'.length=l.length/\∀ j,j<i->ab l' j=k+j,fun y=>((l.length:Int)-(y.2.1:Int)).toNat,
  ⟨(k,(0:Int),()),rfl,bI.refl,hw,0,l,rfl,by omega,(by simp),h,rfl,fun j hj=>by omega⟩,?_⟩
 rintro⟨(q:Int),(i:Int),u⟩ V' ⟨hb,hw',j,l',hj,BY,hq,hL,hlen,bC⟩;replace hj:i=(j:Int):=hj;replace hq:q=k+(j:Int):=hq;subst hj hq;refine⟨fun aN=>?_,fun cg=>?_⟩
 ·have hi:j<l.length:=by
   have:(j:Int)<(s.n:Int):=bq aN;omega
  obtain⟨b,o,cs,u,a1,v1,dY,Vq,yw,hw2⟩:=hL.put hw' (i:=j) (by omega) (k+(j:Int));refine⟨_,a1,(by omega:(0:Int)<=(j:Int)),(by omega:(j:Int)<(s.n:Int)),?_⟩
  rw [ah,Int.toNat_natCast];refine⟨cs,u,rfl,v1,dY,_,rfl,(k+((j+1:Nat):Int),((j+1:Nat):Int),()),?_,⟨hb.trans (bI.aB Vq),hw2,j+1,_,rfl,hi,rfl,yw,by simpa using hlen,fun m hm=>?_⟩,?_⟩
  ·have e1:i64.wrap (k+(j:Int)+1)=k+((j+1:Nat):Int):=by rw [wrap_i64 (by omega)]; omega
   rw [e1,kD hi (by omega)]; rfl
  ·rw [eZ (by omega)]
   by_cases e:m=j
   ·subst e; rw [if_pos rfl]
   rw [if_neg e]; exact bC m (by omega)
  show((l.length:Int)-((j+1:Nat):Int)).toNat<((l.length:Int)-(j:Int)).toNat
  omega
 have hi:j=l.length:=by
  have:¬ (j:Int)<(s.n:Int):=bU cg;omega
 subst hi;exact⟨hb,hw',rfl,l',hL,hlen,bC⟩
theorem kL (V:aa) (s:ar) (l:List aI) (f:List Nat) (k:Int) (h:LR rI V s l f) (_:f.Nodup) (hw:Wr V f) (ix:0<=k) (lP:k+aA mI l<=4611686018427387904) :
  ae prog V 63 [qL s,.int .i64 k] (fun V' r=>bI f V V'/\Wr V' f/\r=.int .i64 (k+aA mI l)/\∃ l',LR rI V' s l' f/\pg mI k l'/\aA mI l'=aA mI l):=by
 rw [j7] at lP ⊢;refine(LG V s l f k h hw ix lP).mono ?_
 rintro V' r ⟨h1,h2,rfl,l',h3,h4,h5⟩;exact⟨h1,h2,rfl,l',h3,(GW k l').2 (by rw [h4]; exact h5),by rw [j7,h4]⟩
theorem LH (V:aa) (s:ar) (l:List aI) (f:List Nat) (k:Int) (h:LR rI V s l f) (ix:0<=k) (lP:k+l.length<=4611686018427387904) (hm:∀ j,j<l.length->ab l j=k+j) :
  ae prog V 66 [qL s,.int .i64 k] (fun V' r=>V'=V/\r=.int .i64 (k+l.length)):=by
 refine aM (Iz _ _) fun _=>?_
 simp only [xm,T.wp];have hn:=h.1;refine⟨fun y V'=>V'=V/\∃ i:Nat,y.2.1=(i:Int)/\i<=l.length/\y.1=k+(i:Int),fun y=>((l.length:Int)-(y.2.1:Int)).toNat,⟨(k,(0:Int),()),rfl,rfl,0,rfl,by omega,by simp⟩,?_⟩
 rintro⟨(q:Int),(i:Int),u⟩ V' ⟨rfl,j,hj,BY,hq⟩;replace hj:i=(j:Int):=hj;replace hq:q=k+(j:Int):=hq;subst hj hq;refine⟨fun aN=>?_,fun cg=>?_⟩
 ·have hi:j<l.length:=by
   have:(j:Int)<(s.n:Int):=bq aN;omega
  obtain⟨b,o,a1,l1⟩:=h.int hi;have e:l[j].1=k+(j:Int):=by rw [<- aV hi]; exact hm j hi
  refine⟨_,a1,(by omega:(0:Int)<=(j:Int)),(by omega:(j:Int)<(s.n:Int)),l[j].1,l1,fun bR=>?_,fun _=>⟨_,rfl,(k+((j+1:Nat):Int),((j+1:Nat):Int),()),?_,⟨rfl,j+1,rfl,hi,rfl⟩,?_⟩⟩
  ·rw [e] at bR; simp at bR
  ·have e1:i64.wrap (k+(j:Int)+1)=k+((j+1:Nat):Int):=by rw [wrap_i64 (by omega)]; omega
   rw [e1,kD hi (by omega)]; rfl
  show((l.length:Int)-((j+1:Nat):Int)).toNat<((l.length:Int)-(j:Int)).toNat
  omega
 have hi:j=l.length:=by
  have:¬ (j:Int)<(s.n:Int):=bU cg;omega
 subst hi;exact⟨rfl,rfl⟩
theorem GZ (V:aa) (s:ar) (l:List aI) (f:List Nat) (k:Int) (h:LR rI V s l f) (ix:0<=k) (lP:k+aA mI l<=4611686018427387904) (hm:pg mI k l) :
  ae prog V 66 [qL s,.int .i64 k] (fun V' r=>V'=V/\r=.int .i64 (k+aA mI l)):=by
 rw [j7] at lP ⊢;exact LH V s l f k h ix lP ((GW k l).1 hm)
abbrev cP:Mk aE:=mkStr (mkStr (QJ (mkSl mI (mkNil))))
theorem G1 (V:aa) (s:ar) (l:List aE) (f:List Nat) (k:Int) (h:LR aw V s l f) (vy:f.Nodup) (hw:Wr V f) (ix:0<=k) (lP:k+aA cP l<=4611686018427387904) :
  ae prog V 61 [qL s,.int .i64 k] (fun V' r=>bI f V V'/\Wr V' f/\r=.int .i64 (k+aA cP l)/\∃ l',LR aw V' s l' f/\pg cP k l'/\aA cP l'=aA cP l):=by
 refine aM (Fq _ _) fun _=>?_
 simp only [tN];refine GY aw cP h vy hw ix lP ?_ fun V1 l' h1 h2 h3 h4 h5=>⟨h1,h2,rfl,l',h3,h4,h5⟩
 rintro N V1 j k b o A R tt ⟨c0,c1,c2,c3,cu⟩ ⟨x0,x1,x2,x3,xu⟩ w a1 hA hj jT hk hkc hv hR vy hw qe;replace hA:A.length=o+j*4:=hA;obtain⟨⟨bL,dz⟩,hR⟩:=hR;replace bL:c0=x0:=bL;subst bL;replace dz:c0.size<=9223372036854775807:=dz;obtain⟨⟨cj,kJ⟩,hR⟩:=hR;replace cj:c1=x1:=cj;subst cj;replace kJ:c1.size<=9223372036854775807:=kJ;obtain⟨cW,hR⟩:=hR;replace cW:c2=x2:=cW;subst cW;obtain⟨w3,wr3,lG,cS,hR⟩:=hR;subst lG;replace cS:LR rI _ c3 x3 w3:=cS;replace hR:_=[]:=hR;subst hR;replace hkc:k+(((1+(1+(1+(aA mI x3+0)))):Nat):Int)<=4611686018427387904:=hkc;replace hv:V1 b=some (A++([.string c0]++([.string c1]++([.bool c2]++([.slice c3.a c3.n c3.c]++R)))),(tt,((0,0):Nat × Nat))):=hv;have im:b ∉ w3:=fun hm=>(List.nodup_cons.1 vy).1 (by simp [hm])
 have Rv:w3.Nodup:=(List.nodup_append.1 (List.nodup_cons.1 vy).2).1;have kN:Wr V1 w3:=fun y hy=>hw y (by simp [hy])
 have hB:bI (b :: ((w3++[]))) V1 V1:=bI.refl;refine(dP V1 k (by omega)).mono ?_
 rintro V2 _ ⟨bG,rfl,dz⟩;refine⟨nofun,_,rfl,?_⟩
 replace hv:=bG _ _ hv;replace hB:=hB.trans (bI.of_le bG);replace cS:=cS.le bG;replace kN:=kN.le bG;refine nS a1 (Int.natCast_nonneg j) (by omega:(j:Int)<(s.n:Int)) ?_
 refine oQ (v:=(.string (cI k))) hv (by simp only [ah,Int.toNat_natCast]; exact cO (by first | omega | (simp only [List.length_append,List.length_cons,List.length_nil]; omega))) rfl ?_
 clear hv;intro V3 hv JP;replace hB:bI (b :: ((w3++[]))) V1 V3:=fun y z hy hz=>by rw [JP y fun e=>hy (by simp [e])]; exact hB y z hy hz
 replace cS:LR rI V3 c3 x3 w3:=cS.loc fun y hy=>JP y fun e=>im (e ▸ hy)
 replace kN:Wr V3 w3:=fun y hy=>by obtain⟨q1,q2,q3⟩:=kN y hy; exact⟨q1,q2,by rw [JP y fun e=>im (e ▸ hy)]; exact q3⟩
 have LI:i64.wrap (k+1)=k+1:=wrap_i64 (by omega);refine BQ (congrArg (fun z=>[Value.int .i64 z]) LI) ?_
 refine(dP V3 (k+1) (by omega)).mono ?_
 rintro V4 _ ⟨oy,rfl,kJ⟩;refine⟨nofun,_,rfl,?_⟩
 replace hv:=oy _ _ hv;replace hB:=hB.trans (bI.of_le oy);replace cS:=cS.le oy;replace kN:=kN.le oy;refine nS a1 (Int.natCast_nonneg j) (by omega:(j:Int)<(s.n:Int)) ?_
 refine oQ (v:=(.string (cI (k+1)))) hv (by simp only [ah,Int.toNat_natCast]; exact cO (by first | omega | (simp only [List.length_append,List.length_cons,List.length_nil]; omega))) rfl ?_
 clear hv;intro V5 hv hk5;replace hB:bI (b :: ((w3++[]))) V1 V5:=fun y z hy hz=>by rw [hk5 y fun e=>hy (by simp [e])]; exact hB y z hy hz
 replace cS:LR rI V5 c3 x3 w3:=cS.loc fun y hy=>hk5 y fun e=>im (e ▸ hy)
 replace kN:Wr V5 w3:=fun y hy=>by obtain⟨q1,q2,q3⟩:=kN y hy; exact⟨q1,q2,by rw [hk5 y fun e=>im (e ▸ hy)]; exact q3⟩
 have QK:i64.wrap (i64.wrap (k+1)+1)=k+2:=by rw [LI,wrap_i64 (by omega)]; omega
 refine⟨by decide,?_⟩
 refine nS a1 (Int.natCast_nonneg j) (by omega:(j:Int)<(s.n:Int)) ?_
 refine oQ (v:=(.bool (Int.tmod (k+2) 3 == 0))) hv (by simp only [ah,Int.toNat_natCast]; exact cO (by first | omega | (simp only [List.length_append,List.length_cons,List.length_nil]; omega))) (congrArg (fun z=>[Value.bool (Int.tmod z 3 == 0)]) QK) ?_
 clear hv;intro V6 hv hk6;replace hB:bI (b :: ((w3++[]))) V1 V6:=fun y z hy hz=>by rw [hk6 y fun e=>hy (by simp [e])]; exact hB y z hy hz
 replace cS:LR rI V6 c3 x3 w3:=cS.loc fun y hy=>hk6 y fun e=>im (e ▸ hy)
 replace kN:Wr V6 w3:=fun y hy=>by obtain⟨q1,q2,q3⟩:=kN y hy; exact⟨q1,q2,by rw [hk6 y fun e=>im (e ▸ hy)]; exact q3⟩
 have q1_3:i64.wrap (i64.wrap (i64.wrap (k+1)+1)+1)=k+3:=by rw [QK,wrap_i64 (by omega)]; omega
 refine nS a1 (Int.natCast_nonneg j) (by omega:(j:Int)<(s.n:Int)) ?_
 refine GX (s:=c3) hv (by simp only [ah,Int.toNat_natCast]; exact cO (by first | omega | (simp only [List.length_append,List.length_cons,List.length_nil]; omega))) ?_
 refine BQ (congrArg (fun z=>[qL c3,Value.int .i64 z]) q1_3) ?_
 refine(kL V6 c3 x3 w3 (k+3) cS Rv kN (by omega) (by omega)).mono ?_
 rintro V7 _ ⟨hb7x,kN,rfl,y3,cS,uE,ce3⟩;refine⟨nofun,_,rfl,?_⟩
 replace hv:=hb7x b _ im hv;rw [<- List.append_assoc] at hv;replace hB:=hB.trans (hb7x.sub (g:=(b :: ((w3++[])))) fun y hy=>by simp [hy]);refine⟨_,rfl,?_⟩
 have ecnt:cP.cnt (c0,c1,c2,x3,())=(1+(1+(1+(aA mI x3+0)))):=rfl;have eend:((k+3)+((aA mI x3:Nat):Int))=k+((cP.cnt (c0,c1,c2,x3,()):Nat):Int):=by
  rw [ecnt];omega
 have mO:aw.R V7 (cI k,cI (k+1),(Int.tmod (k+2) 3 == 0),c3,()) (cI k,cI (k+1),(Int.tmod (k+2) 3 == 0),y3,()) ((w3++[])):=(cr.mk dz (cr.mk kJ (bB.mk (cC.mk cS a8.mk))));have hN:=qe V7 (cI k,cI (k+1),(Int.tmod (k+2) 3 == 0),c3,()) (cI k,cI (k+1),(Int.tmod (k+2) 3 == 0),y3,()) (by show V7 b=some (A++([.string (cI k),.string (cI (k+1)),.bool (Int.tmod (k+2) 3 == 0),.slice c3.a c3.n c3.c]++R),(tt,((0,0):Nat × Nat))); rw [hv]; simp) mO ?_ hB ⟨rfl,⟨rfl,⟨(by show(Int.tmod (k+2) 3 == 0)=(Int.tmod ((k+1)+1) 3 == 0); rw [show((k+1)+1)=(k+2) by omega]),⟨(by show pg mI (((k+1)+1)+1) y3; rw [show(((k+1)+1)+1)=(k+3) by omega]; exact uE),trivial⟩⟩⟩⟩ (by show(1+(1+(1+(aA mI y3+0))))=(1+(1+(1+(aA mI x3+0)))); omega)
 ·show N [.v (.int .i64 (((k+3)+((aA mI x3:Nat):Int)))),.v (.int .i64 (i64.wrap ((j:Int)+1)))] V7
  rw [eend,kD hj jT];exact hN
 intro y hy;simp only [List.mem_append,List.not_mem_nil,or_false] at hy;exact kN y hy
abbrev eB:Mk iY:=mkStr (QJ (mkSl mI (mkSl mI (mkNil))))
theorem G2 (V:aa) (s:ar) (l:List iY) (f:List Nat) (k:Int) (h:LR aS V s l f) (vy:f.Nodup) (hw:Wr V f) (ix:0<=k) (lP:k+aA eB l<=4611686018427387904) :
  ae prog V 29 [qL s,.int .i64 k] (fun V' r=>bI f V V'/\Wr V' f/\r=.int .i64 (k+aA eB l)/\∃ l',LR aS V' s l' f/\pg eB k l'/\aA eB l'=aA eB l):=by
 refine aM (Fi _ _) fun _=>?_
 simp only [tJ];refine GY aS eB h vy hw ix lP ?_ fun V1 l' h1 h2 h3 h4 h5=>⟨h1,h2,rfl,l',h3,h4,h5⟩
 rintro N V1 j k b o A R tt ⟨c0,c1,c2,c3,cu⟩ ⟨x0,x1,x2,x3,xu⟩ w a1 hA hj jT hk hkc hv hR vy hw qe;replace hA:A.length=o+j*4:=hA;obtain⟨⟨bL,dz⟩,hR⟩:=hR;replace bL:c0=x0:=bL;subst bL;replace dz:c0.size<=9223372036854775807:=dz;obtain⟨cj,hR⟩:=hR;replace cj:c1=x1:=cj;subst cj;obtain⟨w2,wr2,cW,dU,hR⟩:=hR;subst cW;replace dU:LR rI _ c2 x2 w2:=dU;obtain⟨w3,wr3,lG,cS,hR⟩:=hR;subst lG;replace cS:LR rI _ c3 x3 w3:=cS;replace hR:_=[]:=hR;subst hR;replace hkc:k+(((1+(1+(aA mI x2+(aA mI x3+0)))):Nat):Int)<=4611686018427387904:=hkc;replace hv:V1 b=some (A++([.string c0]++([.bool c1]++([.slice c2.a c2.n c2.c]++([.slice c3.a c3.n c3.c]++R)))),(tt,((0,0):Nat × Nat))):=hv;have ow:b ∉ w2:=fun hm=>(List.nodup_cons.1 vy).1 (by simp [hm])
 have sN:w2.Nodup:=(List.nodup_append.1 (List.nodup_cons.1 vy).2).1;have Ww:Wr V1 w2:=fun y hy=>hw y (by simp [hy])
 have d2x3:∀ y∈w2,y ∉ w3:=fun y h1 h2=>(List.nodup_append.1 (List.nodup_cons.1 vy).2).2.2 y h1 y (by simp [h2]) rfl
 have d3x2:∀ y∈w3,y ∉ w2:=fun y h1 h2=>d2x3 y h2 h1
 have im:b ∉ w3:=fun hm=>(List.nodup_cons.1 vy).1 (by simp [hm])
 have Rv:w3.Nodup:=(List.nodup_append.1 (List.nodup_append.1 (List.nodup_cons.1 vy).2).2.1).1;have kN:Wr V1 w3:=fun y hy=>hw y (by simp [hy])
 have hB:bI (b :: ((w2++(w3++[])))) V1 V1:=bI.refl;refine(dP V1 k (by omega)).mono ?_
 rintro V2 _ ⟨bG,rfl,dz⟩;refine⟨nofun,_,rfl,?_⟩
 replace hv:=bG _ _ hv;replace hB:=hB.trans (bI.of_le bG);replace dU:=dU.le bG;replace Ww:=Ww.le bG;replace cS:=cS.le bG;replace kN:=kN.le bG;refine nS a1 (Int.natCast_nonneg j) (by omega:(j:Int)<(s.n:Int)) ?_
 refine oQ (v:=(.string (cI k))) hv (by simp only [ah,Int.toNat_natCast]; exact cO (by first | omega | (simp only [List.length_append,List.length_cons,List.length_nil]; omega))) rfl ?_
 clear hv;intro V3 hv JP;replace hB:bI (b :: ((w2++(w3++[])))) V1 V3:=fun y z hy hz=>by rw [JP y fun e=>hy (by simp [e])]; exact hB y z hy hz
 replace dU:LR rI V3 c2 x2 w2:=dU.loc fun y hy=>JP y fun e=>ow (e ▸ hy)
 replace Ww:Wr V3 w2:=fun y hy=>by obtain⟨q1,q2,q3⟩:=Ww y hy; exact⟨q1,q2,by rw [JP y fun e=>ow (e ▸ hy)]; exact q3⟩
 replace cS:LR rI V3 c3 x3 w3:=cS.loc fun y hy=>JP y fun e=>im (e ▸ hy)
 replace kN:Wr V3 w3:=fun y hy=>by obtain⟨q1,q2,q3⟩:=kN y hy; exact⟨q1,q2,by rw [JP y fun e=>im (e ▸ hy)]; exact q3⟩
 have LI:i64.wrap (k+1)=k+1:=wrap_i64 (by omega);refine⟨by decide,?_⟩
 refine nS a1 (Int.natCast_nonneg j) (by omega:(j:Int)<(s.n:Int)) ?_
 refine oQ (v:=(.bool (Int.tmod (k+1) 3 == 0))) hv (by simp only [ah,Int.toNat_natCast]; exact cO (by first | omega | (simp only [List.length_append,List.length_cons,List.length_nil]; omega))) (congrArg (fun z=>[Value.bool (Int.tmod z 3 == 0)]) LI) ?_
 clear hv;intro V4 hv hk4;replace hB:bI (b :: ((w2++(w3++[])))) V1 V4:=fun y z hy hz=>by rw [hk4 y fun e=>hy (by simp [e])]; exact hB y z hy hz
 replace dU:LR rI V4 c2 x2 w2:=dU.loc fun y hy=>hk4 y fun e=>ow (e ▸ hy)
 replace Ww:Wr V4 w2:=fun y hy=>by obtain⟨q1,q2,q3⟩:=Ww y hy; exact⟨q1,q2,by rw [hk4 y fun e=>ow (e ▸ hy)]; exact q3⟩
 replace cS:LR rI V4 c3 x3 w3:=cS.loc fun y hy=>hk4 y fun e=>im (e ▸ hy)
 replace kN:Wr V4 w3:=fun y hy=>by obtain⟨q1,q2,q3⟩:=kN y hy; exact⟨q1,q2,by rw [hk4 y fun e=>im (e ▸ hy)]; exact q3⟩
 have QK:i64.wrap (i64.wrap (k+1)+1)=k+2:=by rw [LI,wrap_i64 (by omega)]; omega
 refine nS a1 (Int.natCast_nonneg j) (by omega:(j:Int)<(s.n:Int)) ?_
 refine GX (s:=c2) hv (by simp only [ah,Int.toNat_natCast]; exact cO (by first | omega | (simp only [List.length_append,List.length_cons,List.length_nil]; omega))) ?_
 refine BQ (congrArg (fun z=>[qL c2,Value.int .i64 z]) QK) ?_
 refine(kL V4 c2 x2 w2 (k+2) dU sN Ww (by omega) (by omega)).mono ?_
 rintro V5 _ ⟨hb5x,Ww,rfl,y2,dU,pe,ce2⟩;refine⟨nofun,_,rfl,?_⟩
 replace hv:=hb5x b _ ow hv;rw [<- List.append_assoc] at hv;replace hB:=hB.trans (hb5x.sub (g:=(b :: ((w2++(w3++[]))))) fun y hy=>by simp [hy]);replace cS:LR rI V5 c3 x3 w3:=cS.WR d3x2 hb5x;replace kN:Wr V5 w3:=fun y hy=>by obtain⟨q1,q2,q3⟩:=kN y hy; exact⟨q1,q2,hb5x y _ (d3x2 y hy) q3⟩
 refine nS a1 (Int.natCast_nonneg j) (by omega:(j:Int)<(s.n:Int)) ?_
 refine GX (s:=c3) hv (by simp only [ah,Int.toNat_natCast]; exact cO (by first | omega | (simp only [List.length_append,List.length_cons,List.length_nil]; omega))) ?_
 refine(kL V5 c3 x3 w3 ((k+2)+((aA mI x2:Nat):Int)) cS Rv kN (by omega) (by omega)).mono ?_
 rintro V6 _ ⟨hb6x,kN,rfl,y3,cS,uE,ce3⟩;refine⟨nofun,_,rfl,?_⟩
 replace hv:=hb6x b _ im hv;rw [<- List.append_assoc] at hv;replace hB:=hB.trans (hb6x.sub (g:=(b :: ((w2++(w3++[]))))) fun y hy=>by simp [hy]);replace dU:LR rI V6 c2 y2 w2:=dU.WR d2x3 hb6x;replace Ww:Wr V6 w2:=fun y hy=>by obtain⟨q1,q2,q3⟩:=Ww y hy; exact⟨q1,q2,hb6x y _ (d2x3 y hy) q3⟩
 refine⟨_,rfl,?_⟩
 have ecnt:eB.cnt (c0,c1,x2,x3,())=(1+(1+(aA mI x2+(aA mI x3+0)))):=rfl;have eend:(((k+2)+((aA mI x2:Nat):Int))+((aA mI x3:Nat):Int))=k+((eB.cnt (c0,c1,x2,x3,()):Nat):Int):=by
  rw [ecnt];omega
 have mO:aS.R V6 (cI k,(Int.tmod (k+1) 3 == 0),c2,c3,()) (cI k,(Int.tmod (k+1) 3 == 0),y2,y3,()) ((w2++(w3++[]))):=(cr.mk dz (bB.mk (cC.mk dU (cC.mk cS a8.mk))));have hN:=qe V6 (cI k,(Int.tmod (k+1) 3 == 0),c2,c3,()) (cI k,(Int.tmod (k+1) 3 == 0),y2,y3,()) (by show V6 b=some (A++([.string (cI k),.bool (Int.tmod (k+1) 3 == 0),.slice c2.a c2.n c2.c,.slice c3.a c3.n c3.c]++R),(tt,((0,0):Nat × Nat))); rw [hv]; simp) mO ?_ hB ⟨rfl,⟨rfl,⟨(by show pg mI ((k+1)+1) y2; rw [show((k+1)+1)=(k+2) by omega]; exact pe),⟨(by show pg mI (((k+1)+1)+((aA mI y2:Nat):Int)) y3; rw [show(((k+1)+1)+((aA mI y2:Nat):Int))=((k+2)+((aA mI x2:Nat):Int)) by omega]; exact uE),trivial⟩⟩⟩⟩ (by show(1+(1+(aA mI y2+(aA mI y3+0))))=(1+(1+(aA mI x2+(aA mI x3+0)))); omega)
 ·show N [.v (.int .i64 ((((k+2)+((aA mI x2:Nat):Int))+((aA mI x3:Nat):Int)))),.v (.int .i64 (i64.wrap ((j:Int)+1)))] V6
  rw [eend,kD hj jT];exact hN
 intro y hy;simp only [List.mem_append,List.not_mem_nil,or_false] at hy;rcases hy with hy | hy
 ·exact Ww y hy
 exact kN y hy
abbrev dH:Mk aW:=mkStr (mkStr (QJ (mkSl mI (mkInt (mkNil)))))
theorem G4 (V:aa) (s:ar) (l:List aW) (f:List Nat) (k:Int) (h:LR az V s l f) (vy:f.Nodup) (hw:Wr V f) (ix:0<=k) (lP:k+aA dH l<=4611686018427387904) :
  ae prog V 64 [qL s,.int .i64 k] (fun V' r=>bI f V V'/\Wr V' f/\r=.int .i64 (k+aA dH l)/\∃ l',LR az V' s l' f/\pg dH k l'/\aA dH l'=aA dH l):=by
 refine aM (Ft _ _) fun _=>?_
 simp only [tO];refine GY az dH h vy hw ix lP ?_ fun V1 l' h1 h2 h3 h4 h5=>⟨h1,h2,rfl,l',h3,h4,h5⟩
 rintro N V1 j k b o A R tt ⟨c0,c1,c2,c3,c4,cu⟩ ⟨x0,x1,x2,x3,x4,xu⟩ w a1 hA hj jT hk hkc hv hR vy hw qe;replace hA:A.length=o+j*5:=hA;obtain⟨⟨bL,dz⟩,hR⟩:=hR;replace bL:c0=x0:=bL;subst bL;replace dz:c0.size<=9223372036854775807:=dz;obtain⟨⟨cj,kJ⟩,hR⟩:=hR;replace cj:c1=x1:=cj;subst cj;replace kJ:c1.size<=9223372036854775807:=kJ;obtain⟨cW,hR⟩:=hR;replace cW:c2=x2:=cW;subst cW;obtain⟨w3,wr3,lG,cS,hR⟩:=hR;subst lG;replace cS:LR rI _ c3 x3 w3:=cS;obtain⟨wa,hR⟩:=hR;replace wa:c4=x4:=wa;subst wa;replace hR:_=[]:=hR;subst hR;replace hkc:k+(((1+(1+(1+(aA mI x3+(1+0))))):Nat):Int)<=4611686018427387904:=hkc;replace hv:V1 b=some (A++([.string c0]++([.string c1]++([.bool c2]++([.slice c3.a c3.n c3.c]++([.int .i64 c4]++R))))),(tt,((0,0):Nat × Nat))):=hv;have im:b ∉ w3:=fun hm=>(List.nodup_cons.1 vy).1 (by simp [hm])
 have Rv:w3.Nodup:=(List.nodup_append.1 (List.nodup_cons.1 vy).2).1;have kN:Wr V1 w3:=fun y hy=>hw y (by simp [hy])
 have hB:bI (b :: ((w3++[]))) V1 V1:=bI.refl;refine(dP V1 k (by omega)).mono ?_
 rintro V2 _ ⟨bG,rfl,dz⟩;refine⟨nofun,_,rfl,?_⟩
 replace hv:=bG _ _ hv;replace hB:=hB.trans (bI.of_le bG);replace cS:=cS.le bG;replace kN:=kN.le bG;refine nS a1 (Int.natCast_nonneg j) (by omega:(j:Int)<(s.n:Int)) ?_
 refine oQ (v:=(.string (cI k))) hv (by simp only [ah,Int.toNat_natCast]; exact cO (by first | omega | (simp only [List.length_append,List.length_cons,List.length_nil]; omega))) rfl ?_
 clear hv;intro V3 hv JP;replace hB:bI (b :: ((w3++[]))) V1 V3:=fun y z hy hz=>by rw [JP y fun e=>hy (by simp [e])]; exact hB y z hy hz
 replace cS:LR rI V3 c3 x3 w3:=cS.loc fun y hy=>JP y fun e=>im (e ▸ hy)
 replace kN:Wr V3 w3:=fun y hy=>by obtain⟨q1,q2,q3⟩:=kN y hy; exact⟨q1,q2,by rw [JP y fun e=>im (e ▸ hy)]; exact q3⟩
 have LI:i64.wrap (k+1)=k+1:=wrap_i64 (by omega);refine BQ (congrArg (fun z=>[Value.int .i64 z]) LI) ?_
 refine(dP V3 (k+1) (by omega)).mono ?_
 rintro V4 _ ⟨oy,rfl,kJ⟩;refine⟨nofun,_,rfl,?_⟩
 replace hv:=oy _ _ hv;replace hB:=hB.trans (bI.of_le oy);replace cS:=cS.le oy;replace kN:=kN.le oy;refine nS a1 (Int.natCast_nonneg j) (by omega:(j:Int)<(s.n:Int)) ?_
 refine oQ (v:=(.string (cI (k+1)))) hv (by simp only [ah,Int.toNat_natCast]; exact cO (by first | omega | (simp only [List.length_append,List.length_cons,List.length_nil]; omega))) rfl ?_
 clear hv;intro V5 hv hk5;replace hB:bI (b :: ((w3++[]))) V1 V5:=fun y z hy hz=>by rw [hk5 y fun e=>hy (by simp [e])]; exact hB y z hy hz
 replace cS:LR rI V5 c3 x3 w3:=cS.loc fun y hy=>hk5 y fun e=>im (e ▸ hy)
 replace kN:Wr V5 w3:=fun y hy=>by obtain⟨q1,q2,q3⟩:=kN y hy; exact⟨q1,q2,by rw [hk5 y fun e=>im (e ▸ hy)]; exact q3⟩
 have QK:i64.wrap (i64.wrap (k+1)+1)=k+2:=by rw [LI,wrap_i64 (by omega)]; omega
 refine⟨by decide,?_⟩
 refine nS a1 (Int.natCast_nonneg j) (by omega:(j:Int)<(s.n:Int)) ?_
 refine oQ (v:=(.bool (Int.tmod (k+2) 3 == 0))) hv (by simp only [ah,Int.toNat_natCast]; exact cO (by first | omega | (simp only [List.length_append,List.length_cons,List.length_nil]; omega))) (congrArg (fun z=>[Value.bool (Int.tmod z 3 == 0)]) QK) ?_
 clear hv;intro V6 hv hk6;replace hB:bI (b :: ((w3++[]))) V1 V6:=fun y z hy hz=>by rw [hk6 y fun e=>hy (by simp [e])]; exact hB y z hy hz
 replace cS:LR rI V6 c3 x3 w3:=cS.loc fun y hy=>hk6 y fun e=>im (e ▸ hy)
 replace kN:Wr V6 w3:=fun y hy=>by obtain⟨q1,q2,q3⟩:=kN y hy; exact⟨q1,q2,by rw [hk6 y fun e=>im (e ▸ hy)]; exact q3⟩
 have q1_3:i64.wrap (i64.wrap (i64.wrap (k+1)+1)+1)=k+3:=by rw [QK,wrap_i64 (by omega)]; omega
 refine nS a1 (Int.natCast_nonneg j) (by omega:(j:Int)<(s.n:Int)) ?_
 refine GX (s:=c3) hv (by simp only [ah,Int.toNat_natCast]; exact cO (by first | omega | (simp only [List.length_append,List.length_cons,List.length_nil]; omega))) ?_
 refine BQ (congrArg (fun z=>[qL c3,Value.int .i64 z]) q1_3) ?_
 refine(kL V6 c3 x3 w3 (k+3) cS Rv kN (by omega) (by omega)).mono ?_
 rintro V7 _ ⟨hb7x,kN,rfl,y3,cS,uE,ce3⟩;refine⟨nofun,_,rfl,?_⟩
 replace hv:=hb7x b _ im hv;rw [<- List.append_assoc] at hv;replace hB:=hB.trans (hb7x.sub (g:=(b :: ((w3++[])))) fun y hy=>by simp [hy]);refine nS a1 (Int.natCast_nonneg j) (by omega:(j:Int)<(s.n:Int)) ?_
 refine oQ (v:=(.int .i64 ((k+3)+((aA mI x3:Nat):Int)))) hv (by simp only [ah,Int.toNat_natCast]; exact cO (by first | omega | (simp only [List.length_append,List.length_cons,List.length_nil]; omega))) rfl ?_
 clear hv;intro V8 hv hk8;replace hB:bI (b :: ((w3++[]))) V1 V8:=fun y z hy hz=>by rw [hk8 y fun e=>hy (by simp [e])]; exact hB y z hy hz
 replace cS:LR rI V8 c3 y3 w3:=cS.loc fun y hy=>hk8 y fun e=>im (e ▸ hy)
 replace kN:Wr V8 w3:=fun y hy=>by obtain⟨q1,q2,q3⟩:=kN y hy; exact⟨q1,q2,by rw [hk8 y fun e=>im (e ▸ hy)]; exact q3⟩
 have q2_1:i64.wrap (((k+3)+((aA mI x3:Nat):Int))+1)=((k+3)+((aA mI x3:Nat):Int))+1:=wrap_i64 (by omega);refine⟨_,rfl,?_⟩
 have ecnt:dH.cnt (c0,c1,c2,x3,c4,())=(1+(1+(1+(aA mI x3+(1+0))))):=rfl;have eend:i64.wrap (((k+3)+((aA mI x3:Nat):Int))+1)=k+((dH.cnt (c0,c1,c2,x3,c4,()):Nat):Int):=by
  rw [ecnt];rw [q2_1];omega
 have mO:az.R V8 (cI k,cI (k+1),(Int.tmod (k+2) 3 == 0),c3,((k+3)+((aA mI x3:Nat):Int)),()) (cI k,cI (k+1),(Int.tmod (k+2) 3 == 0),y3,((k+3)+((aA mI x3:Nat):Int)),()) ((w3++[])):=(cr.mk dz (cr.mk kJ (bB.mk (cC.mk cS (np.mk a8.mk)))));have hN:=qe V8 (cI k,cI (k+1),(Int.tmod (k+2) 3 == 0),c3,((k+3)+((aA mI x3:Nat):Int)),()) (cI k,cI (k+1),(Int.tmod (k+2) 3 == 0),y3,((k+3)+((aA mI x3:Nat):Int)),()) (by show V8 b=some (A++([.string (cI k),.string (cI (k+1)),.bool (Int.tmod (k+2) 3 == 0),.slice c3.a c3.n c3.c,.int .i64 ((k+3)+((aA mI x3:Nat):Int))]++R),(tt,((0,0):Nat × Nat))); rw [hv]; simp) mO ?_ hB ⟨rfl,⟨rfl,⟨(by show(Int.tmod (k+2) 3 == 0)=(Int.tmod ((k+1)+1) 3 == 0); rw [show((k+1)+1)=(k+2) by omega]),⟨(by show pg mI (((k+1)+1)+1) y3; rw [show(((k+1)+1)+1)=(k+3) by omega]; exact uE),⟨(by show((k+3)+((aA mI x3:Nat):Int))=((((k+1)+1)+1)+((aA mI y3:Nat):Int)); rw [show((((k+1)+1)+1)+((aA mI y3:Nat):Int))=((k+3)+((aA mI x3:Nat):Int)) by omega]),trivial⟩⟩⟩⟩⟩ (by show(1+(1+(1+(aA mI y3+(1+0)))))=(1+(1+(1+(aA mI x3+(1+0))))); omega)
 ·show N [.v (.int .i64 (i64.wrap (((k+3)+((aA mI x3:Nat):Int))+1))),.v (.int .i64 (i64.wrap ((j:Int)+1)))] V8
  rw [eend,kD hj jT];exact hN
 intro y hy;simp only [List.mem_append,List.not_mem_nil,or_false] at hy;exact kN y hy
theorem LJ (V:aa) (c0:ar) (x0:List aE) (w0:List Nat) (k:Int) (s0:LR aw V c0 x0 w0) (UE:w0.Nodup) (hW0:Wr V w0) (ix:0<=k) (lP:(k+((aA cP x0:Nat):Int))<=4611686018427387904) :
  ae prog V 28 [dJ (c0,()),.int .i64 k] (fun V' r=>bI (w0++[]) V V'/\r=.int .i64 (k+((aA cP x0:Nat):Int))/\∃ (y0:List aE),(LR aw V' c0 y0 w0/\Wr V' w0/\pg cP k y0/\aA cP y0=aA cP x0)):=by
 refine aM (Ip _ _) fun _=>?_
 simp only [xf,T.wp];have hB:bI (w0++[]) V V:=bI.refl;refine(G1 V c0 x0 w0 k s0 UE hW0 (by omega) (by omega)).mono ?_
 rintro V1 _ ⟨fW,hW0,rfl,y0,s0,G5,ce0⟩;refine⟨nofun,_,rfl,?_⟩
 replace hB:=hB.trans (fW.sub (g:=(w0++[])) fun y hy=>by simp at hy ⊢; simp [hy])
 exact⟨hB,rfl,y0,⟨s0,hW0,G5,ce0⟩⟩
theorem G7 (V:aa) (c0:ByteArray) (c1:ar) (x1:List aW) (w1:List Nat) (k:Int) (s1:LR az V c1 x1 w1) (gm:w1.Nodup) (yH:Wr V w1) (ix:0<=k) (lP:(k+((aA dH x1:Nat):Int))<=4611686018427387904) :
  ae prog V 30 [iK (c0,c1,()),.int .i64 k] (fun V' r=>bI (w1++[]) V V'/\r=.int .i64 (k+((aA dH x1:Nat):Int))/\∃ (y1:List aW),(LR az V' c1 y1 w1/\Wr V' w1/\pg dH k y1/\aA dH y1=aA dH x1)):=by
 refine aM (Fj _ _) fun _=>?_
 simp only [tK,T.wp];have hB:bI (w1++[]) V V:=bI.refl;refine(G4 V c1 x1 w1 k s1 gm yH (by omega) (by omega)).mono ?_
 rintro V1 _ ⟨fW,yH,rfl,y1,s1,oH,ce1⟩;refine⟨nofun,_,rfl,?_⟩
 replace hB:=hB.trans (fW.sub (g:=(w1++[])) fun y hy=>by simp at hy ⊢; simp [hy])
 exact⟨hB,rfl,y1,⟨s1,yH,oH,ce1⟩⟩
theorem ru (V:aa) (c0:ar) (c1:ar) (c2:ByteArray) (c3:ar) (x0:List aE) (x1:List iY) (x3:List aW) (w0:List Nat) (w1:List Nat) (w3:List Nat) (k:Int) (s0:LR aw V c0 x0 w0) (s1:LR aS V c1 x1 w1) (s3:LR az V c3 x3 w3) (UE:w0.Nodup) (hW0:Wr V w0) (gm:w1.Nodup) (yH:Wr V w1) (Rv:w3.Nodup) (kN:Wr V w3) (d0x1:∀ y∈w0,y ∉ w1) (d0x3:∀ y∈w0,y ∉ w3) (d1x3:∀ y∈w1,y ∉ w3) (ix:0<=k) (lP:(((k+((aA cP x0:Nat):Int))+((aA eB x1:Nat):Int))+((aA dH x3:Nat):Int))<=4611686018427387904) :
  ae prog V 9 [aU (c0,c1,c2,c3,()),.int .i64 k] (fun V' r=>bI (w0++(w1++(w3++[]))) V V'/\r=.int .i64 (((k+((aA cP x0:Nat):Int))+((aA eB x1:Nat):Int))+((aA dH x3:Nat):Int))/\∃ (y0:List aE) (y1:List iY) (y3:List aW),(LR aw V' c0 y0 w0/\Wr V' w0/\pg cP k y0/\aA cP y0=aA cP x0)/\(LR aS V' c1 y1 w1/\Wr V' w1/\pg eB (k+((aA cP x0:Nat):Int)) y1/\aA eB y1=aA eB x1)/\(LR az V' c3 y3 w3/\Wr V' w3/\pg dH ((k+((aA cP x0:Nat):Int))+((aA eB x1:Nat):Int)) y3/\aA dH y3=aA dH x3)):=by
 refine aM (Cj _ _) fun _=>?_
 simp only [qX,T.wp];have d1x0:∀ y∈w1,y ∉ w0:=fun y h1 h2=>d0x1 y h2 h1
 have d3x0:∀ y∈w3,y ∉ w0:=fun y h1 h2=>d0x3 y h2 h1
 have d3x1:∀ y∈w3,y ∉ w1:=fun y h1 h2=>d1x3 y h2 h1
 have hB:bI (w0++(w1++(w3++[]))) V V:=bI.refl;refine(LJ V c0 x0 w0 k s0 UE hW0 (by omega) (by omega)).mono ?_
 rintro V1 _ ⟨fW,rfl,y0,⟨s0,hW0,G5,ce0⟩⟩;refine⟨nofun,_,rfl,?_⟩
 replace hB:=hB.trans (fW.sub (g:=(w0++(w1++(w3++[])))) fun y hy=>by simp only [List.mem_append,List.not_mem_nil,or_false] at hy ⊢; simp [hy])
 have dq1:∀ y∈w1,y ∉ (w0++[]):=fun y hy hm=>by
  simp only [List.mem_append,List.not_mem_nil,or_false] at hm;exact d1x0 y hy hm
 replace s1:LR aS V1 c1 x1 w1:=s1.WR dq1 fW;replace yH:Wr V1 w1:=fun y hy=>by obtain⟨q1,q2,q3⟩:=yH y hy; exact⟨q1,q2,fW y _ (dq1 y hy) q3⟩
 have dq3:∀ y∈w3,y ∉ (w0++[]):=fun y hy hm=>by
  simp only [List.mem_append,List.not_mem_nil,or_false] at hm;exact d3x0 y hy hm
 replace s3:LR az V1 c3 x3 w3:=s3.WR dq3 fW;replace kN:Wr V1 w3:=fun y hy=>by obtain⟨q1,q2,q3⟩:=kN y hy; exact⟨q1,q2,fW y _ (dq3 y hy) q3⟩
 refine(G2 V1 c1 x1 w1 (k+((aA cP x0:Nat):Int)) s1 gm yH (by omega) (by omega)).mono ?_
 rintro V2 _ ⟨ow,yH,rfl,y1,s1,oH,ce1⟩;refine⟨nofun,_,rfl,?_⟩
 replace hB:=hB.trans (ow.sub (g:=(w0++(w1++(w3++[])))) fun y hy=>by simp only [List.mem_append,List.not_mem_nil,or_false] at hy ⊢; simp [hy])
 have dq0:∀ y∈w0,y ∉ w1:=d0x1;replace s0:LR aw V2 c0 y0 w0:=s0.WR dq0 ow;replace hW0:Wr V2 w0:=fun y hy=>by obtain⟨q1,q2,q3⟩:=hW0 y hy; exact⟨q1,q2,ow y _ (dq0 y hy) q3⟩
 have dq3:∀ y∈w3,y ∉ w1:=d3x1;replace s3:LR az V2 c3 x3 w3:=s3.WR dq3 ow;replace kN:Wr V2 w3:=fun y hy=>by obtain⟨q1,q2,q3⟩:=kN y hy; exact⟨q1,q2,ow y _ (dq3 y hy) q3⟩
 refine(G7 V2 c2 c3 x3 w3 ((k+((aA cP x0:Nat):Int))+((aA eB x1:Nat):Int)) s3 Rv kN (by omega) (by omega)).mono ?_
 rintro V3 _ ⟨im,rfl,y3,⟨s3,kN,uE,ce3⟩⟩;refine⟨nofun,_,rfl,?_⟩
 replace hB:=hB.trans (im.sub (g:=(w0++(w1++(w3++[])))) fun y hy=>by simp only [List.mem_append,List.not_mem_nil,or_false] at hy ⊢; simp [hy])
 have dq0:∀ y∈w0,y ∉ (w3++[]):=fun y hy hm=>by
  simp only [List.mem_append,List.not_mem_nil,or_false] at hm;exact d0x3 y hy hm
 replace s0:LR aw V3 c0 y0 w0:=s0.WR dq0 im;replace hW0:Wr V3 w0:=fun y hy=>by obtain⟨q1,q2,q3⟩:=hW0 y hy; exact⟨q1,q2,im y _ (dq0 y hy) q3⟩
 have dq1:∀ y∈w1,y ∉ (w3++[]):=fun y hy hm=>by
  simp only [List.mem_append,List.not_mem_nil,or_false] at hm;exact d1x3 y hy hm
 replace s1:LR aS V3 c1 y1 w1:=s1.WR dq1 im;replace yH:Wr V3 w1:=fun y hy=>by obtain⟨q1,q2,q3⟩:=yH y hy; exact⟨q1,q2,im y _ (dq1 y hy) q3⟩
 exact⟨hB,rfl,y0,y1,y3,⟨s0,hW0,G5,ce0⟩,⟨s1,yH,oH,ce1⟩,⟨s3,kN,uE,ce3⟩⟩
theorem load_le {V V':aa} (hle:V.le V') {a:Addr} {n:Nat} {l:List Value} (h:aQ V a n=some l):aQ V' a n=some l:=by
 obtain⟨b,o,sp⟩:=a;cases sp with
 | some _=>simp [aQ] at h
 | none =>
  simp only [aQ] at h ⊢;cases hb:V b with
  | none=>rw [hb] at h; cases h
  | some y=>rw [hle b y hb]; rw [hb] at h; exact h
theorem G8 {sh:List Sc} {α:Type} {P:Program} {K:aa->List Value->Prop} {V V0:aa} (r:Rp sh α) (m:Mk α) {s:ar} {l:List α} {f:List Nat} {k0:Int} {row:cH [.o (.o (.i .i64)),.o (.o (.i .i64))]->T}
  (h:LR r V s l f) (ix:0<=k0) (lP:k0+aA m l<=4611686018427387904) (hm:pg m k0 l)
  (mO:∀ (N:List LV->aa->Prop) (V1:aa) (j:Nat) (x:α) (k:Int) (b o:Nat) (c:aH sh) (w:List Nat),s.a=some ⟨b,o,none⟩->(j:Int)<(s.n:Int)->0<=k->k+m.cnt x<=4611686018427387904 ->
   (∀ (V2:aa) (a:Addr) (o' n:Nat) (l':List Value),V1.le V2->a=⟨b,o+j*sh.length+o',none⟩->fj (aH.aD sh c) o' n=some l'->aQ V2 a n=some l')->r.R V1 c x w->m.ok k x ->
   (∀ V2,V1.le V2->N [.v (.int .i64 (k+m.cnt x)),.v (.int .i64 (i64.wrap ((j:Int)+1)))] V2)->(row (k,(j:Int),())).wp P K V1 V1 [N])
  (Cs:∀ V1,V.le V1->K V1 [.int .i64 (k0+aA m l)]) :
  (T.lp [.o (.o (.i .i64)),.o (.o (.i .i64))] [.v (.int .i64 k0),.v (.int .i64 (0:Int))] fun y=>.br (decide (y.2.1<(s.n:Int))) (row y) (.ret [.int .i64 y.1])).wp P K V V0 []:=by
 have hn:=h.1;have key:∀ (l:List α) (k:Int) (j:Nat) (hj:j<l.length),pg m k l->k+aA m l<=4611686018427387904->m.ok (k+aA m (l.take j)) l[j]/\k+aA m (l.take j)+m.cnt l[j]<=4611686018427387904:=by
  intro l
  induction l with
  | nil=>intro k j hj; simp at hj
  | cons x l ih =>
   intro k j hj hm hk;have hc:aA m (x :: l)=m.cnt x+aA m l:=rfl;rw [hc] at hk;cases j with
   | zero =>
    have e:k+((aA m (List.take 0 (x :: l)):Nat):Int)=k:=by simp [aA]
    rw [e];exact⟨hm.1,by show k+((m.cnt x:Nat):Int)<=_; omega⟩
   | succ j =>
    have e:aA m (List.take (j+1) (x :: l))=m.cnt x+aA m (l.take j):=rfl;obtain⟨q1,q2⟩:=ih (k+m.cnt x) j (by simpa using hj) hm.2 (by omega);have e2:k+((aA m (List.take (j+1) (x :: l)):Nat):Int)=k+m.cnt x+aA m (l.take j):=by rw [e]; omega
    rw [e2];exact⟨q1,q2⟩
 simp only [T.wp];refine⟨fun y V'=>V.le V'/\∃ i:Nat,y.2.1=(i:Int)/\i<=l.length/\y.1=k0+aA m (l.take i),fun y _=>((l.length:Int)-(y.2.1:Int)).toNat,⟨(k0,(0:Int),()),rfl,aa.le.refl _,0,rfl,Nat.zero_le _,by simp [aA]⟩,?_⟩
 rintro⟨(q:Int),(i:Int),u⟩ V' ⟨hle,j,hj,BY,hq⟩;replace hj:i=(j:Int):=hj;replace hq:q=k0+aA m (l.take j):=hq;subst hj hq;have jT:=h.2.2.1;refine⟨fun aN=>?_,fun cg=>?_⟩
 ·have hi:j<l.length:=by
   have:(j:Int)<(s.n:Int):=bq aN;omega
  obtain⟨k1,k2⟩:=key l k0 j hi hm lP;obtain⟨b,o,c,w,ha,part,hR,_⟩:=(h.le hle).part hi;refine mO _ V' j l[j] _ b o c w ha (by omega) (by omega) k2 (fun V2 a o' n l' bm ea hc=>?_) hR k1 fun V2 bm=>?_
  ·rw [ea]
   have:=part o' n l' hc;simp only [ah] at this;exact load_le bm this
  refine⟨(k0+aA m (l.take (j+1)),((j+1:Nat):Int),()),?_,⟨hle.trans bm,j+1,rfl,hi,rfl⟩,?_⟩
  ·rw [kD hi (by omega),List.take_succ_eq_append_getElem hi,qJ]
   have e:k0+((aA m (l.take j):Nat):Int)+((m.cnt l[j]:Nat):Int)=k0+((aA m (l.take j)+m.cnt l[j]:Nat):Int):=by omega
   rw [e]; rfl
  show((l.length:Int)-((j+1:Nat):Int)).toNat<((l.length:Int)-(j:Int)).toNat
  omega
 have hi:j=l.length:=by
  have:¬ (j:Int)<(s.n:Int):=bU cg;omega
 subst hi;rw [List.take_length];exact Cs V' hle
theorem kO (V:aa) (s:ar) (l:List aI) (f:List Nat) (k:Int) (h:LR rI V s l f) (ix:0<=k) (lP:k+aA mI l<=4611686018427387904) (hm:pg mI k l) :
  ae prog V 66 [qL s,.int .i64 k] (fun V' r=>V.le V'/\r=.int .i64 (k+aA mI l)):=(GZ V s l f k h ix lP hm).mono (by
 rintro V' r ⟨rfl,rfl⟩;exact⟨aa.le.refl _,rfl⟩)
theorem G9 (V:aa) (s:ar) (l:List aE) (f:List Nat) (k:Int) (h:LR aw V s l f) (ix:0<=k) (lP:k+aA cP l<=4611686018427387904) (hm:pg cP k l) :
  ae prog V 65 [qL s,.int .i64 k] (fun V' r=>V.le V'/\r=.int .i64 (k+aA cP l)):=by
 refine aM (Fv _ _) fun _=>?_
 simp only [tP];refine G8 aw cP h ix lP hm ?_ fun V1 h1=>⟨h1,rfl⟩
 rintro N V1 j ⟨x0,x1,x2,x3,xu⟩ k b o ⟨c0,c1,c2,c3,cu⟩ w a1 hj k0 kc lZ hR eg qe;obtain⟨⟨bL,dz⟩,hR⟩:=hR;replace bL:c0=x0:=bL;subst bL;replace dz:c0.size<=9223372036854775807:=dz;obtain⟨⟨cj,kJ⟩,hR⟩:=hR;replace cj:c1=x1:=cj;subst cj;replace kJ:c1.size<=9223372036854775807:=kJ;obtain⟨cW,hR⟩:=hR;replace cW:c2=x2:=cW;subst cW;obtain⟨w3,wr3,lG,cS,hR⟩:=hR;subst lG;replace cS:LR rI _ c3 x3 w3:=cS;replace hR:_=[]:=hR;subst hR;replace kc:k+(((1+(1+(1+(aA mI x3+0)))):Nat):Int)<=4611686018427387904:=kc;obtain⟨G5,eg⟩:=eg;obtain⟨oH,eg⟩:=eg;obtain⟨pe,eg⟩:=eg;obtain⟨uE,eg⟩:=eg;simp only [T.wp];replace G5:c0=cI (k):=G5;subst G5;refine⟨_,a1,Int.natCast_nonneg j,hj,cI (k),lZ V1 _ 0 1 _ (aa.le.refl _) (by simp only [ah,Int.toNat_natCast]; first | done | exact cO (by first | omega | (simp only [List.length_cons,List.length_nil]; first | done | omega))) rfl,(dP V1 (k) (by omega)).mono ?_⟩
 rintro V2 _ ⟨bm,rfl,_⟩;refine⟨fun _=>bm,_,rfl,fun bR=>by simp at bR,fun _=>?_⟩
 have v0:i64.wrap (k+1)=k+1:=wrap_i64 (by omega);rw [v0];replace oH:c1=cI (k+1):=oH;subst oH;refine⟨_,a1,Int.natCast_nonneg j,hj,cI (k+1),lZ V2 _ 1 1 _ bm (by simp only [ah,Int.toNat_natCast]; first | done | exact cO (by first | omega | (simp only [List.length_cons,List.length_nil]; first | done | omega))) rfl,(dP V2 (k+1) (by omega)).mono ?_⟩
 rintro V3 _ ⟨bS,rfl,_⟩;refine⟨fun _=>bS,_,rfl,fun bR=>by simp at bR,fun _=>?_⟩
 have l3:=(bm).trans bS;have v1:i64.wrap (k+1+1)=k+1+1:=wrap_i64 (by omega);rw [v1];replace pe:c2=(Int.tmod (k+1+1) 3 == 0):=pe;subst pe;refine⟨_,a1,Int.natCast_nonneg j,hj,(Int.tmod (k+1+1) 3 == 0),lZ V3 _ 2 1 _ l3 (by simp only [ah,Int.toNat_natCast]; first | done | exact cO (by first | omega | (simp only [List.length_cons,List.length_nil]; first | done | omega))) rfl,by decide,fun bR=>by simp at bR,fun _=>?_⟩
 have v2:i64.wrap (k+1+1+1)=k+1+1+1:=wrap_i64 (by omega);rw [v2];replace uE:pg mI (k+1+1+1) x3:=uE;refine⟨_,a1,Int.natCast_nonneg j,hj,c3,lZ V3 _ 3 1 _ l3 (by simp only [ah,Int.toNat_natCast]; first | done | exact cO (by first | omega | (simp only [List.length_cons,List.length_nil]; first | done | omega))) rfl,(kO V3 c3 x3 w3 (k+1+1+1) (cS.le l3) (by omega) (by omega) uE).mono ?_⟩
 rintro V4 _ ⟨jm,rfl⟩;have g4:¬ (k+1+1+1+((aA mI x3:Nat):Int))<0:=by omega
 refine⟨nofun,_,rfl,fun dN=>absurd (bq dN) g4,fun _=>?_⟩
 have l4:=(l3).trans jm;have ek:k+1+1+1+((aA mI x3:Nat):Int)=k+(((1+(1+(1+(aA mI x3+0)))):Nat):Int):=by omega
 rw [ek];exact⟨_,rfl,qe V4 l4⟩
theorem G' (V:aa) (s:ar) (l:List iY) (f:List Nat) (k:Int) (h:LR aS V s l f) (ix:0<=k) (lP:k+aA eB l<=4611686018427387904) (hm:pg eB k l) :
  ae prog V 32 [qL s,.int .i64 k] (fun V' r=>V.le V'/\r=.int .i64 (k+aA eB l)):=by
 refine aM (Fl _ _) fun _=>?_
 simp only [tL];refine G8 aS eB h ix lP hm ?_ fun V1 h1=>⟨h1,rfl⟩
 rintro N V1 j ⟨x0,x1,x2,x3,xu⟩ k b o ⟨c0,c1,c2,c3,cu⟩ w a1 hj k0 kc lZ hR eg qe;obtain⟨⟨bL,dz⟩,hR⟩:=hR;replace bL:c0=x0:=bL;subst bL;replace dz:c0.size<=9223372036854775807:=dz;obtain⟨cj,hR⟩:=hR;replace cj:c1=x1:=cj;subst cj;obtain⟨w2,wr2,cW,dU,hR⟩:=hR;subst cW;replace dU:LR rI _ c2 x2 w2:=dU;obtain⟨w3,wr3,lG,cS,hR⟩:=hR;subst lG;replace cS:LR rI _ c3 x3 w3:=cS;replace hR:_=[]:=hR;subst hR;replace kc:k+(((1+(1+(aA mI x2+(aA mI x3+0)))):Nat):Int)<=4611686018427387904:=kc;obtain⟨G5,eg⟩:=eg;obtain⟨oH,eg⟩:=eg;obtain⟨pe,eg⟩:=eg;obtain⟨uE,eg⟩:=eg;simp only [T.wp];replace G5:c0=cI (k):=G5;subst G5;refine⟨_,a1,Int.natCast_nonneg j,hj,cI (k),lZ V1 _ 0 1 _ (aa.le.refl _) (by simp only [ah,Int.toNat_natCast]; first | done | exact cO (by first | omega | (simp only [List.length_cons,List.length_nil]; first | done | omega))) rfl,(dP V1 (k) (by omega)).mono ?_⟩
 rintro V2 _ ⟨bm,rfl,_⟩;refine⟨fun _=>bm,_,rfl,fun bR=>by simp at bR,fun _=>?_⟩
 have v0:i64.wrap (k+1)=k+1:=wrap_i64 (by omega);rw [v0];replace oH:c1=(Int.tmod (k+1) 3 == 0):=oH;subst oH;refine⟨_,a1,Int.natCast_nonneg j,hj,(Int.tmod (k+1) 3 == 0),lZ V2 _ 1 1 _ bm (by simp only [ah,Int.toNat_natCast]; first | done | exact cO (by first | omega | (simp only [List.length_cons,List.length_nil]; first | done | omega))) rfl,by decide,fun bR=>by simp at bR,fun _=>?_⟩
 have v1:i64.wrap (k+1+1)=k+1+1:=wrap_i64 (by omega);rw [v1];replace pe:pg mI (k+1+1) x2:=pe;refine⟨_,a1,Int.natCast_nonneg j,hj,c2,lZ V2 _ 2 1 _ bm (by simp only [ah,Int.toNat_natCast]; first | done | exact cO (by first | omega | (simp only [List.length_cons,List.length_nil]; first | done | omega))) rfl,(kO V2 c2 x2 w2 (k+1+1) (dU.le bm) (by omega) (by omega) pe).mono ?_⟩
 rintro V3 _ ⟨bS,rfl⟩;have g3:¬ (k+1+1+((aA mI x2:Nat):Int))<0:=by omega
 refine⟨nofun,_,rfl,fun dN=>absurd (bq dN) g3,fun _=>?_⟩
 have l3:=(bm).trans bS;replace uE:pg mI (k+1+1+((aA mI x2:Nat):Int)) x3:=uE;refine⟨_,a1,Int.natCast_nonneg j,hj,c3,lZ V3 _ 3 1 _ l3 (by simp only [ah,Int.toNat_natCast]; first | done | exact cO (by first | omega | (simp only [List.length_cons,List.length_nil]; first | done | omega))) rfl,(kO V3 c3 x3 w3 (k+1+1+((aA mI x2:Nat):Int)) (cS.le l3) (by omega) (by omega) uE).mono ?_⟩
 rintro V4 _ ⟨jm,rfl⟩;have g4:¬ (k+1+1+((aA mI x2:Nat):Int)+((aA mI x3:Nat):Int))<0:=by omega
 refine⟨nofun,_,rfl,fun dN=>absurd (bq dN) g4,fun _=>?_⟩
 have l4:=(l3).trans jm;have ek:k+1+1+((aA mI x2:Nat):Int)+((aA mI x3:Nat):Int)=k+(((1+(1+(aA mI x2+(aA mI x3+0)))):Nat):Int):=by omega
 rw [ek];exact⟨_,rfl,qe V4 l4⟩
theorem Ha (V:aa) (s:ar) (l:List aW) (f:List Nat) (k:Int) (h:LR az V s l f) (ix:0<=k) (lP:k+aA dH l<=4611686018427387904) (hm:pg dH k l) :
  ae prog V 67 [qL s,.int .i64 k] (fun V' r=>V.le V'/\r=.int .i64 (k+aA dH l)):=by
 refine aM (Fx _ _) fun _=>?_
 simp only [tQ];refine G8 az dH h ix lP hm ?_ fun V1 h1=>⟨h1,rfl⟩
 rintro N V1 j ⟨x0,x1,x2,x3,x4,xu⟩ k b o ⟨c0,c1,c2,c3,c4,cu⟩ w a1 hj k0 kc lZ hR eg qe;obtain⟨⟨bL,dz⟩,hR⟩:=hR;replace bL:c0=x0:=bL;subst bL;replace dz:c0.size<=9223372036854775807:=dz;obtain⟨⟨cj,kJ⟩,hR⟩:=hR;replace cj:c1=x1:=cj;subst cj;replace kJ:c1.size<=9223372036854775807:=kJ;obtain⟨cW,hR⟩:=hR;replace cW:c2=x2:=cW;subst cW;obtain⟨w3,wr3,lG,cS,hR⟩:=hR;subst lG;replace cS:LR rI _ c3 x3 w3:=cS;obtain⟨wa,hR⟩:=hR;replace wa:c4=x4:=wa;subst wa;replace hR:_=[]:=hR;subst hR;replace kc:k+(((1+(1+(1+(aA mI x3+(1+0))))):Nat):Int)<=4611686018427387904:=kc;obtain⟨G5,eg⟩:=eg;obtain⟨oH,eg⟩:=eg;obtain⟨pe,eg⟩:=eg;obtain⟨uE,eg⟩:=eg;obtain⟨ok4,eg⟩:=eg;simp only [T.wp];replace G5:c0=cI (k):=G5;subst G5;refine⟨_,a1,Int.natCast_nonneg j,hj,cI (k),lZ V1 _ 0 1 _ (aa.le.refl _) (by simp only [ah,Int.toNat_natCast]; first | done | exact cO (by first | omega | (simp only [List.length_cons,List.length_nil]; first | done | omega))) rfl,(dP V1 (k) (by omega)).mono ?_⟩
 rintro V2 _ ⟨bm,rfl,_⟩;refine⟨fun _=>bm,_,rfl,fun bR=>by simp at bR,fun _=>?_⟩
 have v0:i64.wrap (k+1)=k+1:=wrap_i64 (by omega);rw [v0];replace oH:c1=cI (k+1):=oH;subst oH;refine⟨_,a1,Int.natCast_nonneg j,hj,cI (k+1),lZ V2 _ 1 1 _ bm (by simp only [ah,Int.toNat_natCast]; first | done | exact cO (by first | omega | (simp only [List.length_cons,List.length_nil]; first | done | omega))) rfl,(dP V2 (k+1) (by omega)).mono ?_⟩
 rintro V3 _ ⟨bS,rfl,_⟩;refine⟨fun _=>bS,_,rfl,fun bR=>by simp at bR,fun _=>?_⟩
 have l3:=(bm).trans bS;have v1:i64.wrap (k+1+1)=k+1+1:=wrap_i64 (by omega);rw [v1];replace pe:c2=(Int.tmod (k+1+1) 3 == 0):=pe;subst pe;refine⟨_,a1,Int.natCast_nonneg j,hj,(Int.tmod (k+1+1) 3 == 0),lZ V3 _ 2 1 _ l3 (by simp only [ah,Int.toNat_natCast]; first | done | exact cO (by first | omega | (simp only [List.length_cons,List.length_nil]; first | done | omega))) rfl,by decide,fun bR=>by simp at bR,fun _=>?_⟩
 have v2:i64.wrap (k+1+1+1)=k+1+1+1:=wrap_i64 (by omega);rw [v2];replace uE:pg mI (k+1+1+1) x3:=uE;refine⟨_,a1,Int.natCast_nonneg j,hj,c3,lZ V3 _ 3 1 _ l3 (by simp only [ah,Int.toNat_natCast]; first | done | exact cO (by first | omega | (simp only [List.length_cons,List.length_nil]; first | done | omega))) rfl,(kO V3 c3 x3 w3 (k+1+1+1) (cS.le l3) (by omega) (by omega) uE).mono ?_⟩
 rintro V4 _ ⟨jm,rfl⟩;have g4:¬ (k+1+1+1+((aA mI x3:Nat):Int))<0:=by omega
 refine⟨nofun,_,rfl,fun dN=>absurd (bq dN) g4,fun _=>?_⟩
 have l4:=(l3).trans jm;replace ok4:c4=(k+1+1+1+((aA mI x3:Nat):Int)):=ok4;subst ok4;refine⟨_,a1,Int.natCast_nonneg j,hj,(k+1+1+1+((aA mI x3:Nat):Int)),lZ V4 _ 4 1 _ l4 (by simp only [ah,Int.toNat_natCast]; first | done | exact cO (by first | omega | (simp only [List.length_cons,List.length_nil]; first | done | omega))) rfl,fun bR=>by simp at bR,fun _=>?_⟩
 have v4:i64.wrap (k+1+1+1+((aA mI x3:Nat):Int)+1)=k+1+1+1+((aA mI x3:Nat):Int)+1:=wrap_i64 (by omega);rw [v4];have ek:k+1+1+1+((aA mI x3:Nat):Int)+1=k+(((1+(1+(1+(aA mI x3+(1+0))))):Nat):Int):=by omega
 rw [ek];exact⟨_,rfl,qe V4 l4⟩
theorem LK (V:aa) (c0:ar) (x0:List aE) (w0:List Nat) (k:Int) (s0:LR aw V c0 x0 w0) (ix:0<=k) (lP:(k+((aA cP x0:Nat):Int))<=4611686018427387904) (G5:pg cP k x0) :
  ae prog V 31 [dJ (c0,()),.int .i64 k] (fun V' r=>V.le V'/\r=.int .i64 (k+((aA cP x0:Nat):Int))):=by
 refine aM (Iq _ _) fun _=>?_
 simp only [xg,T.wp];refine(G9 V c0 x0 w0 k s0 (by omega) (by omega) G5).mono ?_
 rintro V1 _ ⟨aF,rfl⟩;have LL:¬ (k+((aA cP x0:Nat):Int))<0:=by omega
 refine⟨nofun,_,rfl,fun dN=>absurd (bq dN) LL,fun _=>?_⟩
 exact⟨aF,rfl⟩
theorem Hc (V:aa) (c0:ByteArray) (c1:ar) (x1:List aW) (w1:List Nat) (k:Int) (s1:LR az V c1 x1 w1) (ix:0<=k) (lP:(k+((aA dH x1:Nat):Int))<=4611686018427387904) (oH:pg dH k x1) :
  ae prog V 33 [iK (c0,c1,()),.int .i64 k] (fun V' r=>V.le V'/\r=.int .i64 (k+((aA dH x1:Nat):Int))):=by
 refine aM (Fo _ _) fun _=>?_
 simp only [tM,T.wp];refine(Ha V c1 x1 w1 k s1 (by omega) (by omega) oH).mono ?_
 rintro V1 _ ⟨aF,rfl⟩;have LL:¬ (k+((aA dH x1:Nat):Int))<0:=by omega
 refine⟨nofun,_,rfl,fun dN=>absurd (bq dN) LL,fun _=>?_⟩
 exact⟨aF,rfl⟩
theorem Cx (V:aa) (c0:ar) (c1:ar) (c2:ByteArray) (c3:ar) (x0:List aE) (x1:List iY) (x3:List aW) (w0:List Nat) (w1:List Nat) (w3:List Nat) (k:Int) (s0:LR aw V c0 x0 w0) (s1:LR aS V c1 x1 w1) (s3:LR az V c3 x3 w3) (ix:0<=k) (lP:(((k+((aA cP x0:Nat):Int))+((aA eB x1:Nat):Int))+((aA dH x3:Nat):Int))<=4611686018427387904) (G5:pg cP k x0) (oH:pg eB (k+((aA cP x0:Nat):Int)) x1) (uE:pg dH ((k+((aA cP x0:Nat):Int))+((aA eB x1:Nat):Int)) x3) :
  ae prog V 10 [aU (c0,c1,c2,c3,()),.int .i64 k] (fun V' r=>V.le V'/\r=.int .i64 (((k+((aA cP x0:Nat):Int))+((aA eB x1:Nat):Int))+((aA dH x3:Nat):Int))):=by
 refine aM (Ck _ _) fun _=>?_
 simp only [qY,T.wp];refine(LK V c0 x0 w0 k s0 (by omega) (by omega) G5).mono ?_
 rintro V1 _ ⟨aF,rfl⟩;have LL:¬ (k+((aA cP x0:Nat):Int))<0:=by omega
 refine⟨nofun,_,rfl,fun dN=>absurd (bq dN) LL,fun _=>?_⟩
 replace s1:=s1.le aF;replace s3:=s3.le aF;refine(G' V1 c1 x1 w1 (k+((aA cP x0:Nat):Int)) s1 (by omega) (by omega) oH).mono ?_
 rintro V2 _ ⟨bm,rfl⟩;have hneg2:¬ ((k+((aA cP x0:Nat):Int))+((aA eB x1:Nat):Int))<0:=by omega
 refine⟨nofun,_,rfl,fun dN=>absurd (bq dN) hneg2,fun _=>?_⟩
 replace s3:=s3.le bm;have l2:=aF.trans bm;refine(Hc V2 c2 c3 x3 w3 ((k+((aA cP x0:Nat):Int))+((aA eB x1:Nat):Int)) s3 (by omega) (by omega) uE).mono ?_
 rintro V3 _ ⟨bS,rfl⟩;have hneg3:¬ (((k+((aA cP x0:Nat):Int))+((aA eB x1:Nat):Int))+((aA dH x3:Nat):Int))<0:=by omega
 refine⟨nofun,_,rfl,fun dN=>absurd (bq dN) hneg3,fun _=>?_⟩
 have l3:=l2.trans bS;exact⟨l3,rfl⟩
def MkC {sh:List Sc} {α:Type} (P:Program) (g:Nat) (r:Rp sh α):Prop:=∀ (V:aa) (c:aH sh) (x:α) (f:List Nat) (k:Int),r.R V c x f->f.Nodup->Wr V f->r.cB x<=1048576->0<=k->k<=1152921504606846976 ->
 ae P V g [dx.val (.g sh) c,.int .i64 k] (fun V' v=>bI f V V'/\∃ n:Int,v=.int .i64 (k+n)/\0<=n/\n<=67108864)
def MkH {sh:List Sc} {α:Type} (P:Program) (g gh:Nat) (r:Rp sh α):Prop:=∀ (V:aa) (c:aH sh) (x:α) (f:List Nat) (k:Int),r.R V c x f->f.Nodup->Wr V f->r.cB x<=1048576->0<=k->k<=1152921504606846976 ->
 ae P V g [dx.val (.g sh) c,.int .i64 k] (fun V' v=>bI f V V'/\Wr V' f/\∃ n:Int,v=.int .i64 (k+n)/\0<=n/\n<=67108864 /\
  ∀ V2,(∀ b∈f,V2 b=V' b)->ae P V2 gh [dx.val (.g sh) c,.int .i64 k] (fun V3 v=>V2.le V3/\v=.int .i64 (k+n)))
theorem Wr.WR {V V':aa} {f g:List Nat} (h:Wr V f) (d:∀ b∈f,b ∉ g) (B:bI g V V'):Wr V' f:=fun b hb=>by obtain⟨q1,q2,q3⟩:=h b hb; exact⟨q1,q2,B b _ (d b hb) q3⟩
theorem Sj {V V1 V':aa} {f:List Nat} (W:Wr V1 f) (ke:∀ b∈f,V b=V1 b) (le:V.le V'):∀ b∈f,V' b=V1 b:=fun b hb=>by obtain⟨q1,q2,q3⟩:=W b hb; rw [le _ _ ((ke b hb).trans q3),q3]
theorem oR {sh:List Sc} {α:Type} {r:Rp sh α} {m:Mk α} {K:Nat} (hK:∀ x,m.cnt x<=K*(1+r.cB x)):∀ l,aA m l<=K*(l.length+aC r l)
 | []=>by simp [aA]
 | x :: l=>by
  have ih:=oR hK l;have h1:=hK x;simp only [aA,aC,List.length_cons];have e:K*(l.length+1+(r.cB x+aC r l))=K*(1+r.cB x)+K*(l.length+aC r l):=by rw [<- Nat.mul_add]; congr 1; omega
  omega
theorem LM (x:aE):cP.cnt x<=6*(1+aw.cB x):=by
 have e:cP.cnt x=(1+(1+(1+(aA mI x.2.2.2.1+0)))):=rfl;have e2:aw.cB x=(x.1.size+(x.2.1.size+(x.2.2.2.1.length+aC rI x.2.2.2.1+0))):=rfl;rw [e,e2];have q3:=j7 x.2.2.2.1;omega
theorem LO (x:iY):eB.cnt x<=6*(1+aS.cB x):=by
 have e:eB.cnt x=(1+(1+(aA mI x.2.2.1+(aA mI x.2.2.2.1+0)))):=rfl;have e2:aS.cB x=(x.1.size+(x.2.2.1.length+aC rI x.2.2.1+(x.2.2.2.1.length+aC rI x.2.2.2.1+0))):=rfl;rw [e,e2];have q2:=j7 x.2.2.1;have q3:=j7 x.2.2.2.1;omega
theorem LP (x:aW):dH.cnt x<=6*(1+az.cB x):=by
 have e:dH.cnt x=(1+(1+(1+(aA mI x.2.2.2.1+(1+0))))):=rfl;have e2:az.cB x=(x.1.size+(x.2.1.size+(x.2.2.2.1.length+aC rI x.2.2.2.1+0))):=rfl;rw [e,e2];have q3:=j7 x.2.2.2.1;omega
theorem QL:MkC prog 9 aj:=by
 rintro V ⟨c0,c1,c2,c3,cu⟩ ⟨x0,x1,x2,x3,xu⟩ f k hx nd hw ht k0 k1;obtain⟨w0,z0,rfl,s0,hx⟩:=hx;replace s0:LR aw V c0 x0 w0:=s0;obtain⟨w1,z1,rfl,s1,hx⟩:=hx;replace s1:LR aS V c1 x1 w1:=s1;obtain⟨⟨e2,_⟩,hx⟩:=hx;replace e2:c2=x2:=e2;subst e2;obtain⟨w3,z3,rfl,s3,hx⟩:=hx;replace s3:LR az V c3 x3 w3:=s3;replace hx:_=[]:=hx;subst hx;have et:aj.cB (x0,x1,c2,x3,xu)=(x0.length+aC aw x0+(x1.length+aC aS x1+(c2.size+(x3.length+aC az x3+0)))):=rfl;rw [et] at ht;have q0:=oR LM x0;have q1:=oR LO x1;have q3:=oR LP x3;have n0:=List.nodup_append.1 nd;have n1:=List.nodup_append.1 n0.2.1;have n3:=List.nodup_append.1 n1.2.1;refine(ru V c0 c1 c2 c3 x0 x1 x3 w0 w1 w3 k s0 s1 s3 n0.1 (fun y hy=>hw y (by simp [hy])) n1.1 (fun y hy=>hw y (by simp [hy])) n3.1 (fun y hy=>hw y (by simp [hy])) (fun y hy hm=>n0.2.2 y hy y (by simp [hm]) rfl) (fun y hy hm=>n0.2.2 y hy y (by simp [hm]) rfl) (fun y hy hm=>n1.2.2 y hy y (by simp [hm]) rfl) k0 (by omega)).mono ?_
 rintro V1 _ ⟨hb,rfl,y0,y1,y3,⟨M0,W0,k0k,n0n⟩,⟨M1,W1,k1k,n1n⟩,⟨M3,W3,k3k,n3n⟩⟩;exact⟨hb,((aA cP x0:Nat):Int)+((aA eB x1:Nat):Int)+((aA dH x3:Nat):Int),congrArg (Value.int .i64) (by omega),by omega,by omega⟩
theorem QM:MkH prog 9 10 aj:=by
 rintro V ⟨c0,c1,c2,c3,cu⟩ ⟨x0,x1,x2,x3,xu⟩ f k hx nd hw ht k0 k1;obtain⟨w0,z0,rfl,s0,hx⟩:=hx;replace s0:LR aw V c0 x0 w0:=s0;obtain⟨w1,z1,rfl,s1,hx⟩:=hx;replace s1:LR aS V c1 x1 w1:=s1;obtain⟨⟨e2,_⟩,hx⟩:=hx;replace e2:c2=x2:=e2;subst e2;obtain⟨w3,z3,rfl,s3,hx⟩:=hx;replace s3:LR az V c3 x3 w3:=s3;replace hx:_=[]:=hx;subst hx;have et:aj.cB (x0,x1,c2,x3,xu)=(x0.length+aC aw x0+(x1.length+aC aS x1+(c2.size+(x3.length+aC az x3+0)))):=rfl;rw [et] at ht;have q0:=oR LM x0;have q1:=oR LO x1;have q3:=oR LP x3;have n0:=List.nodup_append.1 nd;have n1:=List.nodup_append.1 n0.2.1;have n3:=List.nodup_append.1 n1.2.1;refine(ru V c0 c1 c2 c3 x0 x1 x3 w0 w1 w3 k s0 s1 s3 n0.1 (fun y hy=>hw y (by simp [hy])) n1.1 (fun y hy=>hw y (by simp [hy])) n3.1 (fun y hy=>hw y (by simp [hy])) (fun y hy hm=>n0.2.2 y hy y (by simp [hm]) rfl) (fun y hy hm=>n0.2.2 y hy y (by simp [hm]) rfl) (fun y hy hm=>n1.2.2 y hy y (by simp [hm]) rfl) k0 (by omega)).mono ?_
 rintro V1 _ ⟨hb,rfl,y0,y1,y3,⟨M0,W0,k0k,n0n⟩,⟨M1,W1,k1k,n1n⟩,⟨M3,W3,k3k,n3n⟩⟩;refine⟨hb,fun y hy=>?_,((aA cP x0:Nat):Int)+((aA eB x1:Nat):Int)+((aA dH x3:Nat):Int),congrArg (Value.int .i64) (by omega),by omega,by omega,fun V2 he=>?_⟩
 ·simp only [List.mem_append,List.not_mem_nil,or_false] at hy
  rcases hy with hy | hy
  ·exact W0 y hy
  rcases hy with hy | hy
  ·exact W1 y hy
  exact W3 y hy
 rw [<- n0n] at k1k;rw [<- n0n,<- n1n] at k3k;have key:=Cx V2 c0 c1 c2 c3 y0 y1 y3 w0 w1 w3 k (M0.loc fun y hy=>he y (by simp [hy])) (M1.loc fun y hy=>he y (by simp [hy])) (M3.loc fun y hy=>he y (by simp [hy])) k0 (by rw [n0n,n1n,n3n]; omega) k0k k1k k3k
 rw [n0n,n1n,n3n] at key;refine key.mono ?_
 rintro V3 _ ⟨bS,rfl⟩;exact⟨bS,congrArg (Value.int .i64) (by omega)⟩
theorem LQ {V:aa} (hV:nW V) {c0:aH [.l,.l,.s,.l]} {x0:ao} {f0:List Nat} (h0:aj.R V c0 x0 f0) :
  ae prog V 3 [aU c0] (fun V' r=>V.le V'/\r=.bool true):=by
 refine aM (tG _) fun _=>?_
 simp only [mw,T.wp];refine(J5 _ _ _ _ 1048576 h0 (by omega) (by omega)).mono ?_
 rintro V1 _ ⟨rfl,rfl⟩;refine⟨nofun,_,rfl,fun _=>⟨aa.le.refl _,rfl⟩,fun Mg=>?_⟩
 have hp0:((aj.cB x0:Nat):Int)<=1048576:=Decidable.not_not.1 fun k=>(bU Mg) (dk.2 k)
 have tx0:aj.cB x0<=1048576:=by omega
 refine(mB _ _ _ _ h0 tx0).mono ?_
 rintro V2 _ ⟨bm,d2,g2,rfl,H2,O2⟩;refine⟨fun _=>bm,_,rfl,?_⟩
 have l2:=bm;refine(QI trivial _ _ _ H2 tx0).mono ?_
 rintro V3 _ ⟨bS,wc0,wx0,wf0,wz1,rfl,Rw0,Ow,hw⟩;refine⟨fun _=>bS,(wc0,wz1,()),rfl,?_⟩
 have l3:=l2.trans bS;refine(mB _ _ _ _ (aj.le h0 l3) tx0).mono ?_
 rintro V4 _ ⟨jm,d4,g4,rfl,H4,O4⟩;refine⟨fun _=>jm,_,rfl,?_⟩
 have nX0:∀ b∈g4,V1 b=none:=fun b hb=>cL l3 (O4.2.1 b hb)
 have mX0:∀ b∈g4,V3 b=none:=fun b hb=>cL (aa.le.refl _) (O4.2.1 b hb)
 have l4:=l3.trans jm;have lw4:=jm;have X0:=H4;have wX0:=O4.2.2;have ndX0:=O4.1;obtain⟨fX0,eX0⟩:∃ fX,fX=g4:=⟨_,rfl⟩;rw [<- eX0] at X0 wX0 ndX0 nX0 mX0;refine(BP (nW.le hV l4) _ _ _ X0 tx0).mono ?_
 rintro V5 _ ⟨fu,gc0,gx0,gf0,gz1,rfl,Rg0,Og,hg⟩;refine⟨fun _=>fu,(gc0,gz1,()),rfl,?_⟩
 have nG0:∀ b∈gf0,V1 b=none:=fun b hb=>cL l4 (Og.2.1 b hb)
 have mG0:∀ b∈gf0,V3 b=none:=fun b hb=>cL lw4 (Og.2.1 b hb)
 have dG0x0:∀ b∈gf0,b ∉ fX0:=fun b hb hx=>by
  obtain⟨z,hz⟩:=aj.kn X0 b hx;rw [Og.2.1 b hb] at hz; cases hz
 have dX0g0:∀ b∈fX0,b ∉ gf0:=fun b h1 h2=>dG0x0 b h2 h1
 have l5:=l4.trans fu;have lw5:=lw4.trans fu;replace X0:=(aj.le X0 fu);replace wX0:=wX0.le fu;obtain⟨eg0,eg1⟩:=LB hw hg;subst eg0;subst eg1;have G0:=Rg0;have wG0:=Og.2.2;have ndG0:=Og.1;have tg0:aj.cB wx0<=1048576:=rebR_tot hw;refine(mC _ _ _ _ _ _ _ G0 (aj.le Rw0 lw5)).mono ?_
 rintro V6 _ ⟨rfl,b6,rfl,hb6⟩;refine⟨fun _=>aa.le.refl _,b6,rfl,(fun h=>by simp [hb6.2 rfl] at h),fun _=>?_⟩
 refine⟨(fun h=>by simp at h),fun _=>?_⟩
 refine(mB _ _ _ _ (aj.le h0 l5) tx0).mono ?_
 rintro V7 _ ⟨o8,d7,g7,rfl,H7,O7⟩;refine⟨fun _=>o8,_,rfl,?_⟩
 have l7:=l5.trans o8;have lw7:=lw5.trans o8;replace X0:=(aj.le X0 o8);replace wX0:=wX0.le o8;replace G0:=(aj.le G0 o8);replace wG0:=wG0.le o8;refine(mC _ _ _ _ _ _ _ X0 H7).mono ?_
 rintro V8 _ ⟨rfl,b8,rfl,hb8⟩;refine⟨fun _=>aa.le.refl _,b8,rfl,(fun h=>by simp [hb8.2 rfl] at h),fun _=>?_⟩
 refine(QL _ _ _ _ 1 X0 ndX0 wX0 tx0 (by omega) (by omega)).mono ?_
 rintro V9 _ ⟨B9,k9,rfl,p9,q9⟩;refine⟨nofun,_,rfl,?_⟩
 have l9:=FV l7 nX0 B9;have lw9:=FV lw7 mX0 B9;replace G0:=(aj.WR G0 dG0x0 B9);replace wG0:=wG0.WR dG0x0 B9;have hk:¬ (1+k9)<0:=by omega
 refine⟨fun h=>absurd (bq h) hk,fun _=>?_⟩
 refine(mC _ _ _ _ _ _ _ G0 (aj.le Rw0 lw9)).mono ?_
 rintro V10 _ ⟨rfl,Me,rfl,GB⟩;refine⟨fun _=>aa.le.refl _,Me,rfl,(fun h=>by simp [GB.2 rfl] at h),fun _=>?_⟩
 refine⟨(fun h=>by simp at h),fun _=>?_⟩
 refine(QM _ _ _ _ 1 G0 ndG0 wG0 tg0 (by omega) (by omega)).mono ?_
 rintro V11 _ ⟨B11,WG0,m0,rfl,p11,q11,held0⟩;refine⟨nofun,_,rfl,?_⟩
 have l11:=FV l9 nG0 B11;have lw11:=FV lw9 mG0 B11;have ke0:∀ b∈gf0,V11 b=V11 b:=fun _ _=>rfl
 obtain⟨kV0,ek0⟩:∃ U,U=V11:=⟨_,rfl⟩;rw [<- ek0] at WG0 held0;replace ke0:∀ b∈gf0,V11 b=kV0 b:=fun b hb=>by rw [ek0]
 refine(held0 _ ke0).mono ?_
 rintro V12 _ ⟨le12,rfl⟩;have hn12:¬ (1+m0)<0:=by omega
 refine⟨nofun,_,rfl,fun h=>absurd (bq h) hn12,fun _=>?_⟩
 have l12:=l11.trans le12;have lw12:=lw11.trans le12;replace ke0:=Sj WG0 ke0 le12;refine⟨(fun h=>by simp at h),fun _=>?_⟩
 refine(mB _ _ _ _ (aj.le h0 l12) tx0).mono ?_
 rintro V13 _ ⟨le13,d13,g13,rfl,H13,O13⟩;refine⟨fun _=>le13,_,rfl,?_⟩
 have l13:=l12.trans le13;have lw13:=lw12.trans le13;replace ke0:=Sj WG0 ke0 le13;refine(BP (nW.le hV l13) _ _ _ H13 tx0).mono ?_
 rintro V14 _ ⟨le14,eR,qx0,qf0,qz1,rfl,Rq0,Oq,hq⟩;refine⟨fun _=>le14,(eR,qz1,()),rfl,?_⟩
 have l14:=l13.trans le14;have lw14:=lw13.trans le14;replace ke0:=Sj WG0 ke0 le14;obtain⟨eq0,eq1⟩:=LB hw hq;subst eq0;subst eq1;refine(mC _ _ _ _ _ _ _ Rq0 (aj.le Rw0 lw14)).mono ?_
 rintro V15 _ ⟨rfl,b15,rfl,hb15⟩;refine⟨fun _=>aa.le.refl _,b15,rfl,(fun h=>by simp [hb15.2 rfl] at h),fun _=>?_⟩
 refine⟨(fun h=>by simp at h),fun _=>?_⟩
 refine(held0 _ ke0).mono ?_
 rintro V16 _ ⟨le16,rfl⟩;have hn16:¬ (1+m0)<0:=by omega
 refine⟨nofun,_,rfl,fun h=>absurd (bq h) hn16,fun _=>?_⟩
 have l16:=l14.trans le16;have lw16:=lw14.trans le16;replace ke0:=Sj WG0 ke0 le16;refine⟨(fun h=>by simp at h),fun _=>?_⟩
 exact⟨l16,rfl⟩
end Go.Proofs.YtahmmgiiojjhgaaGreatDoor
