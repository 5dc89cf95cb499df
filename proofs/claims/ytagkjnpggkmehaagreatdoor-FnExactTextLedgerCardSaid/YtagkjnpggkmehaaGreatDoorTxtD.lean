/-
  Fractions, amounts, rates, remainders and ledgers as texts, in the program and in the reference.
-/
import Derived.Test.YtagkjnpggkmehaaGreatDoorTxtC
namespace Go.Proofs.YtagkjnpggkmehaaGreatDoor
open Sx Go.RowKit
set_option maxRecDepth 100000
def places (x:ByteArray):Int:=(curRowOf x).2.2.1
theorem places_bd (x:ByteArray):0≤places x∧places x≤4:=by
 unfold places curRowOf
 cases h:curFrom curI x 0 with
 | none=>exact⟨by decide,by decide⟩
 | some r =>
  have hm:r∈curI:=List.mem_of_find?_eq_some h
  have:∀ r∈curI,0≤r.2.2.1∧r.2.2.1≤4:=by decide +kernel
  exact this r hm
theorem known_size {x:ByteArray} (h:known x=true):x.size=3:=by
 unfold known at h
 cases h2:curFrom curI x 0 with
 | none=>rw [h2] at h; cases h
 | some r =>
  have hm:r∈curI:=List.mem_of_find?_eq_some h2
  have hx:(r.1.toList == x.toList)=true:=List.find?_some (p:=curHas x) h2
  have:∀ r∈curI,r.1.size=3:=by decide +kernel
  rw [← text_eq.1 hx]
  exact this r hm
theorem cS_CurPlaces {V:Know} (_:HtS V) (x:ByteArray):CallX Tryz.prog V 196 [.string x] (fun V' r=>V.le V'∧r=.int .i64 (places x)):=by
 refine CallX.of_fits Tryz.mix (fS_CurPlaces _) fun _=>?_
 simp only [tS_CurPlaces,T.wp]
 refine(cS_l08Find V x).mono ?_
 rintro V1 _ ⟨le1,rfl⟩
 exact⟨nofun,curRowOf x,rfl,le1,rfl⟩
theorem cI_CurPlaces {V:Know} (hV:HtI V) (x:ByteArray):CallX Tryz.prog V 145 [.string x] (fun V' r=>V.le V'∧r=.int .i64 (places x)):=by
 refine CallX.of_fits Tryz.mix (fI_CurPlaces _) fun _=>?_
 simp only [tI_CurPlaces,T.wp]
 refine(cI_currencyOf hV.1 x).mono ?_
 rintro V1 _ ⟨rfl,rfl⟩
 exact⟨nofun,(curRowOf x,known x,()),rfl,Know.le.refl _,rfl⟩
def ratT (neg:Bool) (n d:List Lim):ByteArray:=if d=[(1,())] then intT neg n else (intT neg n++(⟨#[47]⟩:ByteArray))++natT d
noncomputable def moneyT (cur:ByteArray) (neg:Bool) (l:List Lim):ByteArray:=(cur++(⟨#[32]⟩:ByteArray))++decT neg l (places cur)
def rateT (r:DRate):ByteArray:=(((r.1++(⟨#[32]⟩:ByteArray))++r.2.1)++(⟨#[32]⟩:ByteArray))++decT r.2.2.1 r.2.2.2.1 r.2.2.2.2.1
theorem ratT_size {neg:Bool} {n d:List Lim} (h:RatOkP neg n d):(ratT neg n d).size≤800:=by
 have h1:=intT_size (neg:=neg) h.1.1.1.1
 have h2:=natT_size h.2.1.1.1
 have l1:=h.2.2.2.1
 have l2:=h.2.2.2.2.1
 unfold ratT
 split
 ·omega
 ·rw [ByteArray.size_append,ByteArray.size_append]
  show _+1+_≤_
  omega
theorem moneyT_size {cur:ByteArray} {neg:Bool} {l:List Lim} (h:MoneyOkP cur neg l):(moneyT cur neg l).size≤2200:=by
 have h1:=decT_size (neg:=neg) (sc:=places cur) h.2.1.1.1.1
 have h2:=known_size h.1
 have l1:=h.2.2
 unfold moneyT
 rw [ByteArray.size_append,ByteArray.size_append]
 show _+1+_≤_
 omega
theorem rateT_size {r:DRate} (h:RateOkP r):(rateT r).size≤2200:=by
 have h1:=decT_size (neg:=r.2.2.1) (sc:=r.2.2.2.2.1) h.2.2.2.1.1.1.1.1
 have h2:=known_size h.1
 have h3:=known_size h.2.1
 have l1:=h.2.2.2.1.2.1
 unfold rateT
 rw [ByteArray.size_append,ByteArray.size_append,ByteArray.size_append,ByteArray.size_append]
 show _+1+_+1+_≤_
 omega
theorem can_one1:Can [((1:Int),())]:=⟨lims_one (by decide),.inr (by decide)⟩
theorem cI_isOne (V:Know) (s:SlV) (l:List Lim) (f:List Nat) (h:LR rI V s l f):CallX Tryz.prog V 167 [Sc.val .l s] (fun V' r=>V'=V∧∃ e,r=.bool e∧(e=true↔l=[(1,())])):=by
 refine CallX.of_fits Tryz.mix (fI_isOne _) fun _=>?_
 simp only [tI_isOne,T.wp]
 have hn:=h.1
 refine⟨fun h1=>?_,fun h1=>⟨by trivial,false,rfl,⟨(fun e=>by cases e),fun e=>?_⟩⟩⟩
 ·have h1':(s.n:Int)=1:=by simpa using h1
  have hl:0<l.length:=by omega
  obtain⟨b,o,a1,l1⟩:=h.int hl
  refine⟨_,a1,by omega,by omega,_,l1,by trivial,_,rfl,?_⟩
  match l,hl with
  | [x],_ =>
   obtain⟨x,u⟩:=x
   show(x == 1)=true↔_
   simp
  | _ :: _ :: _,_=>simp at hn; omega
 ·rw [e] at hn
  have:(s.n:Int)=1:=by simp at hn; omega
  simp [this] at h1
noncomputable def rowsT {α:Type} (g:α→ByteArray) (l:List α) (s:ByteArray):ByteArray:=l.foldl (fun t x=>t++g x) s
theorem rowsT_snoc {α:Type} (g:α→ByteArray) (l:List α) (x:α) (s:ByteArray):rowsT g (l++[x]) s=rowsT g l s++g x:=by simp [rowsT]
theorem rows_lp {α:Type} {P:Program} {K:Know→List Value→Prop} {V V0:Know} {Ns:List (List LV→Know→Prop)} {n:Nat} {s0:ByteArray} (g:α→ByteArray) (l:List α) (B:Nat)
  {row cont:LShs [.o (.o .s),.o (.o (.i .i64))]→T} (hn:n=l.length) (h63:n≤9223372036854775807)
  (hB:∀ i (h:i<l.length),(g l[i]).size≤B)
  (hrow:∀ (N:List LV→Know→Prop) (V1:Know) (i:Nat) (t:ByteArray) (hi:i<l.length),V.le V1→t.size≤s0.size+B*l.length→t.size+B≤s0.size+B*l.length →
   (∀ V2,V1.le V2→N [.v (.string (t++g l[i])),.v (.int .i64 ((i+1:Nat):Int))] V2)→(row (t,(i:Int),())).wp P K V1 V1 (Ns++[N]))
  (hcont:∀ (N:List LV→Know→Prop) (V1:Know),V.le V1→(rowsT g l s0).size≤s0.size+B*l.length→(cont (rowsT g l s0,(n:Int),())).wp P K V1 V1 (Ns++[N])) :
  (T.lp [.o (.o .s),.o (.o (.i .i64))] [.v (.string s0),.v (.int .i64 (0:Int))] fun y=>.br (decide (y.2.fst<(n:Int))) (row y) (cont y)).wp P K V V0 Ns:=by
 subst hn
 refine⟨fun y V'=>V.le V'∧∃ i:Nat,(y.2.1:Int)=(i:Int)∧i≤l.length∧y.1=rowsT g (l.take i) s0∧ByteArray.size y.1≤s0.size+B*i,fun y _=>((l.length:Int)-(y.2.1:Int)).toNat,
  ⟨(s0,(0:Int),()),rfl,Know.le.refl _,0,rfl,Nat.zero_le _,rfl,by simp⟩,?_⟩
 rintro⟨t,(q:Int),u⟩ V' ⟨hle,i,hq,hil,ht,hsz⟩
 replace hq:q=(i:Int):=hq
 replace ht:t=rowsT g (l.take i) s0:=ht
 replace hsz:ByteArray.size t≤s0.size+B*i:=hsz
 subst hq
 refine⟨fun hlt=>?_,fun hge=>?_⟩
 ·have hi:i<l.length:=by
   have:(i:Int)<(l.length:Int):=of_decide_eq_true hlt
   omega
  have hm:B*(i+1)≤B*l.length:=Nat.mul_le_mul_left _ hi
  rw [Nat.mul_add,Nat.mul_one] at hm
  refine hrow _ V' i t hi hle (by omega) (by omega) fun V2 hle2=>?_
  refine⟨(t++g l[i],((i+1:Nat):Int),()),rfl,⟨hle.trans hle2,i+1,rfl,hi,?_,?_⟩,?_⟩
  ·show t++g l[i]=_
   rw [ht,List.take_succ_eq_append_getElem hi,rowsT_snoc]
  ·show(t++g l[i]).size≤_
   rw [ByteArray.size_append,Nat.mul_add,Nat.mul_one]
   have:=hB i hi
   omega
  ·show((l.length:Int)-((i+1:Nat):Int)).toNat<((l.length:Int)-(i:Int)).toNat
   omega
 ·have hi:i=l.length:=by
   have:¬ (i:Int)<(l.length:Int):=of_decide_eq_false hge
   omega
  subst hi
  rw [List.take_length] at ht
  subst ht
  exact hcont _ V' hle hsz
noncomputable def rateRow (r:DRate):ByteArray:=((⟨#[114,97,116,101,32]⟩:ByteArray)++rateT r)++(⟨#[10]⟩:ByteArray)
noncomputable def acctRow (a:DAcct):ByteArray:=(((⟨#[97,99,99,116,32]⟩:ByteArray)++a.1++(⟨#[32]⟩:ByteArray))++moneyT a.2.1 a.2.2.1 a.2.2.2.1)++(⟨#[10]⟩:ByteArray)
noncomputable def restRow (x:DRest):ByteArray:=(((⟨#[114,101,115,116,32]⟩:ByteArray)++x.1++(⟨#[32]⟩:ByteArray))++ratT x.2.1 x.2.2.1 x.2.2.2.1)++(⟨#[10]⟩:ByteArray)
noncomputable def ledgerT (x:DLedger):ByteArray:=rowsT restRow x.2.1 (rowsT acctRow x.1 (rowsT rateRow x.2.2.2.1 (((⟨#[112,105,118,111,116,32]⟩:ByteArray)++x.2.2.1)++(⟨#[10]⟩:ByteArray))))
theorem rateRow_size {r:DRate} (h:RateOkP r):(rateRow r).size≤3000:=by
 have:=rateT_size h
 unfold rateRow
 rw [ByteArray.size_append,ByteArray.size_append]
 show 5+_+1≤_
 omega
theorem acctRow_size {a:DAcct} (h:MoneyOkP a.2.1 a.2.2.1 a.2.2.2.1) (hw:WordP a.1):(acctRow a).size≤3000:=by
 have:=moneyT_size h
 have:=hw.2.1
 unfold acctRow
 rw [ByteArray.size_append,ByteArray.size_append,ByteArray.size_append,ByteArray.size_append]
 show 5+_+1+_+1≤_
 omega
theorem restRow_size {x:DRest} (h:RatOkP x.2.1 x.2.2.1 x.2.2.2.1) (hk:known x.1=true):(restRow x).size≤3000:=by
 have:=ratT_size h
 have:=known_size hk
 unfold restRow
 rw [ByteArray.size_append,ByteArray.size_append,ByteArray.size_append,ByteArray.size_append]
 show 5+_+1+_+1≤_
 omega
theorem cS_RatText {V:Know} (_:HtS V) (c0:Bool) (c1 c2:SlV) (n d:List Lim) (f g:List Nat) (h:LR rI V c1 n f) (h':LR rI V c2 d g) :
  CallX Tryz.prog V 88 [qv1 (c0,c1,c2,())] (TxPost V (okT (RatOkP c0 n d) (ratT c0 n d))):=by
 refine CallX.of_fits Tryz.mix (fS_RatText _) fun _=>?_
 simp only [tS_RatText,T.wp]
 refine(cS_RatOk V c0 c1 c2 n d f g h h').mono ?_
 rintro V1 r ⟨le1,e,rfl,he⟩
 refine⟨nofun,e,rfl,fun hf=>⟨le1,by rw [okT_neg (fun k=>by rw [he.2 k] at hf; cases hf)]; rfl⟩,fun ht=>?_⟩
 have ok:=he.1 (by simpa using ht)
 rw [okT_pos ok]
 intro b4 c4 sp hb4 hc4 _
 have k4:=newI (V:=V1) (b:=b4) (cap:=c4) (o:=[(1,())]) (spare:=sp) (t:=3) hb4 hc4 (by simp)
 have hle4:=kset_le (x:=([((1:Int),())].map cellI++sp,((3:TypeId),((0,0):Nat × Nat)))) hb4
 have le4:=le1.trans hle4
 refine(cS_l02Cmp _ c2 ⟨some ⟨b4,0,none⟩,1,c4⟩ d [(1,())] _ _ (h'.le le4) k4.1).mono ?_
 rintro V3 r ⟨rfl,rfl⟩
 have hd:(cmpL d [(1,())] == 0)=true↔d=[(1,())]:=by
  rw [beq_iff_eq,cmp_eq ok.2.1.1 can_one1]
  exact⟨fun e=>can_inj ok.2.1.1 can_one1 e,fun e=>by rw [e]⟩
 refine⟨nofun,_,rfl,fun h1=>?_,fun h1=>?_⟩
 ·refine(cS_IntStr (V:=kset V1 b4 _) trivial c0 c1 n f (h.le le4) ok.1).mono ?_
  rintro V5 _ ⟨le5,rfl⟩
  refine⟨nofun,_,rfl,le4.trans le5,?_⟩
  unfold ratT
  rw [if_pos (hd.1 h1)]; rfl
 ·have hd':¬ d=[(1,())]:=fun k=>by rw [hd.2 k] at h1; cases h1
  refine(cS_IntStr (V:=kset V1 b4 _) trivial c0 c1 n f (h.le le4) ok.1).mono ?_
  rintro V5 _ ⟨le5,rfl⟩
  have z1:=intT_size (neg:=c0) ok.1.1.1.1
  have z2:=natT_size ok.2.1.1.1
  have z3:=ok.2.2.2.1
  have z4:=ok.2.2.2.2.1
  refine⟨fun _=>le5,_,rfl,by show(intT c0 n).size+1≤_; omega,(cS_nat (V:=V5) trivial c2 d g (h'.le (le4.trans le5)) ok.2.1).mono ?_⟩
  rintro V6 _ ⟨le6,rfl⟩
  refine⟨fun _=>le6,_,rfl,?_,le4.trans (le5.trans le6),?_⟩
  ·rw [ByteArray.size_append]
   show(intT c0 n).size+1+(natT d).size≤_
   omega
  ·unfold ratT
   rw [if_neg hd']; rfl
theorem cI_RatText {V:Know} (hV:HtI V) (c0:Bool) (c1 c2:SlV) (n d:List Lim) (f g:List Nat) (h:LR rI V c1 n f) (h':LR rI V c2 d g) :
  CallX Tryz.prog V 103 [qv1 (c0,c1,c2,())] (TxPost V (okT (RatOkP c0 n d) (ratT c0 n d))):=by
 refine CallX.of_fits Tryz.mix (fI_RatText _) fun _=>?_
 simp only [tI_RatText,T.wp]
 refine(cI_RatOk V c0 c1 c2 n d f g h h').mono ?_
 rintro V1 r ⟨le1,e,rfl,he⟩
 refine⟨nofun,e,rfl,fun hf=>⟨le1,by rw [okT_neg (fun k=>by rw [he.2 k] at hf; cases hf)]; rfl⟩,fun ht=>?_⟩
 have ok:=he.1 (by simpa using ht)
 rw [okT_pos ok]
 refine(cI_isOne V1 c2 d g (h'.le le1)).mono ?_
 rintro _ _ ⟨rfl,e2,rfl,hd⟩
 refine⟨nofun,_,rfl,fun h1=>?_,fun h1=>?_⟩
 ·refine(cI_IntStr (hV.le le1) c0 c1 n f (h.le le1) ok.1).mono ?_
  rintro V5 _ ⟨le5,rfl⟩
  refine⟨nofun,_,rfl,le1.trans le5,?_⟩
  unfold ratT
  rw [if_pos (hd.1 h1)]; rfl
 ·have h1':e2=false:=h1
  have hd':¬ d=[(1,())]:=fun k=>by rw [hd.2 k] at h1'; cases h1'
  refine(cI_IntStr (hV.le le1) c0 c1 n f (h.le le1) ok.1).mono ?_
  rintro V5 _ ⟨le5,rfl⟩
  have z1:=intT_size (neg:=c0) ok.1.1.1.1
  have z2:=natT_size ok.2.1.1.1
  have z3:=ok.2.2.2.1
  have z4:=ok.2.2.2.2.1
  refine⟨fun _=>le5,_,rfl,by show(intT c0 n).size+1≤_; omega,(cI_NatText (hV.le (le1.trans le5)) c2 d g (h'.le (le1.trans le5)) ok.2.1).mono ?_⟩
  rintro V6 _ ⟨le6,rfl⟩
  refine⟨fun _=>le6,_,rfl,?_,le1.trans (le5.trans le6),?_⟩
  ·rw [ByteArray.size_append]
   show(intT c0 n).size+1+(natT d).size≤_
   omega
  ·unfold ratT
   rw [if_neg hd']; rfl
theorem cS_MoneyOkH {V:Know} (_:HtS V) (c0:ByteArray) (c1:Bool) (c2:SlV) (l:List Lim) (f:List Nat) (h:LR rI V c2 l f):CallX Tryz.prog V 193 [qv4 (c0,c1,c2,())] (fun V' r=>V.le V'∧∃ e,r=.bool e∧(e=true↔MoneyOkP c0 c1 l)):=cS_MoneyOk c0 c1 c2 l f h
theorem cI_MoneyOkH {V:Know} (hV:HtI V) (c0:ByteArray) (c1:Bool) (c2:SlV) (l:List Lim) (f:List Nat) (h:LR rI V c2 l f):CallX Tryz.prog V 144 [qv4 (c0,c1,c2,())] (fun V' r=>V.le V'∧∃ e,r=.bool e∧(e=true↔MoneyOkP c0 c1 l)):=cI_MoneyOk hV.1 c0 c1 c2 l f h
theorem cS_MoneyText {V:Know} (hV:HtS V) (c0:ByteArray) (c1:Bool) (c2:SlV) (l:List Lim) (f:List Nat) (h:LR rI V c2 l f) (hz:c0.size≤1048576) :
  CallX Tryz.prog V 128 [qv4 (c0,c1,c2,())] (TxPost V (okT (MoneyOkP c0 c1 l) (moneyT c0 c1 l))):=by
 refine CallX.of_fits Tryz.mix (fS_MoneyText _) fun _=>?_
 simp only [tS_MoneyText,T.wp]
 refine(cS_MoneyOkH hV c0 c1 c2 l f h).mono ?_
 rintro V1 r ⟨le1,e,rfl,he⟩
 refine⟨nofun,e,rfl,fun hf=>⟨le1,by rw [okT_neg (fun k=>by rw [he.2 k] at hf; cases hf)]; rfl⟩,fun ht=>?_⟩
 have ok:=he.1 (by simpa using ht)
 rw [okT_pos ok]
 refine⟨by show ByteArray.size c0+1≤_; omega,(cS_CurPlaces (hV.le le1) c0).mono ?_⟩
 rintro V2 _ ⟨le2,rfl⟩
 have l2:=le1.trans le2
 have hp:=places_bd c0
 refine⟨fun _=>le2,_,rfl,(cS_DecText (hV.le l2) c1 c2 (places c0) l f (h.le l2)).mono ?_⟩
 rintro V3 _ ⟨le3,rfl⟩
 have dok:DecOkP c1 l (places c0):=⟨ok.2.1,by have:=ok.2.2; omega,hp.1,by omega⟩
 rw [okT_pos dok]
 have hs:=decT_size (neg:=c1) (sc:=places c0) ok.2.1.1.1.1
 have h4:=ok.2.2
 refine⟨fun _=>le3,_,rfl,?_,l2.trans le3,rfl⟩
 rw [ByteArray.size_append]
 show ByteArray.size c0+1+(decT c1 l (places c0)).size≤_
 omega
theorem cS_RateText {V:Know} (hV:HtS V) (x:DRate) (s:SlV) (f:List Nat) (h:LR rI V s x.2.2.2.1 f) :
  CallX Tryz.prog V 127 [qv6 (x.1,x.2.1,x.2.2.1,s,x.2.2.2.2.1,())] (TxPost V (okT (RateOkP x) (rateT x))):=by
 refine CallX.of_fits Tryz.mix (fS_RateText _) fun _=>?_
 simp only [tS_RateText,T.wp]
 refine(cS_RateOk hV.c x s f h).mono ?_
 rintro V1 r ⟨le1,e,rfl,he⟩
 refine⟨nofun,e,rfl,fun hf=>⟨le1,by rw [okT_neg (fun k=>by rw [he.2 k] at hf; cases hf)]; rfl⟩,fun ht=>?_⟩
 have ok:=he.1 (by simpa using ht)
 rw [okT_pos ok]
 have k1:=known_size ok.1
 have k2:=known_size ok.2.1
 have hs:=decT_size (neg:=x.2.2.1) (sc:=x.2.2.2.2.1) ok.2.2.2.1.1.1.1.1
 have h4:=ok.2.2.2.1.2.1
 refine⟨by show ByteArray.size x.1+1≤_; omega,?_,?_,?_⟩
 ·rw [ByteArray.size_append]
  show ByteArray.size x.1+1+ByteArray.size x.2.1≤_
  omega
 ·rw [ByteArray.size_append,ByteArray.size_append]
  show ByteArray.size x.1+1+ByteArray.size x.2.1+1≤_
  omega
 refine(cS_DecText (hV.le le1) x.2.2.1 s x.2.2.2.2.1 x.2.2.2.1 f (h.le le1)).mono ?_
 rintro V3 _ ⟨le3,rfl⟩
 rw [okT_pos ok.2.2.2.1]
 refine⟨fun _=>le3,_,rfl,?_,le1.trans le3,rfl⟩
 rw [ByteArray.size_append,ByteArray.size_append,ByteArray.size_append]
 show ByteArray.size x.1+1+ByteArray.size x.2.1+1+(decT x.2.2.1 x.2.2.2.1 x.2.2.2.2.1).size≤_
 omega
theorem cI_MoneyText {V:Know} (hV:HtI V) (c0:ByteArray) (c1:Bool) (c2:SlV) (l:List Lim) (f:List Nat) (h:LR rI V c2 l f) (hz:c0.size≤1048576) :
  CallX Tryz.prog V 81 [qv4 (c0,c1,c2,())] (TxPost V (okT (MoneyOkP c0 c1 l) (moneyT c0 c1 l))):=by
 refine CallX.of_fits Tryz.mix (fI_MoneyText _) fun _=>?_
 simp only [tI_MoneyText,T.wp]
 refine(cI_MoneyOkH hV c0 c1 c2 l f h).mono ?_
 rintro V1 r ⟨le1,e,rfl,he⟩
 refine⟨nofun,e,rfl,fun hf=>⟨le1,by rw [okT_neg (fun k=>by rw [he.2 k] at hf; cases hf)]; rfl⟩,fun ht=>?_⟩
 have ok:=he.1 (by simpa using ht)
 rw [okT_pos ok]
 refine⟨by show ByteArray.size c0+1≤_; omega,(cI_CurPlaces (hV.le le1) c0).mono ?_⟩
 rintro V2 _ ⟨le2,rfl⟩
 have l2:=le1.trans le2
 have hp:=places_bd c0
 refine⟨fun _=>le2,_,rfl,(cI_DecText (hV.le l2) c1 c2 (places c0) l f (h.le l2)).mono ?_⟩
 rintro V3 _ ⟨le3,rfl⟩
 have dok:DecOkP c1 l (places c0):=⟨ok.2.1,by have:=ok.2.2; omega,hp.1,by omega⟩
 rw [okT_pos dok]
 have hs:=decT_size (neg:=c1) (sc:=places c0) ok.2.1.1.1.1
 have h4:=ok.2.2
 refine⟨fun _=>le3,_,rfl,?_,l2.trans le3,rfl⟩
 rw [ByteArray.size_append]
 show ByteArray.size c0+1+(decT c1 l (places c0)).size≤_
 omega
theorem cI_RateText {V:Know} (hV:HtI V) (x:DRate) (s:SlV) (f:List Nat) (h:LR rI V s x.2.2.2.1 f) :
  CallX Tryz.prog V 80 [qv6 (x.1,x.2.1,x.2.2.1,s,x.2.2.2.2.1,())] (TxPost V (okT (RateOkP x) (rateT x))):=by
 refine CallX.of_fits Tryz.mix (fI_RateText _) fun _=>?_
 simp only [tI_RateText,T.wp]
 refine(cI_RateOk hV.c x s f h).mono ?_
 rintro V1 r ⟨le1,e,rfl,he⟩
 refine⟨nofun,e,rfl,fun hf=>⟨le1,by rw [okT_neg (fun k=>by rw [he.2 k] at hf; cases hf)]; rfl⟩,fun ht=>?_⟩
 have ok:=he.1 (by simpa using ht)
 rw [okT_pos ok]
 have k1:=known_size ok.1
 have k2:=known_size ok.2.1
 have hs:=decT_size (neg:=x.2.2.1) (sc:=x.2.2.2.2.1) ok.2.2.2.1.1.1.1.1
 have h4:=ok.2.2.2.1.2.1
 refine⟨by show ByteArray.size x.1+1≤_; omega,?_,?_,?_⟩
 ·rw [ByteArray.size_append]
  show ByteArray.size x.1+1+ByteArray.size x.2.1≤_
  omega
 ·rw [ByteArray.size_append,ByteArray.size_append]
  show ByteArray.size x.1+1+ByteArray.size x.2.1+1≤_
  omega
 refine(cI_DecText (hV.le le1) x.2.2.1 s x.2.2.2.2.1 x.2.2.2.1 f (h.le le1)).mono ?_
 rintro V3 _ ⟨le3,rfl⟩
 rw [okT_pos ok.2.2.2.1]
 refine⟨fun _=>le3,_,rfl,?_,le1.trans le3,rfl⟩
 rw [ByteArray.size_append,ByteArray.size_append,ByteArray.size_append]
 show ByteArray.size x.1+1+ByteArray.size x.2.1+1+(decT x.2.2.1 x.2.2.2.1 x.2.2.2.2.1).size≤_
 omega
theorem cI_restText {V:Know} (hV:HtI V) (x:DRest) (s s':SlV) (g g':List Nat) (h:LR rI V s x.2.2.1 g) (h':LR rI V s' x.2.2.2.1 g') (hk:known x.1=true) (ok:RatOkP x.2.1 x.2.2.1 x.2.2.2.1) :
  CallX Tryz.prog V 47 [qv8 (x.1,x.2.1,s,s',())] (TxPost V ((x.1++(⟨#[32]⟩:ByteArray))++ratT x.2.1 x.2.2.1 x.2.2.2.1)):=by
 refine CallX.of_fits Tryz.mix (fI_restText _) fun _=>?_
 simp only [tI_restText,T.wp]
 have k1:=known_size hk
 have z:=ratT_size ok
 refine⟨by show ByteArray.size x.1+1≤_; omega,(cI_RatText hV x.2.1 s s' x.2.2.1 x.2.2.2.1 g g' h h').mono ?_⟩
 rintro V1 _ ⟨le1,rfl⟩
 rw [okT_pos ok]
 refine⟨fun _=>le1,_,rfl,?_,le1,rfl⟩
 rw [ByteArray.size_append]
 show ByteArray.size x.1+1+(ratT x.2.1 x.2.2.1 x.2.2.2.1).size≤_
 omega
theorem cS_LedgerText {V:Know} (hV:HtS V) (c:Scs [.l,.l,.s,.l]) (x:DLedger) (f:List Nat) (h:rLedger.R V c x f) (ht:rLedger.tot x≤1048576) :
  CallX Tryz.prog V 69 [qv3 c] (TxPost V (okT (LedgerOkP x) (ledgerT x))):=by
 refine CallX.of_fits Tryz.mix (fS_LedgerText _) fun _=>?_
 have hT:(tS_LedgerText c).wp Tryz.prog (fun V' vs=>V.le V'∧packed vs=.string (okT (LedgerOkP x) (ledgerT x))) V V []:=by
  obtain⟨c0,c1,c2,c3,cu⟩:=c
  obtain⟨x0,x1,x2,x3,xu⟩:=x
  have hx:=h
  obtain⟨f0,g0,rfl,h0,h⟩:=h
  obtain⟨f1,g1,rfl,h1,h⟩:=h
  obtain⟨⟨ec,zc⟩,h⟩:=h
  replace ec:c2=x2:=ec
  subst ec
  obtain⟨f3,g3,rfl,h3,h⟩:=h
  replace h0:LR rAcct V c0 x0 f0:=h0
  replace h1:LR rRest V c1 x1 f1:=h1
  replace h3:LR rRate V c3 x3 f3:=h3
  have e2:rLedger.tot (x0,x1,c2,x3,xu)=x0.length+totE rAcct x0+(x1.length+totE rRest x1+(c2.size+(x3.length+totE rRate x3+0))):=rfl
  unfold tS_LedgerText
  refine(cS_LedgerOk hV.c (c0,c1,c2,c3,cu) (x0,x1,c2,x3,xu) _ hx).mono ?_
  rintro V1 r ⟨le1,e,rfl,he⟩
  refine⟨nofun,e,rfl,fun hf=>⟨le1,by rw [okT_neg (fun k=>by rw [he.2 k] at hf; cases hf)]; rfl⟩,fun ht'=>?_⟩
  have ok:=he.1 (by simpa using ht')
  rw [okT_pos ok]
  have okB:BookOkP x0:=ok.1
  have okR:RestsOkP x1:=ok.2.1
  have okT':RatesOkP c2 x3:=ok.2.2
  have kp:=known_size okT'.1
  refine⟨by show 6+ByteArray.size c2≤_; omega,by rw [ByteArray.size_append]; show 6+ByteArray.size c2+1≤_; omega,?_⟩
  have hs0:((⟨#[112,105,118,111,116,32]⟩:ByteArray)++c2++(⟨#[10]⟩:ByteArray)).size=10:=by
   rw [ByteArray.size_append,ByteArray.size_append,kp]; rfl
  show T.wp _ _ (.lp _ [.v (.string ((⟨#[112,105,118,111,116,32]⟩:ByteArray)++c2++(⟨#[10]⟩:ByteArray))),_] _) _ _ _
  generalize hsd:((⟨#[112,105,118,111,116,32]⟩:ByteArray)++c2++(⟨#[10]⟩:ByteArray))=s0 at hs0 ⊢
  refine rows_lp rateRow x3 3000 h3.1 h3.2.2.1 (fun i hi=>by obtain⟨_,r1,_⟩:=okT'.2.2 i hi; exact rateRow_size r1) ?_ ?_
  ·intro N V2 i t hi hle hz1 hz2 hN
   have hn:=h3.1
   obtain⟨b,o,c,fc,a1,l1,hR,_⟩:=(h3.le (le1.trans hle)).at hi
   obtain⟨s,g,rfl,hs⟩:=rate_elim hR
   obtain⟨_,r1,_⟩:=okT'.2.2 i hi
   have rz:=rateT_size r1
   refine⟨_,a1,(by omega:(0:Int)≤(i:Int)),(by omega:(i:Int)<(c3.n:Int)),_,l1,?_⟩
   refine⟨by show ByteArray.size t+5≤_; omega,(cS_RateText (hV.le (le1.trans hle)) x3[i] s g hs).mono ?_⟩
   rintro V3 _ ⟨le3,rfl⟩
   rw [okT_pos r1]
   refine⟨nofun,_,rfl,?_,?_,_,rfl,?_⟩
   ·rw [ByteArray.size_append]
    show ByteArray.size t+5+(rateT x3[i]).size≤_
    omega
   ·rw [ByteArray.size_append,ByteArray.size_append]
    show ByteArray.size t+5+(rateT x3[i]).size+1≤_
    omega
   ·have hN3:=hN V3 le3
    have ei:IntKind.i64.wrap ((i:Int)+1)=((i+1:Nat):Int):=nxt hi (by omega)
    have et:t++rateRow x3[i]=t++(⟨#[114,97,116,101,32]⟩:ByteArray)++rateT x3[i]++(⟨#[10]⟩:ByteArray):=by simp only [rateRow,ByteArray.append_assoc]
    rw [et,← ei] at hN3
    exact hN3
  intro N0 V2 hle2 hz2
  have l2:=le1.trans hle2
  have hsd2:rowsT restRow x1 (rowsT acctRow x0 (rowsT rateRow x3 s0))=ledgerT (x0,x1,c2,x3,xu):=by rw [← hsd]; rfl
  generalize rowsT rateRow x3 s0=s1 at hz2 hsd2 ⊢
  refine rows_lp (Ns:=[]++[N0]) (s0:=s1) acctRow x0 3000 h0.1 h0.2.2.1 (fun i hi=>by obtain⟨_,w1,m1,_⟩:=okB.2 i hi; exact acctRow_size m1 w1) ?_ ?_
  ·intro N V3 i t hi hle hz3 hz4 hN
   have hn:=h0.1
   obtain⟨b,o,c,fc,a1,l1,hR,_⟩:=(h0.le (l2.trans hle)).at hi
   obtain⟨s,g,rfl,hs⟩:=acct_elim hR
   obtain⟨_,w1,m1,_⟩:=okB.2 i hi
   have mz:=moneyT_size m1
   have wz:=w1.2.1
   have kz:=known_size m1.1
   refine⟨_,a1,(by omega:(0:Int)≤(i:Int)),(by omega:(i:Int)<(c0.n:Int)),_,l1,?_⟩
   refine⟨by show ByteArray.size t+5≤_; omega,by rw [ByteArray.size_append]; show ByteArray.size t+5+ByteArray.size x0[i].1≤_; omega,by rw [ByteArray.size_append,ByteArray.size_append]; show ByteArray.size t+5+ByteArray.size x0[i].1+1≤_; omega,(cS_MoneyText (hV.le (l2.trans hle)) x0[i].2.1 x0[i].2.2.1 s x0[i].2.2.2.1 g hs (by omega)).mono ?_⟩
   rintro V4 _ ⟨le4,rfl⟩
   rw [okT_pos m1]
   refine⟨fun _=>le4,_,rfl,?_,?_,_,rfl,?_⟩
   ·rw [ByteArray.size_append,ByteArray.size_append,ByteArray.size_append]
    show ByteArray.size t+5+ByteArray.size x0[i].1+1+(moneyT x0[i].2.1 x0[i].2.2.1 x0[i].2.2.2.1).size≤_
    omega
   ·rw [ByteArray.size_append,ByteArray.size_append,ByteArray.size_append,ByteArray.size_append]
    show ByteArray.size t+5+ByteArray.size x0[i].1+1+(moneyT x0[i].2.1 x0[i].2.2.1 x0[i].2.2.2.1).size+1≤_
    omega
   ·have hN3:=hN V4 le4
    have ei:IntKind.i64.wrap ((i:Int)+1)=((i+1:Nat):Int):=nxt hi (by omega)
    have et:t++acctRow x0[i]=t++(⟨#[97,99,99,116,32]⟩:ByteArray)++x0[i].1++(⟨#[32]⟩:ByteArray)++moneyT x0[i].2.1 x0[i].2.2.1 x0[i].2.2.2.1++(⟨#[10]⟩:ByteArray):=by simp only [acctRow,ByteArray.append_assoc]
    rw [et,← ei] at hN3
    exact hN3
  intro N1 V3 hle3 hz3
  have l3:=l2.trans hle3
  generalize rowsT acctRow x0 s1=s2 at hz3 hsd2 ⊢
  refine rows_lp (Ns:=([]++[N0])++[N1]) (s0:=s2) restRow x1 3000 h1.1 h1.2.2.1 (fun i hi=>by obtain⟨_,w1,m1,_⟩:=okR i hi; exact restRow_size m1 w1) ?_ ?_
  ·intro N V4 i t hi hle hz4 hz5 hN
   have hn:=h1.1
   obtain⟨b,o,c,fc,a1,l1,hR,_⟩:=(h1.le (l3.trans hle)).at hi
   obtain⟨s,s',g,g',rfl,hs,hs'⟩:=rest_elim hR
   obtain⟨_,w1,m1,_⟩:=okR i hi
   have mz:=ratT_size m1
   have kz:=known_size w1
   refine⟨_,a1,(by omega:(0:Int)≤(i:Int)),(by omega:(i:Int)<(c1.n:Int)),_,l1,?_⟩
   refine⟨by show ByteArray.size t+5≤_; omega,by rw [ByteArray.size_append]; show ByteArray.size t+5+ByteArray.size x1[i].1≤_; omega,by rw [ByteArray.size_append,ByteArray.size_append]; show ByteArray.size t+5+ByteArray.size x1[i].1+1≤_; omega,(cS_RatText (hV.le (l3.trans hle)) x1[i].2.1 s s' x1[i].2.2.1 x1[i].2.2.2.1 g g' hs hs').mono ?_⟩
   rintro V5 _ ⟨le5,rfl⟩
   rw [okT_pos m1]
   refine⟨fun _=>le5,_,rfl,?_,?_,_,rfl,?_⟩
   ·rw [ByteArray.size_append,ByteArray.size_append,ByteArray.size_append]
    show ByteArray.size t+5+ByteArray.size x1[i].1+1+(ratT x1[i].2.1 x1[i].2.2.1 x1[i].2.2.2.1).size≤_
    omega
   ·rw [ByteArray.size_append,ByteArray.size_append,ByteArray.size_append,ByteArray.size_append]
    show ByteArray.size t+5+ByteArray.size x1[i].1+1+(ratT x1[i].2.1 x1[i].2.2.1 x1[i].2.2.2.1).size+1≤_
    omega
   ·have hN3:=hN V5 le5
    have ei:IntKind.i64.wrap ((i:Int)+1)=((i+1:Nat):Int):=nxt hi (by omega)
    have et:t++restRow x1[i]=t++(⟨#[114,101,115,116,32]⟩:ByteArray)++x1[i].1++(⟨#[32]⟩:ByteArray)++ratT x1[i].2.1 x1[i].2.2.1 x1[i].2.2.2.1++(⟨#[10]⟩:ByteArray):=by simp only [restRow,ByteArray.append_assoc]
    rw [et,← ei] at hN3
    exact hN3
  intro N2 V4 hle4 _
  exact⟨l3.trans hle4,by rw [← hsd2]; rfl⟩
 exact hT
theorem cI_LedgerText {V:Know} (hV:HtI V) (c:Scs [.l,.l,.s,.l]) (x:DLedger) (f:List Nat) (h:rLedger.R V c x f) (ht:rLedger.tot x≤1048576) :
  CallX Tryz.prog V 30 [qv3 c] (TxPost V (okT (LedgerOkP x) (ledgerT x))):=by
 refine CallX.of_fits Tryz.mix (fI_LedgerText _) fun _=>?_
 have hT:(tI_LedgerText c).wp Tryz.prog (fun V' vs=>V.le V'∧packed vs=.string (okT (LedgerOkP x) (ledgerT x))) V V []:=by
  obtain⟨c0,c1,c2,c3,cu⟩:=c
  obtain⟨x0,x1,x2,x3,xu⟩:=x
  have hx:=h
  obtain⟨f0,g0,rfl,h0,h⟩:=h
  obtain⟨f1,g1,rfl,h1,h⟩:=h
  obtain⟨⟨ec,zc⟩,h⟩:=h
  replace ec:c2=x2:=ec
  subst ec
  obtain⟨f3,g3,rfl,h3,h⟩:=h
  replace h0:LR rAcct V c0 x0 f0:=h0
  replace h1:LR rRest V c1 x1 f1:=h1
  replace h3:LR rRate V c3 x3 f3:=h3
  have e2:rLedger.tot (x0,x1,c2,x3,xu)=x0.length+totE rAcct x0+(x1.length+totE rRest x1+(c2.size+(x3.length+totE rRate x3+0))):=rfl
  unfold tI_LedgerText
  refine(cI_LedgerOk hV.c (c0,c1,c2,c3,cu) (x0,x1,c2,x3,xu) _ hx).mono ?_
  rintro V1 r ⟨le1,e,rfl,he⟩
  refine⟨nofun,e,rfl,fun hf=>⟨le1,by rw [okT_neg (fun k=>by rw [he.2 k] at hf; cases hf)]; rfl⟩,fun ht'=>?_⟩
  have ok:=he.1 (by simpa using ht')
  rw [okT_pos ok]
  have okB:BookOkP x0:=ok.1
  have okR:RestsOkP x1:=ok.2.1
  have okT':RatesOkP c2 x3:=ok.2.2
  have kp:=known_size okT'.1
  refine⟨by show 6+ByteArray.size c2≤_; omega,by rw [ByteArray.size_append]; show 6+ByteArray.size c2+1≤_; omega,?_⟩
  have hs0:((⟨#[112,105,118,111,116,32]⟩:ByteArray)++c2++(⟨#[10]⟩:ByteArray)).size=10:=by
   rw [ByteArray.size_append,ByteArray.size_append,kp]; rfl
  show T.wp _ _ (.lp _ [.v (.string ((⟨#[112,105,118,111,116,32]⟩:ByteArray)++c2++(⟨#[10]⟩:ByteArray))),_] _) _ _ _
  generalize hsd:((⟨#[112,105,118,111,116,32]⟩:ByteArray)++c2++(⟨#[10]⟩:ByteArray))=s0 at hs0 ⊢
  refine rows_lp rateRow x3 3000 h3.1 h3.2.2.1 (fun i hi=>by obtain⟨_,r1,_⟩:=okT'.2.2 i hi; exact rateRow_size r1) ?_ ?_
  ·intro N V2 i t hi hle hz1 hz2 hN
   have hn:=h3.1
   obtain⟨b,o,c,fc,a1,l1,hR,_⟩:=(h3.le (le1.trans hle)).at hi
   obtain⟨s,g,rfl,hs⟩:=rate_elim hR
   obtain⟨_,r1,_⟩:=okT'.2.2 i hi
   have rz:=rateT_size r1
   refine⟨_,a1,(by omega:(0:Int)≤(i:Int)),(by omega:(i:Int)<(c3.n:Int)),_,l1,?_⟩
   refine(cI_RateText (hV.le (le1.trans hle)) x3[i] s g hs).mono ?_
   rintro V3 _ ⟨le3,rfl⟩
   rw [okT_pos r1]
   refine⟨nofun,_,rfl,?_,?_,?_,_,rfl,?_⟩
   ·show 5+(rateT x3[i]).size≤_
    omega
   ·rw [ByteArray.size_append]
    show 5+(rateT x3[i]).size+1≤_
    omega
   ·rw [ByteArray.size_append,ByteArray.size_append]
    show ByteArray.size t+(5+(rateT x3[i]).size+1)≤_
    omega
   ·have hN3:=hN V3 le3
    have ei:IntKind.i64.wrap ((i:Int)+1)=((i+1:Nat):Int):=nxt hi (by omega)
    rw [← ei] at hN3
    exact hN3
  intro N0 V2 hle2 hz2
  have l2:=le1.trans hle2
  have hsd2:rowsT restRow x1 (rowsT acctRow x0 (rowsT rateRow x3 s0))=ledgerT (x0,x1,c2,x3,xu):=by rw [← hsd]; rfl
  generalize rowsT rateRow x3 s0=s1 at hz2 hsd2 ⊢
  refine rows_lp (Ns:=[]++[N0]) (s0:=s1) acctRow x0 3000 h0.1 h0.2.2.1 (fun i hi=>by obtain⟨_,w1,m1,_⟩:=okB.2 i hi; exact acctRow_size m1 w1) ?_ ?_
  ·intro N V3 i t hi hle hz3 hz4 hN
   have hn:=h0.1
   obtain⟨b,o,c,fc,a1,l1,hR,_⟩:=(h0.le (l2.trans hle)).at hi
   obtain⟨s,g,rfl,hs⟩:=acct_elim hR
   obtain⟨_,w1,m1,_⟩:=okB.2 i hi
   have mz:=moneyT_size m1
   have wz:=w1.2.1
   have kz:=known_size m1.1
   refine⟨_,a1,(by omega:(0:Int)≤(i:Int)),(by omega:(i:Int)<(c0.n:Int)),_,l1,?_⟩
   refine⟨by show 5+ByteArray.size x0[i].1≤_; omega,by rw [ByteArray.size_append]; show 5+ByteArray.size x0[i].1+1≤_; omega,(cI_MoneyText (hV.le (l2.trans hle)) x0[i].2.1 x0[i].2.2.1 s x0[i].2.2.2.1 g hs (by omega)).mono ?_⟩
   rintro V4 _ ⟨le4,rfl⟩
   rw [okT_pos m1]
   refine⟨fun _=>le4,_,rfl,?_,?_,?_,_,rfl,?_⟩
   ·rw [ByteArray.size_append,ByteArray.size_append]
    show 5+ByteArray.size x0[i].1+1+(moneyT x0[i].2.1 x0[i].2.2.1 x0[i].2.2.2.1).size≤_
    omega
   ·rw [ByteArray.size_append,ByteArray.size_append,ByteArray.size_append]
    show 5+ByteArray.size x0[i].1+1+(moneyT x0[i].2.1 x0[i].2.2.1 x0[i].2.2.2.1).size+1≤_
    omega
   ·rw [ByteArray.size_append,ByteArray.size_append,ByteArray.size_append,ByteArray.size_append]
    show ByteArray.size t+(5+ByteArray.size x0[i].1+1+(moneyT x0[i].2.1 x0[i].2.2.1 x0[i].2.2.2.1).size+1)≤_
    omega
   ·have hN3:=hN V4 le4
    have ei:IntKind.i64.wrap ((i:Int)+1)=((i+1:Nat):Int):=nxt hi (by omega)
    rw [← ei] at hN3
    exact hN3
  intro N1 V3 hle3 hz3
  have l3:=l2.trans hle3
  generalize rowsT acctRow x0 s1=s2 at hz3 hsd2 ⊢
  refine rows_lp (Ns:=([]++[N0])++[N1]) (s0:=s2) restRow x1 3000 h1.1 h1.2.2.1 (fun i hi=>by obtain⟨_,w1,m1,_⟩:=okR i hi; exact restRow_size m1 w1) ?_ ?_
  ·intro N V4 i t hi hle hz4 hz5 hN
   have hn:=h1.1
   obtain⟨b,o,c,fc,a1,l1,hR,_⟩:=(h1.le (l3.trans hle)).at hi
   obtain⟨s,s',g,g',rfl,hs,hs'⟩:=rest_elim hR
   obtain⟨_,w1,m1,_⟩:=okR i hi
   have mz:=ratT_size m1
   have kz:=known_size w1
   refine⟨_,a1,(by omega:(0:Int)≤(i:Int)),(by omega:(i:Int)<(c1.n:Int)),_,l1,?_⟩
   refine(cI_restText (hV.le (l3.trans hle)) x1[i] s s' g g' hs hs' w1 m1).mono ?_
   rintro V5 _ ⟨le5,rfl⟩
   refine⟨nofun,_,rfl,?_,?_,?_,_,rfl,?_⟩
   ·rw [ByteArray.size_append,ByteArray.size_append]
    show 5+(ByteArray.size x1[i].1+1+(ratT x1[i].2.1 x1[i].2.2.1 x1[i].2.2.2.1).size)≤_
    omega
   ·rw [ByteArray.size_append,ByteArray.size_append,ByteArray.size_append]
    show 5+(ByteArray.size x1[i].1+1+(ratT x1[i].2.1 x1[i].2.2.1 x1[i].2.2.2.1).size)+1≤_
    omega
   ·rw [ByteArray.size_append,ByteArray.size_append,ByteArray.size_append,ByteArray.size_append]
    show ByteArray.size t+(5+(ByteArray.size x1[i].1+1+(ratT x1[i].2.1 x1[i].2.2.1 x1[i].2.2.2.1).size)+1)≤_
    omega
   ·have hN3:=hN V5 le5
    have ei:IntKind.i64.wrap ((i:Int)+1)=((i+1:Nat):Int):=nxt hi (by omega)
    have et:t++restRow x1[i]=t++(((⟨#[114,101,115,116,32]⟩:ByteArray)++((x1[i].1++(⟨#[32]⟩:ByteArray))++ratT x1[i].2.1 x1[i].2.2.1 x1[i].2.2.2.1))++(⟨#[10]⟩:ByteArray)):=by simp only [restRow,ByteArray.append_assoc]
    rw [et,← ei] at hN3
    exact hN3
  intro N2 V4 hle4 _
  exact⟨l3.trans hle4,by rw [← hsd2]; rfl⟩
 exact hT
end Go.Proofs.YtagkjnpggkmehaaGreatDoor
