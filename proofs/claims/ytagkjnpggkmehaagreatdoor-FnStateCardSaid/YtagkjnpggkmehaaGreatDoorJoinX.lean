/-
  Texts joined, in the program and in the reference.
-/
import Derived.Test.YtagkjnpggkmehaaGreatDoorTxtC
import Derived.Test.YtagkjnpggkmehaaGreatDoorPut
import Derived.Test.YtagkjnpggkmehaaGreatDoorDcM
namespace Go.Proofs.YtagkjnpggkmehaaGreatDoor
open Sx Go.RowKit
set_option maxRecDepth 100000
def places (x:ByteArray):Int:=(curRowOf x).2.2.1
theorem places_bd (x:ByteArray):0≤places x∧places x≤4:=by
 unfold places curRowOf
 cases h:curFrom curI x 0 with
 | none=>exact⟨by decide,by decide⟩
 | some r =>
  have hm:r∈curI:=List.mem_of_find?_eq_some h
  have:∀ r∈curI,0≤r.2.2.1∧r.2.2.1≤4:=by decide +kernel
  exact this r hm
theorem known_size {x:ByteArray} (h:known x=true):x.size=3:=by
 unfold known at h
 cases h2:curFrom curI x 0 with
 | none=>rw [h2] at h; cases h
 | some r =>
  have hm:r∈curI:=List.mem_of_find?_eq_some h2
  have hx:(r.1.toList == x.toList)=true:=List.find?_some (p:=curHas x) h2
  have:∀ r∈curI,r.1.size=3:=by decide +kernel
  rw [← text_eq.1 hx]
  exact this r hm
theorem cI_CurPlaces {V:Know} (hV:HtI V) (x:ByteArray):CallX Tryz.prog V 145 [.string x] (fun V' r=>V.le V'∧r=.int .i64 (places x)):=by
 refine CallX.of_fits Tryz.mix (fI_CurPlaces _) fun _=>?_
 simp only [tI_CurPlaces,T.wp]
 refine(cI_currencyOf hV.1 x).mono ?_
 rintro V1 _ ⟨rfl,rfl⟩
 exact⟨nofun,(curRowOf x,known x,()),rfl,Know.le.refl _,rfl⟩
def ratT (neg:Bool) (n d:List Lim):ByteArray:=if d=[(1,())] then intT neg n else (intT neg n++(⟨#[47]⟩:ByteArray))++natT d
noncomputable def moneyT (cur:ByteArray) (neg:Bool) (l:List Lim):ByteArray:=(cur++(⟨#[32]⟩:ByteArray))++decT neg l (places cur)
def rateT (r:DRate):ByteArray:=(((r.1++(⟨#[32]⟩:ByteArray))++r.2.1)++(⟨#[32]⟩:ByteArray))++decT r.2.2.1 r.2.2.2.1 r.2.2.2.2.1
theorem ratT_size {neg:Bool} {n d:List Lim} (h:RatOkP neg n d):(ratT neg n d).size≤800:=by
 have h1:=intT_size (neg:=neg) h.1.1.1.1
 have h2:=natT_size h.2.1.1.1
 have l1:=h.2.2.2.1
 have l2:=h.2.2.2.2.1
 unfold ratT
 split
 ·omega
 ·rw [ByteArray.size_append,ByteArray.size_append]
  show _+1+_≤_
  omega
theorem moneyT_size {cur:ByteArray} {neg:Bool} {l:List Lim} (h:MoneyOkP cur neg l):(moneyT cur neg l).size≤2200:=by
 have h1:=decT_size (neg:=neg) (sc:=places cur) h.2.1.1.1.1
 have h2:=known_size h.1
 have l1:=h.2.2
 unfold moneyT
 rw [ByteArray.size_append,ByteArray.size_append]
 show _+1+_≤_
 omega
theorem rateT_size {r:DRate} (h:RateOkP r):(rateT r).size≤2200:=by
 have h1:=decT_size (neg:=r.2.2.1) (sc:=r.2.2.2.2.1) h.2.2.2.1.1.1.1.1
 have h2:=known_size h.1
 have h3:=known_size h.2.1
 have l1:=h.2.2.2.1.2.1
 unfold rateT
 rw [ByteArray.size_append,ByteArray.size_append,ByteArray.size_append,ByteArray.size_append]
 show _+1+_+1+_≤_
 omega
theorem cI_isOne (V:Know) (s:SlV) (l:List Lim) (f:List Nat) (h:LR rI V s l f):CallX Tryz.prog V 167 [Sc.val .l s] (fun V' r=>V'=V∧∃ e,r=.bool e∧(e=true↔l=[(1,())])):=by
 refine CallX.of_fits Tryz.mix (fI_isOne _) fun _=>?_
 simp only [tI_isOne,T.wp]
 have hn:=h.1
 refine⟨fun h1=>?_,fun h1=>⟨by trivial,false,rfl,⟨(fun e=>by cases e),fun e=>?_⟩⟩⟩
 ·have h1':(s.n:Int)=1:=by simpa using h1
  have hl:0<l.length:=by omega
  obtain⟨b,o,a1,l1⟩:=h.int hl
  refine⟨_,a1,by omega,by omega,_,l1,by trivial,_,rfl,?_⟩
  match l,hl with
  | [x],_ =>
   obtain⟨x,u⟩:=x
   show(x == 1)=true↔_
   simp
  | _ :: _ :: _,_=>simp at hn; omega
 ·rw [e] at hn
  have:(s.n:Int)=1:=by simp at hn; omega
  simp [this] at h1
noncomputable def rowsT {α:Type} (g:α→ByteArray) (l:List α) (s:ByteArray):ByteArray:=l.foldl (fun t x=>t++g x) s
theorem rowsT_snoc {α:Type} (g:α→ByteArray) (l:List α) (x:α) (s:ByteArray):rowsT g (l++[x]) s=rowsT g l s++g x:=by simp [rowsT]
theorem rows_lp {α:Type} {P:Program} {K:Know→List Value→Prop} {V V0:Know} {Ns:List (List LV→Know→Prop)} {n:Nat} {s0:ByteArray} (g:α→ByteArray) (l:List α) (B:Nat)
  {row cont:LShs [.o (.o .s),.o (.o (.i .i64))]→T} (hn:n=l.length) (h63:n≤9223372036854775807)
  (hB:∀ i (h:i<l.length),(g l[i]).size≤B)
  (hrow:∀ (N:List LV→Know→Prop) (V1:Know) (i:Nat) (t:ByteArray) (hi:i<l.length),V.le V1→t.size≤s0.size+B*l.length→t.size+B≤s0.size+B*l.length →
   (∀ V2,V1.le V2→N [.v (.string (t++g l[i])),.v (.int .i64 ((i+1:Nat):Int))] V2)→(row (t,(i:Int),())).wp P K V1 V1 (Ns++[N]))
  (hcont:∀ (N:List LV→Know→Prop) (V1:Know),V.le V1→(rowsT g l s0).size≤s0.size+B*l.length→(cont (rowsT g l s0,(n:Int),())).wp P K V1 V1 (Ns++[N])) :
  (T.lp [.o (.o .s),.o (.o (.i .i64))] [.v (.string s0),.v (.int .i64 (0:Int))] fun y=>.br (decide (y.2.fst<(n:Int))) (row y) (cont y)).wp P K V V0 Ns:=by
 subst hn
 refine⟨fun y V'=>V.le V'∧∃ i:Nat,(y.2.1:Int)=(i:Int)∧i≤l.length∧y.1=rowsT g (l.take i) s0∧ByteArray.size y.1≤s0.size+B*i,fun y _=>((l.length:Int)-(y.2.1:Int)).toNat,
  ⟨(s0,(0:Int),()),rfl,Know.le.refl _,0,rfl,Nat.zero_le _,rfl,by simp⟩,?_⟩
 rintro⟨t,(q:Int),u⟩ V' ⟨hle,i,hq,hil,ht,hsz⟩
 replace hq:q=(i:Int):=hq
 replace ht:t=rowsT g (l.take i) s0:=ht
 replace hsz:ByteArray.size t≤s0.size+B*i:=hsz
 subst hq
 refine⟨fun hlt=>?_,fun hge=>?_⟩
 ·have hi:i<l.length:=by
   have:(i:Int)<(l.length:Int):=of_decide_eq_true hlt
   omega
  have hm:B*(i+1)≤B*l.length:=Nat.mul_le_mul_left _ hi
  rw [Nat.mul_add,Nat.mul_one] at hm
  refine hrow _ V' i t hi hle (by omega) (by omega) fun V2 hle2=>?_
  refine⟨(t++g l[i],((i+1:Nat):Int),()),rfl,⟨hle.trans hle2,i+1,rfl,hi,?_,?_⟩,?_⟩
  ·show t++g l[i]=_
   rw [ht,List.take_succ_eq_append_getElem hi,rowsT_snoc]
  ·show(t++g l[i]).size≤_
   rw [ByteArray.size_append,Nat.mul_add,Nat.mul_one]
   have:=hB i hi
   omega
  ·show((l.length:Int)-((i+1:Nat):Int)).toNat<((l.length:Int)-(i:Int)).toNat
   omega
 ·have hi:i=l.length:=by
   have:¬ (i:Int)<(l.length:Int):=of_decide_eq_false hge
   omega
  subst hi
  rw [List.take_length] at ht
  subst ht
  exact hcont _ V' hle hsz
noncomputable def rateRow (r:DRate):ByteArray:=((⟨#[114,97,116,101,32]⟩:ByteArray)++rateT r)++(⟨#[10]⟩:ByteArray)
noncomputable def acctRow (a:DAcct):ByteArray:=(((⟨#[97,99,99,116,32]⟩:ByteArray)++a.1++(⟨#[32]⟩:ByteArray))++moneyT a.2.1 a.2.2.1 a.2.2.2.1)++(⟨#[10]⟩:ByteArray)
noncomputable def restRow (x:DRest):ByteArray:=(((⟨#[114,101,115,116,32]⟩:ByteArray)++x.1++(⟨#[32]⟩:ByteArray))++ratT x.2.1 x.2.2.1 x.2.2.2.1)++(⟨#[10]⟩:ByteArray)
noncomputable def ledgerT (x:DLedger):ByteArray:=rowsT restRow x.2.1 (rowsT acctRow x.1 (rowsT rateRow x.2.2.2.1 (((⟨#[112,105,118,111,116,32]⟩:ByteArray)++x.2.2.1)++(⟨#[10]⟩:ByteArray))))
theorem rateRow_size {r:DRate} (h:RateOkP r):(rateRow r).size≤3000:=by
 have:=rateT_size h
 unfold rateRow
 rw [ByteArray.size_append,ByteArray.size_append]
 show 5+_+1≤_
 omega
theorem acctRow_size {a:DAcct} (h:MoneyOkP a.2.1 a.2.2.1 a.2.2.2.1) (hw:WordP a.1):(acctRow a).size≤3000:=by
 have:=moneyT_size h
 have:=hw.2.1
 unfold acctRow
 rw [ByteArray.size_append,ByteArray.size_append,ByteArray.size_append,ByteArray.size_append]
 show 5+_+1+_+1≤_
 omega
theorem restRow_size {x:DRest} (h:RatOkP x.2.1 x.2.2.1 x.2.2.2.1) (hk:known x.1=true):(restRow x).size≤3000:=by
 have:=ratT_size h
 have:=known_size hk
 unfold restRow
 rw [ByteArray.size_append,ByteArray.size_append,ByteArray.size_append,ByteArray.size_append]
 show 5+_+1+_+1≤_
 omega
theorem cI_RatText {V:Know} (hV:HtI V) (c0:Bool) (c1 c2:SlV) (n d:List Lim) (f g:List Nat) (h:LR rI V c1 n f) (h':LR rI V c2 d g) :
  CallX Tryz.prog V 103 [qv1 (c0,c1,c2,())] (TxPost V (okT (RatOkP c0 n d) (ratT c0 n d))):=by
 refine CallX.of_fits Tryz.mix (fI_RatText _) fun _=>?_
 simp only [tI_RatText,T.wp]
 refine(cI_RatOk V c0 c1 c2 n d f g h h').mono ?_
 rintro V1 r ⟨le1,e,rfl,he⟩
 refine⟨nofun,e,rfl,fun hf=>⟨le1,by rw [okT_neg (fun k=>by rw [he.2 k] at hf; cases hf)]; rfl⟩,fun ht=>?_⟩
 have ok:=he.1 (by simpa using ht)
 rw [okT_pos ok]
 refine(cI_isOne V1 c2 d g (h'.le le1)).mono ?_
 rintro _ _ ⟨rfl,e2,rfl,hd⟩
 refine⟨nofun,_,rfl,fun h1=>?_,fun h1=>?_⟩
 ·refine(cI_IntStr (hV.le le1) c0 c1 n f (h.le le1) ok.1).mono ?_
  rintro V5 _ ⟨le5,rfl⟩
  refine⟨nofun,_,rfl,le1.trans le5,?_⟩
  unfold ratT
  rw [if_pos (hd.1 h1)]; rfl
 ·have h1':e2=false:=h1
  have hd':¬ d=[(1,())]:=fun k=>by rw [hd.2 k] at h1'; cases h1'
  refine(cI_IntStr (hV.le le1) c0 c1 n f (h.le le1) ok.1).mono ?_
  rintro V5 _ ⟨le5,rfl⟩
  have z1:=intT_size (neg:=c0) ok.1.1.1.1
  have z2:=natT_size ok.2.1.1.1
  have z3:=ok.2.2.2.1
  have z4:=ok.2.2.2.2.1
  refine⟨fun _=>le5,_,rfl,by show(intT c0 n).size+1≤_; omega,(cI_NatText (hV.le (le1.trans le5)) c2 d g (h'.le (le1.trans le5)) ok.2.1).mono ?_⟩
  rintro V6 _ ⟨le6,rfl⟩
  refine⟨fun _=>le6,_,rfl,?_,le1.trans (le5.trans le6),?_⟩
  ·rw [ByteArray.size_append]
   show(intT c0 n).size+1+(natT d).size≤_
   omega
  ·unfold ratT
   rw [if_neg hd']; rfl
theorem cI_MoneyOkH {V:Know} (hV:HtI V) (c0:ByteArray) (c1:Bool) (c2:SlV) (l:List Lim) (f:List Nat) (h:LR rI V c2 l f):CallX Tryz.prog V 144 [qv3 (c0,c1,c2,())] (fun V' r=>V.le V'∧∃ e,r=.bool e∧(e=true↔MoneyOkP c0 c1 l)):=cI_MoneyOk hV.1 c0 c1 c2 l f h
theorem cI_MoneyText {V:Know} (hV:HtI V) (c0:ByteArray) (c1:Bool) (c2:SlV) (l:List Lim) (f:List Nat) (h:LR rI V c2 l f) (hz:c0.size≤1048576) :
  CallX Tryz.prog V 81 [qv3 (c0,c1,c2,())] (TxPost V (okT (MoneyOkP c0 c1 l) (moneyT c0 c1 l))):=by
 refine CallX.of_fits Tryz.mix (fI_MoneyText _) fun _=>?_
 simp only [tI_MoneyText,T.wp]
 refine(cI_MoneyOkH hV c0 c1 c2 l f h).mono ?_
 rintro V1 r ⟨le1,e,rfl,he⟩
 refine⟨nofun,e,rfl,fun hf=>⟨le1,by rw [okT_neg (fun k=>by rw [he.2 k] at hf; cases hf)]; rfl⟩,fun ht=>?_⟩
 have ok:=he.1 (by simpa using ht)
 rw [okT_pos ok]
 refine⟨by show ByteArray.size c0+1≤_; omega,(cI_CurPlaces (hV.le le1) c0).mono ?_⟩
 rintro V2 _ ⟨le2,rfl⟩
 have l2:=le1.trans le2
 have hp:=places_bd c0
 refine⟨fun _=>le2,_,rfl,(cI_DecText (hV.le l2) c1 c2 (places c0) l f (h.le l2)).mono ?_⟩
 rintro V3 _ ⟨le3,rfl⟩
 have dok:DecOkP c1 l (places c0):=⟨ok.2.1,by have:=ok.2.2; omega,hp.1,by omega⟩
 rw [okT_pos dok]
 have hs:=decT_size (neg:=c1) (sc:=places c0) ok.2.1.1.1.1
 have h4:=ok.2.2
 refine⟨fun _=>le3,_,rfl,?_,l2.trans le3,rfl⟩
 rw [ByteArray.size_append]
 show ByteArray.size c0+1+(decT c1 l (places c0)).size≤_
 omega
theorem cI_RateText {V:Know} (hV:HtI V) (x:DRate) (s:SlV) (f:List Nat) (h:LR rI V s x.2.2.2.1 f) :
  CallX Tryz.prog V 80 [qv5 (x.1,x.2.1,x.2.2.1,s,x.2.2.2.2.1,())] (TxPost V (okT (RateOkP x) (rateT x))):=by
 refine CallX.of_fits Tryz.mix (fI_RateText _) fun _=>?_
 simp only [tI_RateText,T.wp]
 refine(cI_RateOk hV.c x s f h).mono ?_
 rintro V1 r ⟨le1,e,rfl,he⟩
 refine⟨nofun,e,rfl,fun hf=>⟨le1,by rw [okT_neg (fun k=>by rw [he.2 k] at hf; cases hf)]; rfl⟩,fun ht=>?_⟩
 have ok:=he.1 (by simpa using ht)
 rw [okT_pos ok]
 have k1:=known_size ok.1
 have k2:=known_size ok.2.1
 have hs:=decT_size (neg:=x.2.2.1) (sc:=x.2.2.2.2.1) ok.2.2.2.1.1.1.1.1
 have h4:=ok.2.2.2.1.2.1
 refine⟨by show ByteArray.size x.1+1≤_; omega,?_,?_,?_⟩
 ·rw [ByteArray.size_append]
  show ByteArray.size x.1+1+ByteArray.size x.2.1≤_
  omega
 ·rw [ByteArray.size_append,ByteArray.size_append]
  show ByteArray.size x.1+1+ByteArray.size x.2.1+1≤_
  omega
 refine(cI_DecText (hV.le le1) x.2.2.1 s x.2.2.2.2.1 x.2.2.2.1 f (h.le le1)).mono ?_
 rintro V3 _ ⟨le3,rfl⟩
 rw [okT_pos ok.2.2.2.1]
 refine⟨fun _=>le3,_,rfl,?_,le1.trans le3,rfl⟩
 rw [ByteArray.size_append,ByteArray.size_append,ByteArray.size_append]
 show ByteArray.size x.1+1+ByteArray.size x.2.1+1+(decT x.2.2.1 x.2.2.2.1 x.2.2.2.2.1).size≤_
 omega
theorem cI_restText {V:Know} (hV:HtI V) (x:DRest) (s s':SlV) (g g':List Nat) (h:LR rI V s x.2.2.1 g) (h':LR rI V s' x.2.2.2.1 g') (hk:known x.1=true) (ok:RatOkP x.2.1 x.2.2.1 x.2.2.2.1) :
  CallX Tryz.prog V 47 [qv8 (x.1,x.2.1,s,s',())] (TxPost V ((x.1++(⟨#[32]⟩:ByteArray))++ratT x.2.1 x.2.2.1 x.2.2.2.1)):=by
 refine CallX.of_fits Tryz.mix (fI_restText _) fun _=>?_
 simp only [tI_restText,T.wp]
 have k1:=known_size hk
 have z:=ratT_size ok
 refine⟨by show ByteArray.size x.1+1≤_; omega,(cI_RatText hV x.2.1 s s' x.2.2.1 x.2.2.2.1 g g' h h').mono ?_⟩
 rintro V1 _ ⟨le1,rfl⟩
 rw [okT_pos ok]
 refine⟨fun _=>le1,_,rfl,?_,le1,rfl⟩
 rw [ByteArray.size_append]
 show ByteArray.size x.1+1+(ratT x.2.1 x.2.2.1 x.2.2.2.1).size≤_
 omega
theorem cI_LedgerText {V:Know} (hV:HtI V) (c:Scs [.l,.l,.s,.l]) (x:DLedger) (f:List Nat) (h:rLedger.R V c x f) (ht:rLedger.tot x≤1048576) :
  CallX Tryz.prog V 30 [qv7 c] (TxPost V (okT (LedgerOkP x) (ledgerT x))):=by
 refine CallX.of_fits Tryz.mix (fI_LedgerText _) fun _=>?_
 have hT:(tI_LedgerText c).wp Tryz.prog (fun V' vs=>V.le V'∧packed vs=.string (okT (LedgerOkP x) (ledgerT x))) V V []:=by
  obtain⟨c0,c1,c2,c3,cu⟩:=c
  obtain⟨x0,x1,x2,x3,xu⟩:=x
  have hx:=h
  obtain⟨f0,g0,rfl,h0,h⟩:=h
  obtain⟨f1,g1,rfl,h1,h⟩:=h
  obtain⟨⟨ec,zc⟩,h⟩:=h
  replace ec:c2=x2:=ec
  subst ec
  obtain⟨f3,g3,rfl,h3,h⟩:=h
  replace h0:LR rAcct V c0 x0 f0:=h0
  replace h1:LR rRest V c1 x1 f1:=h1
  replace h3:LR rRate V c3 x3 f3:=h3
  have e2:rLedger.tot (x0,x1,c2,x3,xu)=x0.length+totE rAcct x0+(x1.length+totE rRest x1+(c2.size+(x3.length+totE rRate x3+0))):=rfl
  unfold tI_LedgerText
  refine(cI_LedgerOk hV.c (c0,c1,c2,c3,cu) (x0,x1,c2,x3,xu) _ hx).mono ?_
  rintro V1 r ⟨le1,e,rfl,he⟩
  refine⟨nofun,e,rfl,fun hf=>⟨le1,by rw [okT_neg (fun k=>by rw [he.2 k] at hf; cases hf)]; rfl⟩,fun ht'=>?_⟩
  have ok:=he.1 (by simpa using ht')
  rw [okT_pos ok]
  have okB:BookOkP x0:=ok.1
  have okR:RestsOkP x1:=ok.2.1
  have okT':RatesOkP c2 x3:=ok.2.2
  have kp:=known_size okT'.1
  refine⟨by show 6+ByteArray.size c2≤_; omega,by rw [ByteArray.size_append]; show 6+ByteArray.size c2+1≤_; omega,?_⟩
  have hs0:((⟨#[112,105,118,111,116,32]⟩:ByteArray)++c2++(⟨#[10]⟩:ByteArray)).size=10:=by
   rw [ByteArray.size_append,ByteArray.size_append,kp]; rfl
  show T.wp _ _ (.lp _ [.v (.string ((⟨#[112,105,118,111,116,32]⟩:ByteArray)++c2++(⟨#[10]⟩:ByteArray))),_] _) _ _ _
  generalize hsd:((⟨#[112,105,118,111,116,32]⟩:ByteArray)++c2++(⟨#[10]⟩:ByteArray))=s0 at hs0 ⊢
  refine rows_lp rateRow x3 3000 h3.1 h3.2.2.1 (fun i hi=>by obtain⟨_,r1,_⟩:=okT'.2.2 i hi; exact rateRow_size r1) ?_ ?_
  ·intro N V2 i t hi hle hz1 hz2 hN
   have hn:=h3.1
   obtain⟨b,o,c,fc,a1,l1,hR,_⟩:=(h3.le (le1.trans hle)).at hi
   obtain⟨s,g,rfl,hs⟩:=rate_elim hR
   obtain⟨_,r1,_⟩:=okT'.2.2 i hi
   have rz:=rateT_size r1
   refine⟨_,a1,(by omega:(0:Int)≤(i:Int)),(by omega:(i:Int)<(c3.n:Int)),_,l1,?_⟩
   refine(cI_RateText (hV.le (le1.trans hle)) x3[i] s g hs).mono ?_
   rintro V3 _ ⟨le3,rfl⟩
   rw [okT_pos r1]
   refine⟨nofun,_,rfl,?_,?_,?_,_,rfl,?_⟩
   ·show 5+(rateT x3[i]).size≤_
    omega
   ·rw [ByteArray.size_append]
    show 5+(rateT x3[i]).size+1≤_
    omega
   ·rw [ByteArray.size_append,ByteArray.size_append]
    show ByteArray.size t+(5+(rateT x3[i]).size+1)≤_
    omega
   ·have hN3:=hN V3 le3
    have ei:IntKind.i64.wrap ((i:Int)+1)=((i+1:Nat):Int):=nxt hi (by omega)
    rw [← ei] at hN3
    exact hN3
  intro N0 V2 hle2 hz2
  have l2:=le1.trans hle2
  have hsd2:rowsT restRow x1 (rowsT acctRow x0 (rowsT rateRow x3 s0))=ledgerT (x0,x1,c2,x3,xu):=by rw [← hsd]; rfl
  generalize rowsT rateRow x3 s0=s1 at hz2 hsd2 ⊢
  refine rows_lp (Ns:=[]++[N0]) (s0:=s1) acctRow x0 3000 h0.1 h0.2.2.1 (fun i hi=>by obtain⟨_,w1,m1,_⟩:=okB.2 i hi; exact acctRow_size m1 w1) ?_ ?_
  ·intro N V3 i t hi hle hz3 hz4 hN
   have hn:=h0.1
   obtain⟨b,o,c,fc,a1,l1,hR,_⟩:=(h0.le (l2.trans hle)).at hi
   obtain⟨s,g,rfl,hs⟩:=acct_elim hR
   obtain⟨_,w1,m1,_⟩:=okB.2 i hi
   have mz:=moneyT_size m1
   have wz:=w1.2.1
   have kz:=known_size m1.1
   refine⟨_,a1,(by omega:(0:Int)≤(i:Int)),(by omega:(i:Int)<(c0.n:Int)),_,l1,?_⟩
   refine⟨by show 5+ByteArray.size x0[i].1≤_; omega,by rw [ByteArray.size_append]; show 5+ByteArray.size x0[i].1+1≤_; omega,(cI_MoneyText (hV.le (l2.trans hle)) x0[i].2.1 x0[i].2.2.1 s x0[i].2.2.2.1 g hs (by omega)).mono ?_⟩
   rintro V4 _ ⟨le4,rfl⟩
   rw [okT_pos m1]
   refine⟨fun _=>le4,_,rfl,?_,?_,?_,_,rfl,?_⟩
   ·rw [ByteArray.size_append,ByteArray.size_append]
    show 5+ByteArray.size x0[i].1+1+(moneyT x0[i].2.1 x0[i].2.2.1 x0[i].2.2.2.1).size≤_
    omega
   ·rw [ByteArray.size_append,ByteArray.size_append,ByteArray.size_append]
    show 5+ByteArray.size x0[i].1+1+(moneyT x0[i].2.1 x0[i].2.2.1 x0[i].2.2.2.1).size+1≤_
    omega
   ·rw [ByteArray.size_append,ByteArray.size_append,ByteArray.size_append,ByteArray.size_append]
    show ByteArray.size t+(5+ByteArray.size x0[i].1+1+(moneyT x0[i].2.1 x0[i].2.2.1 x0[i].2.2.2.1).size+1)≤_
    omega
   ·have hN3:=hN V4 le4
    have ei:IntKind.i64.wrap ((i:Int)+1)=((i+1:Nat):Int):=nxt hi (by omega)
    rw [← ei] at hN3
    exact hN3
  intro N1 V3 hle3 hz3
  have l3:=l2.trans hle3
  generalize rowsT acctRow x0 s1=s2 at hz3 hsd2 ⊢
  refine rows_lp (Ns:=([]++[N0])++[N1]) (s0:=s2) restRow x1 3000 h1.1 h1.2.2.1 (fun i hi=>by obtain⟨_,w1,m1,_⟩:=okR i hi; exact restRow_size m1 w1) ?_ ?_
  ·intro N V4 i t hi hle hz4 hz5 hN
   have hn:=h1.1
   obtain⟨b,o,c,fc,a1,l1,hR,_⟩:=(h1.le (l3.trans hle)).at hi
   obtain⟨s,s',g,g',rfl,hs,hs'⟩:=rest_elim hR
   obtain⟨_,w1,m1,_⟩:=okR i hi
   have mz:=ratT_size m1
   have kz:=known_size w1
   refine⟨_,a1,(by omega:(0:Int)≤(i:Int)),(by omega:(i:Int)<(c1.n:Int)),_,l1,?_⟩
   refine(cI_restText (hV.le (l3.trans hle)) x1[i] s s' g g' hs hs' w1 m1).mono ?_
   rintro V5 _ ⟨le5,rfl⟩
   refine⟨nofun,_,rfl,?_,?_,?_,_,rfl,?_⟩
   ·rw [ByteArray.size_append,ByteArray.size_append]
    show 5+(ByteArray.size x1[i].1+1+(ratT x1[i].2.1 x1[i].2.2.1 x1[i].2.2.2.1).size)≤_
    omega
   ·rw [ByteArray.size_append,ByteArray.size_append,ByteArray.size_append]
    show 5+(ByteArray.size x1[i].1+1+(ratT x1[i].2.1 x1[i].2.2.1 x1[i].2.2.2.1).size)+1≤_
    omega
   ·rw [ByteArray.size_append,ByteArray.size_append,ByteArray.size_append,ByteArray.size_append]
    show ByteArray.size t+(5+(ByteArray.size x1[i].1+1+(ratT x1[i].2.1 x1[i].2.2.1 x1[i].2.2.2.1).size)+1)≤_
    omega
   ·have hN3:=hN V5 le5
    have ei:IntKind.i64.wrap ((i:Int)+1)=((i+1:Nat):Int):=nxt hi (by omega)
    have et:t++restRow x1[i]=t++(((⟨#[114,101,115,116,32]⟩:ByteArray)++((x1[i].1++(⟨#[32]⟩:ByteArray))++ratT x1[i].2.1 x1[i].2.2.1 x1[i].2.2.2.1))++(⟨#[10]⟩:ByteArray)):=by simp only [restRow,ByteArray.append_assoc]
    rw [et,← ei] at hN3
    exact hN3
  intro N2 V4 hle4 _
  exact⟨l3.trans hle4,by rw [← hsd2]; rfl⟩
 exact hT
end Go.Proofs.YtagkjnpggkmehaaGreatDoor
namespace Go.Proofs.YtagkjnpggkmehaaGreatDoor
open Sx Go.RowKit
set_option maxRecDepth 100000
theorem rdNat_get {s:ByteArray} {o q:List Lim} {ok:Bool} (h:RdNat s o ok) (hq:NatOkP q) (e:natT q=s):ok=true∧o=q:=by
 rcases h with ⟨h1,h2,h3⟩ | ⟨_,_,h⟩
 ·exact⟨h1,natT_inj h2.1 hq.1 (h3.trans e.symm)⟩
 ·exact absurd ⟨q,hq,e⟩ h
theorem rdInt_get {s:ByteArray} {c d:Bool} {o q:List Lim} {ok:Bool} (h:RdInt s c o ok) (hq:IntOkP d q) (e:intT d q=s):ok=true∧c=d∧o=q:=by
 rcases h with ⟨h1,h2,h3⟩ | ⟨_,_,_,h⟩
 ·exact⟨h1,intT_inj h2.1.1 hq.1.1 (h3.trans e.symm)⟩
 ·exact absurd ⟨d,q,hq,e⟩ h
abbrev RatX (x:DRat):Prop:=RatOkP x.1 x.2.1 x.2.2.1
abbrev ratX (x:DRat):ByteArray:=ratT x.1 x.2.1 x.2.2.1
abbrev noR:DRat:=(false,[],[],())
abbrev one1:List Lim:=[((1:Int),())]
theorem no47 {e:Bool} {o:List Lim} (h:Can o):(47:UInt8) ∉ bl (intT e o):=fun k=>by
 rcases intT_bytes h 47 k with k | k
 ·exact absurd k (by decide)
 ·exact absurd k (by decide)
theorem no47n {o:List Lim} (h:Can o):(47:UInt8) ∉ bl (natT o):=fun k=>absurd (natT_dg h 47 k) (by decide)
theorem rat_cut {x:DRat} (h:RatX x) {s:ByteArray} (e:ratX x=s):(x.2.2.1=one1∧cutB 47 s=[(intT x.1 x.2.1,())])∨(x.2.2.1≠one1∧cutB 47 s=[(intT x.1 x.2.1,()),(natT x.2.2.1,())]):=by
 subst e
 by_cases k:x.2.2.1=one1
 ·refine .inl ⟨k,cutB_eq ?_ (by simp) fun y hy=>?_⟩
  ·show bl (ratT x.1 x.2.1 x.2.2.1)=bl (intT x.1 x.2.1)
   unfold ratT
   rw [if_pos k]
  ·obtain rfl:y=(intT x.1 x.2.1,()):=by simpa using hy
   exact no47 h.1.1.1
 ·refine .inr ⟨k,cutB_eq ?_ (by simp) fun y hy=>?_⟩
  ·show bl (ratT x.1 x.2.1 x.2.2.1)=bl (intT x.1 x.2.1)++47 :: bl (natT x.2.2.1)
   unfold ratT
   rw [if_neg k,bl_append,bl_append]
   show(bl (intT x.1 x.2.1)++[47])++bl (natT x.2.2.1)=_
   simp
  ·rcases List.mem_cons.1 hy with rfl | hy
   ·exact no47 h.1.1.1
   ·obtain rfl:y=(natT x.2.2.1,()):=by simpa using hy
    exact no47n h.2.1.1
theorem rat_one {s p:ByteArray} (h:cutB 47 s=[(p,())]):s=p:=by
 have:=cutB_join 47 s
 rw [h] at this
 exact bl_inj this
theorem rat_two {s p q:ByteArray} (h:cutB 47 s=[(p,()),(q,())]):s=p++(⟨#[47]⟩:ByteArray)++q:=by
 have:=cutB_join 47 s
 rw [h] at this
 refine bl_inj (this.trans ?_)
 rw [bl_append,bl_append]
 show bl p++47 :: bl q=(bl p++[47])++bl q
 simp
theorem ratX_inj {x y:DRat} (h:RatX x) (k:RatX y) (e:ratX x=ratX y):x=y:=by
 obtain⟨x0,x1,x2,xu⟩:=x
 obtain⟨y0,y1,y2,yu⟩:=y
 have fin:intT x0 x1=intT y0 y1→x2=y2→(x0,x1,x2,xu)=(y0,y1,y2,yu):=fun a b=>by
  obtain⟨rfl,rfl⟩:=intT_inj h.1.1.1 k.1.1.1 a
  subst b; rfl
 rcases rat_cut h rfl with ⟨a1,a2⟩ | ⟨a1,a2⟩
 ·rcases rat_cut k e.symm with ⟨b1,b2⟩ | ⟨b1,b2⟩
  ·rw [a2] at b2
   simp only [List.cons.injEq,Prod.mk.injEq,and_true] at b2
   exact fin b2 (a1.trans b1.symm)
  ·rw [a2] at b2; simp at b2
 ·rcases rat_cut k e.symm with ⟨b1,b2⟩ | ⟨b1,b2⟩
  ·rw [a2] at b2; simp at b2
  ·rw [a2] at b2
   simp only [List.cons.injEq,Prod.mk.injEq,and_true] at b2
   exact fin b2.1 (natT_inj h.2.1.1 k.2.1.1 b2.2)
def RdRat (s:ByteArray) (x:DRat) (ok:Bool):Prop:=(ok=true∧RatX x∧ratX x=s)∨(ok=false∧x=noR∧¬ ∃ y,RatX y∧ratX y=s)
abbrev RatRd (V:Know) (s:ByteArray):Know→Value→Prop:=fun V' r=>V.le V'∧∃ c x f ok,r=.tuple #[qv1 c,.bool ok]∧rRat.R V' c x f∧Own V V' f∧RdRat s x ok
theorem rat_mkR {V:Know} {c0:Bool} {s1 s2:SlV} {n d:List Lim} {f g:List Nat} (h:LR rI V s1 n f) (k:LR rI V s2 d g):rRat.R V (c0,s1,s2,()) (c0,n,d,()) (f++(g++[])):=⟨rfl,f,g++[],rfl,h,g,[],rfl,k,rfl⟩
theorem noR_R {V:Know}:rRat.R V (false,⟨none,0,0⟩,⟨none,0,0⟩,()) noR []:=rat_mkR (f:=[]) (g:=[]) lr_none lr_none
theorem rat_no {V V':Know} {s:ByteArray} (le:V.le V') (h:¬ ∃ y,RatX y∧ratX y=s):RatRd V s V' (packed [qv1 (false,⟨none,0,0⟩,⟨none,0,0⟩,()),.bool false]) :=
 ⟨le,_,noR,[],false,rfl,noR_R,Own.nil,.inr ⟨rfl,rfl,h⟩⟩
theorem LR.at0t {V:Know} {t:SlV} {l:List Tx} {f:List Nat} (h:LR rString V t l f) {p:Tx} {r:List Tx} (e:l=p :: r):∃ b o,t.a=some ⟨b,o,none⟩∧loadV V ((⟨b,o,none⟩:Addr).add (Int.toNat 0*1)) 1=some [.string p.1]:=by
 subst e
 obtain⟨⟨b,o,a1,l1⟩,_⟩:=h.txt (i:=0) (by simp)
 exact⟨b,o,a1,l1⟩
theorem LR.at1t {V:Know} {t:SlV} {l:List Tx} {f:List Nat} (h:LR rString V t l f) {p q:Tx} {r:List Tx} (e:l=p :: q :: r):∃ b o,t.a=some ⟨b,o,none⟩∧loadV V ((⟨b,o,none⟩:Addr).add (Int.toNat 1*1)) 1=some [.string q.1]:=by
 subst e
 obtain⟨⟨b,o,a1,l1⟩,_⟩:=h.txt (i:=1) (by simp)
 exact⟨b,o,a1,l1⟩
theorem one_R {V:Know} {b c:Nat} {sp:List Value} (hc:1≤c):LR rI (kset V b ([Value.int .i64 1]++sp,(3,(0,0)))) ⟨some ⟨b,0,none⟩,1,c⟩ one1 [b] :=
 lr_cells (l:=one1) kset_same hc (by decide)
theorem cut_cases (c:UInt8) (s:ByteArray):(∃ p,cutB c s=[p])∨(∃ p q,cutB c s=[p,q])∨∃ p q r l,cutB c s=p :: q :: r :: l:=by
 have:=cutB_pos c s
 match h:cutB c s with
 | []=>rw [h] at this; simp at this
 | [p]=>exact .inl ⟨p,rfl⟩
 | [p,q]=>exact .inr (.inl ⟨p,q,rfl⟩)
 | p :: q :: r :: l=>exact .inr (.inr ⟨p,q,r,l,rfl⟩)
theorem cI_TextRat (V:Know) (s:ByteArray) (hs:s.size≤1048576):CallX Tryz.prog V 95 [.string s] (RatRd V s):=by
 refine CallX.of_fits Tryz.mix (fI_TextRat _) fun _=>?_
 simp only [tI_TextRat,T.wp]
 refine(cI_CutAt V s 47 hs).mono ?_
 rintro V1 _ ⟨le1,t,f1,rfl,L1,_⟩
 have hz:∀ y∈cutB 47 s,y.1.size≤9223372036854775807:=fun y hy=>by have:=cutB_size hy; omega
 refine⟨nofun,t,rfl,fun b2 c2 sp hb2 hc2 _=>?_⟩
 have le2:=kset_le (x:=([Value.int .i64 1]++sp,((3:TypeId),((0,0):Nat × Nat)))) hb2
 have M1:=one_R (V:=V1) (b:=b2) (sp:=sp) hc2
 have own1:Own V1 (kset V1 b2 ([Value.int .i64 1]++sp,(3,(0,0)))) [b2]:=own_one hb2 kset_same
 revert le2 M1 own1
 generalize kset V1 b2 ([Value.int .i64 1]++sp,(3,(0,0)))=V2
 intro le2 M1 own1
 have l2:=le1.trans le2
 have L2:=L1.le le2
 have hn:=L2.1
 obtain⟨p,r,hpr⟩:∃ p r,cutB 47 s=p :: r:=by
  rcases cut_cases 47 s with ⟨p,h⟩ | ⟨p,q,h⟩ | ⟨p,q,r,l,h⟩ <;> exact⟨_,_,h⟩
 have hlen:t.n=r.length+1:=by rw [hn,hpr]; rfl
 obtain⟨b,o,a1,ld1⟩:=L2.at0t hpr
 refine⟨_,a1,by omega,by omega,p.1,ld1,(cI_StrInt V2 p.1 (hz p (by rw [hpr]; simp))).mono ?_⟩
 rintro V3 _ ⟨le3,e,tn,n,fn,ok,rfl,L3,O3,k3⟩
 have l3:=l2.trans le3
 have first:∀ {y:DRat},RatX y→ratX y=s→ok=true∧e=y.1∧n=y.2.1:=fun {y} hy e=>by
  refine rdInt_get k3 hy.1 ?_
  rcases rat_cut hy e with ⟨_,h⟩ | ⟨_,h⟩
  ·rw [hpr] at h
   simp only [List.cons.injEq] at h
   rw [h.1]
  ·rw [hpr] at h
   simp only [List.cons.injEq] at h
   rw [h.1]
 refine⟨nofun,((e,tn,()),ok,()),rfl,fun hf=>rat_no l3 fun⟨y,h1,h2⟩=>?_,fun ht=>⟨fun h2=>rat_no l3 fun⟨y,h1,h3⟩=>?_,fun h2=>⟨fun heq=>?_,fun hne=>?_⟩⟩⟩
 ·obtain⟨h3,_⟩:=first h1 h2
  rw [h3] at hf; cases hf
 ·have h2':(t.n:Int) > 2:=of_decide_eq_true h2
  rcases rat_cut h1 h3 with ⟨_,h⟩ | ⟨_,h⟩
  ·rw [hpr] at h
   have:=congrArg List.length h
   simp only [List.length_cons,List.length_nil] at this
   omega
  ·rw [hpr] at h
   have:=congrArg List.length h
   simp only [List.length_cons,List.length_nil] at this
   omega
 all_goals
  have okt:ok=true:=by simpa using ht
  subst okt
  have kI:IntOkP e n∧intT e n=p.1:=by
   rcases k3 with ⟨_,a,b⟩ | ⟨a,_⟩
   ·exact⟨a,b⟩
   ·cases a
 ·have heq':(t.n:Int)=2:=by simpa using heq
  obtain⟨q,rfl⟩:=List.length_eq_one_iff.1 (show r.length=1 by omega)
  have hlen:t.n=2:=hlen
  obtain⟨b',o',a1',ld1'⟩:=(L2.le le3).at1t hpr
  refine⟨_,a1',by omega,by omega,q.1,ld1',(cI_TextNat V3 q.1 (hz q (by rw [hpr]; simp))).mono ?_⟩
  rintro V4 _ ⟨le4,td,d,fd,ok2,rfl,L4,O4,k4⟩
  have l4:=l3.trans le4
  have second:∀ {y:DRat},RatX y→ratX y=s→y.2.2.1≠one1∧ok2=true∧d=y.2.2.1:=fun {y} hy e=>by
   rcases rat_cut hy e with ⟨_,h⟩ | ⟨h0,h⟩
   ·rw [hpr] at h; simp at h
   ·rw [hpr] at h
    simp only [List.cons.injEq,and_true] at h
    exact⟨h0,rdNat_get k4 hy.2.1 (by rw [h.2])⟩
  refine⟨nofun,(td,ok2,()),rfl,fun hf=>rat_no l4 fun⟨y,h1,h2⟩=>?_,fun ht2=>(cI_isOne V4 td d fd L4).mono ?_⟩
  ·obtain⟨_,h3,_⟩:=second h1 h2
   rw [h3] at hf; cases hf
  rintro V5 _ ⟨rfl,e5,rfl,he5⟩
  have okt2:ok2=true:=by simpa using ht2
  subst okt2
  have kN:NatOkP d∧natT d=q.1:=by
   rcases k4 with ⟨_,a,b⟩ | ⟨a,_⟩
   ·exact⟨a,b⟩
   ·cases a
  refine⟨nofun,e5,rfl,fun h1=>rat_no l4 fun⟨y,g1,g2⟩=>?_,fun h1=>(cI_RatOk V5 e tn td n d fn fd (L3.le le4) L4).mono ?_⟩
  ·obtain⟨h3,_,h4⟩:=second g1 g2
   exact h3 (h4.symm.trans (he5.1 h1))
  rintro V6 _ ⟨le6,e6,rfl,he6⟩
  have l6:=l4.trans le6
  refine⟨nofun,e6,rfl,fun hf=>rat_no l6 fun⟨y,g1,g2⟩=>?_,fun ht6=>?_⟩
  ·obtain⟨_,h4,h5⟩:=first g1 g2
   obtain⟨_,_,h6⟩:=second g1 g2
   subst h4 h5 h6
   rw [he6.2 g1] at hf; cases hf
  ·have okr:=he6.1 (by simpa using ht6)
   have hd1:d≠one1:=fun k=>by rw [he5.2 k] at h1; cases h1
   refine⟨l6,(e,tn,td,()),(e,n,d,()),fn++(fd++[]),true,rfl,rat_mkR ((L3.le le4).le le6) (L4.le le6),?_,.inl ⟨rfl,okr,?_⟩⟩
   ·rw [List.append_nil]
    exact((O3.pre l2).append O4 l3 le4).post le6
   ·show ratT e n d=s
    unfold ratT
    rw [if_neg hd1,kI.2,kN.2]
    exact(rat_two hpr).symm
 ·have hne':¬ (t.n:Int)=2:=by simpa using hne
  have h2':¬ (t.n:Int) > 2:=of_decide_eq_false h2
  have hr:r=[]:=List.eq_nil_of_length_eq_zero (by omega)
  subst hr
  refine(cI_RatOk V3 e tn ⟨some ⟨b2,0,none⟩,1,c2⟩ n one1 fn [b2] L3 (M1.le le3)).mono ?_
  rintro V6 _ ⟨le6,e6,rfl,he6⟩
  have l6:=l3.trans le6
  refine⟨nofun,e6,rfl,fun hf=>rat_no l6 fun⟨y,g1,g2⟩=>?_,fun ht6=>?_⟩
  ·obtain⟨_,h4,h5⟩:=first g1 g2
   rcases rat_cut g1 g2 with ⟨h6,_⟩ | ⟨_,h⟩
   ·have:RatOkP e n one1:=by rw [h4,h5,← h6]; exact g1
    rw [he6.2 this] at hf; cases hf
   ·rw [hpr] at h; simp at h
  ·have okr:=he6.1 (by simpa using ht6)
   refine⟨l6,(e,tn,⟨some ⟨b2,0,none⟩,1,c2⟩,()),(e,n,one1,()),fn++([b2]++[]),true,rfl,rat_mkR (L3.le le6) ((M1.le le3).le le6),?_,.inl ⟨rfl,okr,?_⟩⟩
   ·rw [List.append_nil]
    exact Own.perm (((own1.pre le1).append O3 l2 le3).post le6) List.perm_append_comm
   ·show ratT e n one1=s
    unfold ratT
    rw [if_pos rfl,kI.2]
    exact(rat_one hpr).symm
end Go.Proofs.YtagkjnpggkmehaaGreatDoor
namespace Go.Proofs.YtagkjnpggkmehaaGreatDoor
open Sx Go.RowKit
set_option maxRecDepth 100000
def cellT (x:Tx):Value:=.string x.1
theorem els_txt {V:Know}:∀ o:List Tx,(∀ x∈o,x.1.size≤9223372036854775807)→Els rString V o o []
 | [],_=>rfl
 | x :: o,h=>⟨[],[],rfl,⟨⟨rfl,h x (by simp)⟩,rfl⟩,els_txt o fun y hy=>h y (by simp [hy])⟩
theorem els_txt_eq {V:Know}:∀ {cs l:List Tx} {f:List Nat},Els rString V cs l f→cs=l∧f=[]
 | [],[],_,h=>⟨rfl,h⟩
 | (c,()) :: cs,(x,()) :: l,_,⟨f,g,rfl,h1,h2⟩=>by
  obtain⟨rfl,rfl⟩:=els_txt_eq h2
  have e1:c=x:=h1.1.1
  have e2:f=[]:=h1.2
  subst e1; subst e2
  exact⟨rfl,rfl⟩
theorem flat_txt:∀ o:List Tx,o.flatMap (Scs.vals [.s])=o.map cellT
 | []=>rfl
 | x :: o=>by rw [List.flatMap_cons,flat_txt o]; rfl
theorem txt_obj {pre post:List Value} {cs:List Tx} {t:KTy} {x:Tx} (hx:x∈cs):objOf (pre++(cs.map cellT++post)) t=.cells (pre++(cs.map cellT++post)).toArray t.1 t.2:=by
 unfold objOf
 split
 ·rename_i es he
  exfalso
  have hm:cellT x∈pre++(cs.map cellT++post):=List.mem_append.2 (.inr (List.mem_append.2 (.inl (List.mem_map_of_mem hx))))
  rw [he] at hm
  simp [cellT] at hm
 ·rfl
theorem cI_SJoin (V:Know) (s:SlV) (l:List Tx) (f:List Nat) (b:ByteArray) (h:LR rString V s l f) (hs:sumT l+l.length*b.size≤1099511627776) (hl:l.length≤1099511627776) :
  CallX Tryz.prog V 104 [Sc.val .l s,.string b] (fun V' r=>V'=V∧r=.string (joinT l b)):=by
 have he:Sx.Enters Tryz.prog 104:=⟨_,Tryz.func104,by kernel_rfl,by kernel_rfl⟩
 obtain⟨hn,hc,h63,⟨h0,_,_⟩ | ⟨bk,pre,post,t,fps,cs,ha,hV,hE,_⟩⟩:=h
 ·have:l=[]:=List.eq_nil_of_length_eq_zero (by omega)
  subst this
  refine CallX.of_calls he fun w _=>?_
  have k:=Tryz.strings_Join_none s.a s.c b w
  have e:([Sc.val .l s,.string b]:List Value).toArray=#[.slice s.a 0 s.c,.string b]:=by
   show #[Value.slice s.a s.n s.c,_]=_
   rw [h0]
  rw [e]
  refine k.mono ?_
  rintro e w' ⟨rfl,rfl⟩
  exact⟨rfl,Below.refl _ _⟩
 ·obtain⟨rfl,_⟩:=els_txt_eq hE
  rw [flat_txt] at hV
  by_cases hemp:cs=[]
  ·subst hemp
   refine CallX.of_calls he fun w _=>?_
   have k:=Tryz.strings_Join_none s.a s.c b w
   have h0:s.n=0:=hn
   have e:([Sc.val .l s,.string b]:List Value).toArray=#[.slice s.a 0 s.c,.string b]:=by
    show #[Value.slice s.a s.n s.c,_]=_
    rw [h0]
   rw [e]
   refine k.mono ?_
   rintro e w' ⟨rfl,rfl⟩
   exact⟨rfl,Below.refl _ _⟩
  refine CallX.of_calls he fun w hw=>?_
  have hw':=hw _ _ _ hV
  obtain⟨x0,hx0⟩:∃ x,x∈cs:=List.exists_mem_of_ne_nil cs hemp
  rw [txt_obj hx0] at hw'
  have hlt:bk<w.heap.size:=(Array.getElem?_eq_some_iff.1 hw').1
  have hj:=joinT_size cs b
  have hlen:(Go.Lib.join ((cs.map (·.1)).map (·.data.toList)) b.data.toList).length≤140737488355328:=by
   have e:(joinT cs b).size=(Go.Lib.join ((cs.map (·.1)).map (·.data.toList)) b.data.toList).length:=by
    show(Go.Lib.join (bytesL cs) b.data.toList).toArray.size=_
    rw [List.map_map]
    simp [bytesL]
    rfl
   rw [← e]
   omega
  have k:=Tryz.strings_Join bk pre.length s.c (cs.map (·.1)) b w (fun j x hx=>?_) hlt (by rw [List.length_map]; omega) (by rw [List.length_map]; omega) hlen
  ·have e:([Sc.val .l s,.string b]:List Value).toArray=#[.slice (some ⟨bk,pre.length,none⟩) (cs.map (·.1)).length s.c,.string b]:=by
    show #[Value.slice s.a s.n s.c,_]=_
    rw [ha,hn,List.length_map]
   rw [e]
   refine k.mono ?_
   rintro e w' ⟨rfl,hb⟩
   refine⟨?_,hb⟩
   have:joinT cs b=⟨(Go.Lib.join ((cs.map (·.1)).map (·.data.toList)) b.data.toList).toArray⟩:=by
    unfold joinT bytesL
    rw [List.map_map]
    rfl
   rw [this]
  ·unfold World.cell?
   rw [hw']
   have hjl:j<cs.length:=by
    by_cases q:j<cs.length
    ·exact q
    ·rw [List.getElem?_eq_none (by rw [List.length_map]; omega)] at hx; cases hx
   have hx':cs[j].1=x:=by
    rw [List.getElem?_map,List.getElem?_eq_getElem hjl] at hx
    simpa using hx
   have q:(pre++(cs.map cellT++post))[pre.length+j]?=some (.string x):=by
    rw [List.getElem?_append_right (by omega),Nat.add_sub_cancel_left,List.getElem?_append_left (by rw [List.length_map]; exact hjl),List.getElem?_map,List.getElem?_eq_getElem hjl]
    show some (Value.string cs[j].1)=_
    rw [hx']
   simpa using q
theorem cI_Join (V:Know) (s:SlV) (l:List Tx) (f:List Nat) (b:ByteArray) (h:LR rString V s l f) (hs:sumT l+l.length*b.size≤1099511627776) (hl:l.length≤1099511627776) :
  CallX Tryz.prog V 48 [Sc.val .l s,.string b] (fun V' r=>V'=V∧r=.string (joinT l b)):=by
 refine CallX.of_fits Tryz.mix (fI_Join _ _) fun _=>?_
 simp only [tI_Join,T.wp]
 refine(cI_SJoin V s l f b h hs hl).mono ?_
 rintro V1 r ⟨rfl,rfl⟩
 exact⟨nofun,_,rfl,by trivial,rfl⟩
end Go.Proofs.YtagkjnpggkmehaaGreatDoor
