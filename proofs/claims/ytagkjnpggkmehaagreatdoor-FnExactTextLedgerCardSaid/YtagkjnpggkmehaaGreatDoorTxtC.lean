/-
  Numbers, amounts, rates and remainders as texts, in the program and in the reference.
-/
import Derived.Test.YtagkjnpggkmehaaGreatDoorBytes
import Derived.Test.YtagkjnpggkmehaaGreatDoorLoopT
import Derived.Test.YtagkjnpggkmehaaGreatDoorLib
import Derived.Test.YtagkjnpggkmehaaGreatDoorRdD
import Derived.Lib.AppendIntMem
namespace Go.Proofs.YtagkjnpggkmehaaGreatDoor
open Sx Go.RowKit
set_option maxRecDepth 100000
noncomputable def okT (p:Prop) (t:ByteArray):ByteArray:=by classical exact if p then t else ⟨#[]⟩
theorem okT_pos {p:Prop} {t:ByteArray} (h:p):okT p t=t:=by unfold okT; rw [if_pos h]
theorem okT_neg {p:Prop} {t:ByteArray} (h:¬ p):okT p t=⟨#[]⟩:=by unfold okT; rw [if_neg h]
abbrev TxPost (V:Know) (t:ByteArray):Know→Value→Prop:=fun V' r=>V.le V'∧r=.string t
def hasTab (V:Know):Prop:=∃ t,V 4=some (Go.Lib.pow10Tab.map fun z=>Value.int .u64 z,t)
def HtS (_:Know):Prop:=True
def HtI (V:Know):Prop:=hasCur V∧hasTab V
theorem HtS.le {V V':Know} (h:HtS V) (_:V.le V'):HtS V':=h
theorem HtI.le {V V':Know} (h:HtI V) (hle:V.le V'):HtI V':=⟨h.1.le hle,let ⟨t,ht⟩:=h.2; ⟨t,hle _ _ ht⟩⟩
theorem HtS.c {V:Know} (_:HtS V):HcS V:=trivial
theorem HtI.c {V:Know} (h:HtI V):HcI V:=h.1
theorem by_digit {k:Int} (h0:0≤k) (h9:k≤9):bytesD [.int .u8 (IntKind.u8.wrap (IntKind.i64.wrap (48+k)))]=dig k.toNat:=by
 rw [wrap_i64 (by omega)]
 have e:IntKind.u8.wrap (48+k)=48+k:=by
  show(48+k) % 2 ^ 8=48+k
  exact Int.emod_eq_of_lt (by omega) (by omega)
 rw [e]
 have e2:(48+k).toNat=48+k.toNat:=by omega
 show(⟨#[UInt8.ofNat (48+k).toNat]⟩:ByteArray)=_
 rw [e2]; rfl
theorem cS_IntText (V:Know) (k:Int) (h0:0≤k) (h1:k≤9223372036854775807):CallX Tryz.prog V 212 [.int .i64 k] (TxPost V (numT k)):=by
 refine CallX.of_fits Tryz.mix (fS_IntText _) fun _=>?_
 simp only [tS_IntText,T.wp]
 have hnn:¬ k<0:=by omega
 refine⟨fun h=>absurd (of_decide_eq_true h) hnn,fun _=>?_⟩
 have hk:=numT_len k (by omega) h1
 refine⟨fun y V'=>V.le V'∧0≤(y.1:Int)∧(y.1:Int)≤k∧numT (y.1:Int)++y.2.1=numT k,fun y _=>(y.1:Int).toNat,⟨(k,⟨#[]⟩,()),rfl,Know.le.refl _,h0,Int.le_refl _,ByteArray.append_empty⟩,?_⟩
 rintro⟨(j:Int),out,u⟩ V' ⟨hle,hj,hjk,hd⟩
 replace hj:0≤j:=hj
 replace hjk:j≤k:=hjk
 replace hd:numT j++out=numT k:=hd
 have hsz:(numT j).size+ByteArray.size out≤21:=by
  have:=congrArg ByteArray.size hd
  rw [ByteArray.size_append] at this
  omega
 refine⟨fun hp=>?_,fun hz=>?_⟩
 ·have hp':j > 9:=of_decide_eq_true hp
  have et:Int.tmod j 10=j % 10:=Int.tmod_eq_emod_of_nonneg (by omega)
  have eq:Int.tdiv j 10=j / 10:=Int.tdiv_eq_ediv_of_nonneg (by omega)
  rw [et,eq]
  refine⟨by decide,fun b cap spare hb hc _=>?_⟩
  have hV:=kset_le (x:=([Value.int .u8 (IntKind.u8.wrap (IntKind.i64.wrap (48+j % 10)))]++spare,((5:TypeId),((0,0):Nat × Nat)))) hb
  have ed:=by_digit (k:=j % 10) (by omega) (by omega)
  have en:=numT_big hp'
  refine⟨[.int .u8 (IntKind.u8.wrap (IntKind.i64.wrap (48+j % 10)))],.inr ⟨_,rfl,?_⟩,rfl,by simp [bytesOf,bytesGo],?_,by decide,_,rfl,(j / 10,dig (j % 10).toNat++out,()),?_,⟨hle.trans hV,?_,?_,?_⟩,?_⟩
  ·simp only [loadV,kset_same]
   exact cutv_head (x:=[Value.int .u8 (IntKind.u8.wrap (IntKind.i64.wrap (48+j % 10)))])
  ·rw [ed,dig_size]
   show 1+ByteArray.size out≤_
   omega
  ·rw [ed,wrap_i64 (by omega)]; rfl
  ·show(0:Int)≤j / 10
   omega
  ·show j / 10≤k
   omega
  ·show numT (j / 10)++(dig (j % 10).toNat++out)=numT k
   rw [← ByteArray.append_assoc,← en,hd]
  ·show(j / 10).toNat<j.toNat
   omega
 ·have hz':¬ j > 9:=of_decide_eq_false hz
  intro b cap spare hb hc _
  have hV:=kset_le (x:=([Value.int .u8 (IntKind.u8.wrap (IntKind.i64.wrap (48+j)))]++spare,((5:TypeId),((0,0):Nat × Nat)))) hb
  have ed:=by_digit (k:=j) (by omega) (by omega)
  have en:=numT_small hj (by omega)
  refine⟨[.int .u8 (IntKind.u8.wrap (IntKind.i64.wrap (48+j)))],.inr ⟨_,rfl,?_⟩,rfl,by simp [bytesOf,bytesGo],?_,hle.trans hV,?_⟩
  ·simp only [loadV,kset_same]
   exact cutv_head (x:=[Value.int .u8 (IntKind.u8.wrap (IntKind.i64.wrap (48+j)))])
  ·rw [ed,dig_size]
   show 1+ByteArray.size out≤_
   omega
  ·rw [ed,← en,hd]; rfl
theorem cI_Itoa {V:Know} (hV:HtI V) (k:Int) (h0:-9223372036854775808≤k) (h1:k≤9223372036854775807):CallX Tryz.prog V 281 [.int .i64 k] (fun V' r=>V'=V∧r=.string (numT k)):=by
 obtain⟨t,ht⟩:=hV.2
 refine CallX.of_calls ⟨_,Tryz.func281,by kernel_rfl,by kernel_rfl⟩ fun w hw=>?_
 refine(Tryz.strconv_Itoa k h0 h1 w (tab_of (by kernel_rfl) ht hw)).mono ?_
 rintro e w' ⟨rfl,n,os,rfl⟩
 exact⟨rfl,Go.Lib.below_grow _ _ (Nat.le_refl _) _ _⟩
theorem cI_IntText {V:Know} (hV:HtI V) (k:Int) (h0:-9223372036854775808≤k) (h1:k≤9223372036854775807):CallX Tryz.prog V 250 [.int .i64 k] (TxPost V (numT k)):=by
 refine CallX.of_fits Tryz.mix (fI_IntText _) fun _=>?_
 simp only [tI_IntText,T.wp]
 refine(cI_Itoa hV k h0 h1).mono ?_
 rintro V1 _ ⟨rfl,rfl⟩
 exact⟨nofun,_,rfl,Know.le.refl _,rfl⟩
theorem cS_Pad (V:Know) (s:ByteArray) (n:Int):CallX Tryz.prog V 213 [.string s,.int .i64 n] (TxPost V (padB s n)):=by
 refine CallX.of_fits Tryz.mix (fS_Pad _ _) fun _=>?_
 simp only [tS_Pad,T.wp]
 refine⟨fun h=>⟨Know.le.refl _,?_⟩,fun h=>?_⟩
 ·have h':n > 2000:=of_decide_eq_true h
  unfold padB
  rw [if_pos h']; rfl
 ·have h':¬ n > 2000:=of_decide_eq_false h
  refine⟨fun y V'=>V'=V∧padB y.1 n=padB s n,fun y _=>(n-(ByteArray.size y.1:Int)).toNat,⟨(s,()),rfl,rfl,rfl⟩,?_⟩
  rintro⟨t,u⟩ V' ⟨rfl,ht⟩
  replace ht:padB t n=padB s n:=ht
  refine⟨fun hp=>?_,fun hz=>⟨Know.le.refl _,?_⟩⟩
  ·have hp':(ByteArray.size t:Int)<n:=of_decide_eq_true hp
   refine⟨?_,_,rfl,((⟨#[48]⟩:ByteArray)++t,()),rfl,⟨rfl,?_⟩,?_⟩
   ·show 1+ByteArray.size t≤_
    omega
   ·show padB ((⟨#[48]⟩:ByteArray)++t) n=padB s n
    rw [← padB_step h' hp',ht]
   ·show(n-(((⟨#[48]⟩:ByteArray)++t).size:Int)).toNat<(n-(ByteArray.size t:Int)).toNat
    rw [ByteArray.size_append,show(⟨#[48]⟩:ByteArray).size=1 from rfl]
    omega
  ·have hz':¬ (ByteArray.size t:Int)<n:=of_decide_eq_false hz
   rw [← ht,padB_long (by omega)]; rfl
theorem cI_Pad (V:Know) (s:ByteArray) (n:Int):CallX Tryz.prog V 209 [.string s,.int .i64 n] (TxPost V (padB s n)):=by
 refine CallX.of_fits Tryz.mix (fI_Pad _ _) fun _=>?_
 simp only [tI_Pad,T.wp]
 refine⟨fun h=>⟨Know.le.refl _,?_⟩,fun h=>⟨fun h2=>⟨Know.le.refl _,?_⟩,fun h2=>?_⟩⟩
 ·have h':(s.size:Int)≥n:=of_decide_eq_true h
  rw [padB_long h']; rfl
 ·have h':n > 2000:=of_decide_eq_true h2
  unfold padB
  rw [if_pos h']; rfl
 have h1':¬ (s.size:Int)≥n:=of_decide_eq_false h
 have h2':¬ n > 2000:=of_decide_eq_false h2
 obtain⟨c,hc⟩:∃ c:Nat,n-(s.size:Int)=c:=⟨(n-(s.size:Int)).toNat,by omega⟩
 rw [hc,wrap_i64 (by omega)]
 have hcall:CallX Tryz.prog V 249 [.string ⟨#[48]⟩,.int .i64 c] (fun V' r=>V'=V∧r=.string (zeros c)):=by
  refine CallX.of_calls ⟨_,Tryz.func249,by kernel_rfl,by kernel_rfl⟩ fun w _=>?_
  refine(Tryz.strings_Repeat ⟨#[48]⟩ c w (by omega) (by show 1*c≤_; omega)).mono ?_
  rintro e w' ⟨rfl,hb⟩
  refine⟨?_,hb⟩
  show Ending.returned (.string ⟨(Go.Lib.repeatL [48] c).toArray⟩)=_
  rw [repeat_zeros]; rfl
 refine hcall.mono ?_
 rintro V1 _ ⟨rfl,rfl⟩
 refine⟨nofun,zeros c,rfl,?_,Know.le.refl _,?_⟩
 ·rw [zeros_size]; omega
 ·unfold padB
  rw [if_neg h2',hc,Int.toNat_natCast]; rfl
def natTree (x0:SlV) (gi gp:Nat):T :=
 .br ((x0.n:Int) == (0:Int)) (
  .ret [.string ({ data:={ toList:=[(48:UInt8)]:Array UInt8 }:ByteArray })]) <|
 .el (x0.a) (x0.n) (Go.IntKind.i64.wrap ((x0.n:Int)-(1:Int))) fun y1 =>
 .ld false (y1.add ((Go.IntKind.i64.wrap ((x0.n:Int)-(1:Int))).toNat*(1:Nat))) (.o (.i .i64)) fun y2 =>
 .call false gi [.int .i64 (y2)] (.v (.o (.s))) fun y3 =>
 .lp [.o (.o (.s)),.o (.o (.i .i64))] [.v (.string (y3)),.v (.int .i64 (Go.IntKind.i64.wrap ((x0.n:Int)-(2:Int))))] fun y4 =>
 .br (decide (y4.2.fst≥(0:Int))) (
  .el (x0.a) (x0.n) (y4.2.fst) fun y5 =>
  .ld false (y5.add (Int.toNat y4.2.fst*(1:Nat))) (.o (.i .i64)) fun y6 =>
  .call false gi [.int .i64 (y6)] (.v (.o (.s))) fun y7 =>
  .call false gp [.string (y7),.int .i64 ((9:Int))] (.v (.o (.s))) fun y8 =>
  .rq (ByteArray.size y4.fst+y8.size≤(9223372036854775807:Nat)) <|
  .nx 0 [.v (.string (y4.fst++y8)),.v (.int .i64 (Go.IntKind.i64.wrap (y4.2.fst-(1:Int))))]) <|
 .ret [.string (y4.fst)]
theorem natTree_wp {V:Know} {gi gp:Nat} {s:SlV} {l:List Lim} {f:List Nat} (h:LR rI V s l f) (hl:Lims l) (h50:l.length≤50) {K:Know→List Value→Prop}
  (ci:∀ V' k,V.le V'→0≤k→k<1000000000→CallX Tryz.prog V' gi [.int .i64 k] (TxPost V' (numT k)))
  (cp:∀ V' t n,CallX Tryz.prog V' gp [.string t,.int .i64 n] (TxPost V' (padB t n))) (hK:∀ V',V.le V'→K V' [.string (natT l)]):(natTree s gi gp).wp Tryz.prog K V V []:=by
 simp only [natTree,T.wp]
 have hn:=h.1
 refine⟨fun h0=>?_,fun h0=>?_⟩
 ·have h0':(s.n:Int)=0:=by simpa using h0
  have:=hK V (Know.le.refl _)
  unfold natT at this
  rw [if_pos (by omega)] at this
  exact this
 have h0':¬ (s.n:Int)=0:=by simpa using h0
 have ht:natT l=natGo l (l.length-1) (numT (limb l (l.length-1))):=by
  unfold natT
  rw [if_neg (by omega)]
 have e1:IntKind.i64.wrap ((s.n:Int)-1)=((l.length-1:Nat):Int):=by rw [wrap_i64 (by omega)]; omega
 have e2:IntKind.i64.wrap ((s.n:Int)-2)=((l.length-1:Nat):Int)-1:=by rw [wrap_i64 (by omega)]; omega
 rw [e1,e2]
 have hi:l.length-1<l.length:=by omega
 obtain⟨b,o,a1,l1⟩:=h.int hi
 refine⟨_,a1,(by omega),(by omega),_,l1,?_⟩
 have hb1:=hl (l.length-1)
 rw [limb_lt hi] at hb1
 refine(ci V _ (Know.le.refl _) hb1.1 hb1.2).mono ?_
 rintro V1 _ ⟨le1,rfl⟩
 refine⟨nofun,_,rfl,?_⟩
 rw [← limb_lt hi]
 have hsz0:=limb_num hl (l.length-1)
 refine⟨fun y V'=>V.le V'∧∃ i:Nat,(y.2.1:Int)=(i:Int)-1∧i≤l.length-1∧natGo l i y.1=natT l∧ByteArray.size y.1+21*i≤21*l.length,fun y _=>((y.2.1:Int)+1).toNat,
  ⟨(numT (limb l (l.length-1)),((l.length-1:Nat):Int)-1,()),rfl,le1,l.length-1,rfl,Nat.le_refl _,ht.symm,(by show(numT (limb l (l.length-1))).size+_≤_; omega)⟩,?_⟩
 rintro⟨t,(q:Int),u⟩ V' ⟨hle,i,hq,hil,hg,hsz⟩
 replace hq:q=(i:Int)-1:=hq
 replace hg:natGo l i t=natT l:=hg
 replace hsz:ByteArray.size t+21*i≤21*l.length:=hsz
 subst hq
 refine⟨fun hp=>?_,fun hz=>?_⟩
 ·have hp':(i:Int)-1≥0:=of_decide_eq_true hp
  obtain⟨j,rfl⟩:∃ j,i=j+1:=⟨i-1,by omega⟩
  have ej:((j+1:Nat):Int)-1=(j:Int):=by omega
  rw [ej]
  have hj:j<l.length:=by omega
  obtain⟨b,o,a1,l1⟩:=(h.le hle).int hj
  have hb2:=hl j
  rw [limb_lt hj] at hb2
  refine⟨_,a1,(by omega:(0:Int)≤(j:Int)),(by omega:(j:Int)<(s.n:Int)),_,l1,(ci V' _ hle hb2.1 hb2.2).mono ?_⟩
  rintro V2 _ ⟨le2,rfl⟩
  refine⟨nofun,_,rfl,(cp V2 _ _).mono ?_⟩
  rintro V3 _ ⟨le3,rfl⟩
  rw [← limb_lt hj]
  have hps:=part_size hl j
  refine⟨nofun,_,rfl,?_,_,rfl,(t++padB (numT (limb l j)) 9,(j:Int)-1,()),?_,⟨hle.trans (le2.trans le3),j,rfl,by omega,?_,?_⟩,?_⟩
  ·show ByteArray.size t+(padB (numT (limb l j)) 9).size≤_
   omega
  ·have ew:IntKind.i64.wrap ((j:Int)-1)=(j:Int)-1:=wrap_i64 (by omega)
   show [LV.v (.string (t++padB (numT (limb l j)) 9)),LV.v (.int .i64 (IntKind.i64.wrap ((j:Int)-1)))]=_
   rw [ew]; rfl
  ·show natGo l j (t++padB (numT (limb l j)) 9)=natT l
   rw [← hg]; rfl
  ·show(t++padB (numT (limb l j)) 9).size+_≤_
   rw [ByteArray.size_append]
   omega
  ·show(((j:Int)-1)+1).toNat<(((j:Int))+1).toNat
   omega
 ·have hz':¬ (i:Int)-1≥0:=of_decide_eq_false hz
  have hi0:i=0:=by omega
  subst hi0
  have:=hK V' hle
  rw [← hg] at this
  exact this
theorem cS_nat {V:Know} (_:HtS V) (s:SlV) (l:List Lim) (f:List Nat) (h:LR rI V s l f) (ok:NatOkP l):CallX Tryz.prog V 154 [Sc.val .l s] (TxPost V (natT l)):=by
 refine CallX.of_fits Tryz.mix (fS_NatText _) fun _=>?_
 unfold tS_NatText
 change CallX _ _ _ _ (fun V' r=>_∧∃ y,_∧(_→T.wp _ _ _ _ _ _)∧(_→T.wp _ _ (natTree s _ _) _ _ _))
 refine(cS_NatOk V s l f h).mono ?_
 rintro _ r ⟨rfl,e,rfl,he⟩
 refine⟨nofun,e,rfl,fun hf=>?_,fun _=>?_⟩
 ·have:=he.2 ok
  simp [this] at hf
 ·exact natTree_wp h ok.1.1 ok.2 (fun V' k _ h0 h1=>cS_IntText V' k h0 (by omega)) cS_Pad fun V' hle=>⟨hle,rfl⟩
theorem cI_nat {V:Know} (hV:HtI V) (s:SlV) (l:List Lim) (f:List Nat) (h:LR rI V s l f) (ok:NatOkP l):CallX Tryz.prog V 210 [Sc.val .l s] (TxPost V (natT l)):=by
 refine CallX.of_fits Tryz.mix (fI_natText _) fun _=>?_
 exact natTree_wp h ok.1.1 ok.2 (fun V' k hle h0 h1=>cI_IntText (hV.le hle) k (by omega) (by omega)) cI_Pad fun V' hle=>⟨hle,rfl⟩
theorem cI_NatText {V:Know} (hV:HtI V) (s:SlV) (l:List Lim) (f:List Nat) (h:LR rI V s l f) (ok:NatOkP l):CallX Tryz.prog V 181 [Sc.val .l s] (TxPost V (natT l)):=by
 refine CallX.of_fits Tryz.mix (fI_NatText _) fun _=>?_
 simp only [tI_NatText,T.wp]
 refine(cI_NatOk V s l f h).mono ?_
 rintro _ r ⟨rfl,e,rfl,he⟩
 refine⟨nofun,e,rfl,fun hf=>?_,fun _=>(cI_nat hV s l f h ok).mono ?_⟩
 ·have:=he.2 ok
  simp [this] at hf
 ·rintro V1 _ ⟨le1,rfl⟩
  exact⟨nofun,_,rfl,le1,rfl⟩
theorem cS_DecText {V:Know} (hV:HtS V) (c0:Bool) (c1:SlV) (x:Int) (l:List Lim) (f:List Nat) (h:LR rI V c1 l f) :
  CallX Tryz.prog V 195 [qv2 (c0,c1,x,())] (TxPost V (okT (DecOkP c0 l x) (decT c0 l x))):=by
 refine CallX.of_fits Tryz.mix (fS_DecText _) fun _=>?_
 simp only [tS_DecText,T.wp]
 refine(cS_DecOk V c0 c1 x l f h).mono ?_
 rintro _ r ⟨rfl,e,rfl,he⟩
 refine⟨nofun,e,rfl,fun hf=>⟨Know.le.refl _,by rw [okT_neg (fun k=>by rw [he.2 k] at hf; cases hf)]; rfl⟩,fun ht=>?_⟩
 have ok:=he.1 (by simpa using ht)
 rw [okT_pos ok]
 refine(cS_nat hV c1 l f h ok.1.1).mono ?_
 rintro V1 _ ⟨le1,rfl⟩
 have hx30:=ok.2.2
 have e1:IntKind.i64.wrap (x+1)=x+1:=wrap_i64 (by omega)
 rw [e1]
 refine⟨fun _=>le1,_,rfl,(cS_Pad V1 (natT l) (x+1)).mono ?_⟩
 rintro V2 _ ⟨le2,rfl⟩
 have hle:=le1.trans le2
 refine⟨fun _=>le2,_,rfl,?_⟩
 have hs1:=natT_size ok.1.1.1.1
 have h6:=ok.2.1
 have hp:=padB_size (natT l) (x+1)
 have hd:decT c0 l x=if c0=true then (⟨#[45]⟩:ByteArray)++pointT (padB (natT l) (x+1)) x else pointT (padB (natT l) (x+1)) x:=rfl
 rw [hd]
 generalize padB (natT l) (x+1)=p at hp ⊢
 refine⟨fun hx=>?_,fun hx=>?_⟩
 ·have hx':x > 0:=of_decide_eq_true hx
  have e2:IntKind.i64.wrap ((p.size:Int)-x)=((p.size-x.toNat:Nat):Int):=by rw [wrap_i64 (by omega)]; omega
  rw [e2]
  have hq:pointT p x=(p.extract 0 (p.size-x.toNat)++(⟨#[46]⟩:ByteArray))++p.extract (p.size-x.toNat) p.size:=by
   unfold pointT
   rw [if_pos hx']
  have hqs:=pointT_size p x
  rw [hq] at hqs ⊢
  simp only [Int.toNat_natCast,Int.toNat_zero]
  have s1:(p.extract 0 (p.size-x.toNat)).size≤p.size:=by rw [ByteArray.size_extract]; omega
  refine⟨by omega,?_,by omega,?_,fun hc=>⟨?_,hle,?_⟩,fun hc=>⟨hle,?_⟩⟩
  ·show(p.extract 0 (p.size-x.toNat)).size+1≤_
   omega
  ·rw [← ByteArray.size_append]
   exact Nat.le_trans hqs (by omega)
  ·refine Nat.le_trans (Nat.add_le_add_left hqs _) ?_
   show 1+(p.size+1)≤_
   omega
  ·have hc':c0=true:=hc
   rw [if_pos hc']; rfl
  ·have hc':¬ c0=true:=by simpa using hc
   rw [if_neg hc']; rfl
 ·have hx':¬ x > 0:=of_decide_eq_false hx
  have hq:pointT p x=p:=by
   unfold pointT
   rw [if_neg hx']
  rw [hq]
  refine⟨fun hc=>⟨?_,hle,?_⟩,fun hc=>⟨hle,?_⟩⟩
  ·show 1+p.size≤_
   omega
  ·have hc':c0=true:=hc
   rw [if_pos hc']; rfl
  ·have hc':¬ c0=true:=by simpa using hc
   rw [if_neg hc']; rfl
theorem cS_IntStr {V:Know} (hV:HtS V) (c0:Bool) (c1:SlV) (l:List Lim) (f:List Nat) (h:LR rI V c1 l f) (ok:IntOkP c0 l) :
  CallX Tryz.prog V 153 [qv0 (c0,c1,())] (TxPost V (intT c0 l)):=by
 refine CallX.of_fits Tryz.mix (fS_IntStr _) fun _=>?_
 simp only [tS_IntStr,T.wp]
 refine(cS_IntOk V c0 c1 l f h).mono ?_
 rintro _ r ⟨rfl,e,rfl,he⟩
 refine⟨nofun,e,rfl,fun hf=>?_,fun _=>⟨fun hc=>?_,fun hc=>?_⟩⟩
 ·have:=he.2 ok
  simp [this] at hf
 ·have hc':c0=true:=hc
  refine(cS_nat hV c1 l f h ok.1).mono ?_
  rintro V1 _ ⟨le1,rfl⟩
  have hs1:=natT_size ok.1.1.1
  have h50:=ok.1.2
  refine⟨nofun,_,rfl,?_,le1,?_⟩
  ·show 1+(natT l).size≤_
   omega
  ·unfold intT
   rw [if_pos hc']; rfl
 ·have hc':¬ c0=true:=by simpa using hc
  refine(cS_nat hV c1 l f h ok.1).mono ?_
  rintro V1 _ ⟨le1,rfl⟩
  refine⟨nofun,_,rfl,le1,?_⟩
  unfold intT
  rw [if_neg hc']; rfl
theorem cI_DecText {V:Know} (hV:HtI V) (c0:Bool) (c1:SlV) (x:Int) (l:List Lim) (f:List Nat) (h:LR rI V c1 l f) :
  CallX Tryz.prog V 143 [qv2 (c0,c1,x,())] (TxPost V (okT (DecOkP c0 l x) (decT c0 l x))):=by
 refine CallX.of_fits Tryz.mix (fI_DecText _) fun _=>?_
 simp only [tI_DecText,T.wp]
 refine(cI_DecOk V c0 c1 x l f h).mono ?_
 rintro _ r ⟨rfl,e,rfl,he⟩
 refine⟨nofun,e,rfl,fun hf=>⟨Know.le.refl _,by rw [okT_neg (fun k=>by rw [he.2 k] at hf; cases hf)]; rfl⟩,fun ht=>?_⟩
 have ok:=he.1 (by simpa using ht)
 rw [okT_pos ok]
 refine(cI_nat hV c1 l f h ok.1.1).mono ?_
 rintro V1 _ ⟨le1,rfl⟩
 have hx30:=ok.2.2
 have e1:IntKind.i64.wrap (x+1)=x+1:=wrap_i64 (by omega)
 rw [e1]
 refine⟨fun _=>le1,_,rfl,(cI_Pad V1 (natT l) (x+1)).mono ?_⟩
 rintro V2 _ ⟨le2,rfl⟩
 have hle:=le1.trans le2
 refine⟨fun _=>le2,_,rfl,?_⟩
 have hs1:=natT_size ok.1.1.1.1
 have h6:=ok.2.1
 have hp:=padB_size (natT l) (x+1)
 have hd:decT c0 l x=if c0=true then (⟨#[45]⟩:ByteArray)++pointT (padB (natT l) (x+1)) x else pointT (padB (natT l) (x+1)) x:=rfl
 rw [hd]
 generalize padB (natT l) (x+1)=p at hp ⊢
 refine⟨fun hx=>?_,fun hx=>?_⟩
 ·have hx':x > 0:=of_decide_eq_true hx
  have e2:IntKind.i64.wrap ((p.size:Int)-x)=((p.size-x.toNat:Nat):Int):=by rw [wrap_i64 (by omega)]; omega
  rw [e2]
  have hq:pointT p x=(p.extract 0 (p.size-x.toNat)++(⟨#[46]⟩:ByteArray))++p.extract (p.size-x.toNat) p.size:=by
   unfold pointT
   rw [if_pos hx']
  have hqs:=pointT_size p x
  rw [hq] at hqs ⊢
  simp only [Int.toNat_natCast,Int.toNat_zero]
  have s1:(p.extract 0 (p.size-x.toNat)).size≤p.size:=by rw [ByteArray.size_extract]; omega
  refine⟨by omega,?_,by omega,?_,fun hc=>⟨?_,hle,?_⟩,fun hc=>⟨hle,?_⟩⟩
  ·show(p.extract 0 (p.size-x.toNat)).size+1≤_
   omega
  ·rw [← ByteArray.size_append]
   exact Nat.le_trans hqs (by omega)
  ·refine Nat.le_trans (Nat.add_le_add_left hqs _) ?_
   show 1+(p.size+1)≤_
   omega
  ·have hc':c0=true:=hc
   rw [if_pos hc']; rfl
  ·have hc':¬ c0=true:=by simpa using hc
   rw [if_neg hc']; rfl
 ·have hx':¬ x > 0:=of_decide_eq_false hx
  have hq:pointT p x=p:=by
   unfold pointT
   rw [if_neg hx']
  rw [hq]
  refine⟨fun hc=>⟨?_,hle,?_⟩,fun hc=>⟨hle,?_⟩⟩
  ·show 1+p.size≤_
   omega
  ·have hc':c0=true:=hc
   rw [if_pos hc']; rfl
  ·have hc':¬ c0=true:=by simpa using hc
   rw [if_neg hc']; rfl
theorem cI_IntStr {V:Know} (hV:HtI V) (c0:Bool) (c1:SlV) (l:List Lim) (f:List Nat) (h:LR rI V c1 l f) (ok:IntOkP c0 l) :
  CallX Tryz.prog V 180 [qv0 (c0,c1,())] (TxPost V (intT c0 l)):=by
 refine CallX.of_fits Tryz.mix (fI_IntStr _) fun _=>?_
 simp only [tI_IntStr,T.wp]
 refine(cI_IntOk V c0 c1 l f h).mono ?_
 rintro _ r ⟨rfl,e,rfl,he⟩
 refine⟨nofun,e,rfl,fun hf=>?_,fun _=>⟨fun hc=>?_,fun hc=>?_⟩⟩
 ·have:=he.2 ok
  simp [this] at hf
 ·have hc':c0=true:=hc
  refine(cI_nat hV c1 l f h ok.1).mono ?_
  rintro V1 _ ⟨le1,rfl⟩
  have hs1:=natT_size ok.1.1.1
  have h50:=ok.1.2
  refine⟨nofun,_,rfl,?_,le1,?_⟩
  ·show 1+(natT l).size≤_
   omega
  ·unfold intT
   rw [if_pos hc']; rfl
 ·have hc':¬ c0=true:=by simpa using hc
  refine(cI_nat hV c1 l f h ok.1).mono ?_
  rintro V1 _ ⟨le1,rfl⟩
  refine⟨nofun,_,rfl,le1,?_⟩
  unfold intT
  rw [if_neg hc']; rfl
end Go.Proofs.YtagkjnpggkmehaaGreatDoor
