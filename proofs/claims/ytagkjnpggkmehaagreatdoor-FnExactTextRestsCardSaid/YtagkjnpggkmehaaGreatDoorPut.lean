/-
  A row of a list that one owns is replaced, in whole or in part.
-/
import Derived.Test.YtagkjnpggkmehaaGreatDoorLedB
import Derived.Test.YtagkjnpggkmehaaGreatDoorLoopT
import Derived.Test.YtagkjnpggkmehaaGreatDoorLib
import Derived.Test.YtagkjnpggkmehaaGreatDoorRdD
import Derived.Lib.AppendIntMem
import Derived.Test.YtagkjnpggkmehaaGreatDoorMath
namespace Go.Proofs.YtagkjnpggkmehaaGreatDoor
open Sx Go.RowKit
set_option maxRecDepth 100000
noncomputable def okT (p:Prop) (t:ByteArray):ByteArray:=by classical exact if p then t else ⟨#[]⟩
theorem okT_pos {p:Prop} {t:ByteArray} (h:p):okT p t=t:=by unfold okT; rw [if_pos h]
theorem okT_neg {p:Prop} {t:ByteArray} (h:¬ p):okT p t=⟨#[]⟩:=by unfold okT; rw [if_neg h]
abbrev TxPost (V:Know) (t:ByteArray):Know→Value→Prop:=fun V' r=>V.le V'∧r=.string t
def hasTab (V:Know):Prop:=∃ t,V 4=some (Go.Lib.pow10Tab.map fun z=>Value.int .u64 z,t)
def HtS (_:Know):Prop:=True
def HtI (V:Know):Prop:=hasCur V∧hasTab V
theorem HtS.le {V V':Know} (h:HtS V) (_:V.le V'):HtS V':=h
theorem HtI.le {V V':Know} (h:HtI V) (hle:V.le V'):HtI V':=⟨h.1.le hle,let ⟨t,ht⟩:=h.2; ⟨t,hle _ _ ht⟩⟩
theorem HtS.c {V:Know} (_:HtS V):HcS V:=trivial
theorem HtI.c {V:Know} (h:HtI V):HcI V:=h.1
theorem by_digit {k:Int} (h0:0≤k) (h9:k≤9):bytesD [.int .u8 (IntKind.u8.wrap (IntKind.i64.wrap (48+k)))]=dig k.toNat:=by
 rw [wrap_i64 (by omega)]
 have e:IntKind.u8.wrap (48+k)=48+k:=by
  show(48+k) % 2 ^ 8=48+k
  exact Int.emod_eq_of_lt (by omega) (by omega)
 rw [e]
 have e2:(48+k).toNat=48+k.toNat:=by omega
 show(⟨#[UInt8.ofNat (48+k).toNat]⟩:ByteArray)=_
 rw [e2]; rfl
theorem cS_IntText (V:Know) (k:Int) (h0:0≤k) (h1:k≤9223372036854775807):CallX Tryz.prog V 212 [.int .i64 k] (TxPost V (numT k)):=by
 refine CallX.of_fits Tryz.mix (fS_IntText _) fun _=>?_
 simp only [tS_IntText,T.wp]
 have hnn:¬ k<0:=by omega
 refine⟨fun h=>absurd (of_decide_eq_true h) hnn,fun _=>?_⟩
 have hk:=numT_len k (by omega) h1
 refine⟨fun y V'=>V.le V'∧0≤(y.1:Int)∧(y.1:Int)≤k∧numT (y.1:Int)++y.2.1=numT k,fun y _=>(y.1:Int).toNat,⟨(k,⟨#[]⟩,()),rfl,Know.le.refl _,h0,Int.le_refl _,ByteArray.append_empty⟩,?_⟩
 rintro⟨(j:Int),out,u⟩ V' ⟨hle,hj,hjk,hd⟩
 replace hj:0≤j:=hj
 replace hjk:j≤k:=hjk
 replace hd:numT j++out=numT k:=hd
 have hsz:(numT j).size+ByteArray.size out≤21:=by
  have:=congrArg ByteArray.size hd
  rw [ByteArray.size_append] at this
  omega
 refine⟨fun hp=>?_,fun hz=>?_⟩
 ·have hp':j > 9:=of_decide_eq_true hp
  have et:Int.tmod j 10=j % 10:=Int.tmod_eq_emod_of_nonneg (by omega)
  have eq:Int.tdiv j 10=j / 10:=Int.tdiv_eq_ediv_of_nonneg (by omega)
  rw [et,eq]
  refine⟨by decide,fun b cap spare hb hc _=>?_⟩
  have hV:=kset_le (x:=([Value.int .u8 (IntKind.u8.wrap (IntKind.i64.wrap (48+j % 10)))]++spare,((5:TypeId),((0,0):Nat × Nat)))) hb
  have ed:=by_digit (k:=j % 10) (by omega) (by omega)
  have en:=numT_big hp'
  refine⟨[.int .u8 (IntKind.u8.wrap (IntKind.i64.wrap (48+j % 10)))],.inr ⟨_,rfl,?_⟩,rfl,by simp [bytesOf,bytesGo],?_,by decide,_,rfl,(j / 10,dig (j % 10).toNat++out,()),?_,⟨hle.trans hV,?_,?_,?_⟩,?_⟩
  ·simp only [loadV,kset_same]
   exact cutv_head (x:=[Value.int .u8 (IntKind.u8.wrap (IntKind.i64.wrap (48+j % 10)))])
  ·rw [ed,dig_size]
   show 1+ByteArray.size out≤_
   omega
  ·rw [ed,wrap_i64 (by omega)]; rfl
  ·show(0:Int)≤j / 10
   omega
  ·show j / 10≤k
   omega
  ·show numT (j / 10)++(dig (j % 10).toNat++out)=numT k
   rw [← ByteArray.append_assoc,← en,hd]
  ·show(j / 10).toNat<j.toNat
   omega
 ·have hz':¬ j > 9:=of_decide_eq_false hz
  intro b cap spare hb hc _
  have hV:=kset_le (x:=([Value.int .u8 (IntKind.u8.wrap (IntKind.i64.wrap (48+j)))]++spare,((5:TypeId),((0,0):Nat × Nat)))) hb
  have ed:=by_digit (k:=j) (by omega) (by omega)
  have en:=numT_small hj (by omega)
  refine⟨[.int .u8 (IntKind.u8.wrap (IntKind.i64.wrap (48+j)))],.inr ⟨_,rfl,?_⟩,rfl,by simp [bytesOf,bytesGo],?_,hle.trans hV,?_⟩
  ·simp only [loadV,kset_same]
   exact cutv_head (x:=[Value.int .u8 (IntKind.u8.wrap (IntKind.i64.wrap (48+j)))])
  ·rw [ed,dig_size]
   show 1+ByteArray.size out≤_
   omega
  ·rw [ed,← en,hd]; rfl
theorem cI_Itoa {V:Know} (hV:HtI V) (k:Int) (h0:-9223372036854775808≤k) (h1:k≤9223372036854775807):CallX Tryz.prog V 281 [.int .i64 k] (fun V' r=>V'=V∧r=.string (numT k)):=by
 obtain⟨t,ht⟩:=hV.2
 refine CallX.of_calls ⟨_,Tryz.func281,by kernel_rfl,by kernel_rfl⟩ fun w hw=>?_
 refine(Tryz.strconv_Itoa k h0 h1 w (tab_of (by kernel_rfl) ht hw)).mono ?_
 rintro e w' ⟨rfl,n,os,rfl⟩
 exact⟨rfl,Go.Lib.below_grow _ _ (Nat.le_refl _) _ _⟩
theorem cI_IntText {V:Know} (hV:HtI V) (k:Int) (h0:-9223372036854775808≤k) (h1:k≤9223372036854775807):CallX Tryz.prog V 250 [.int .i64 k] (TxPost V (numT k)):=by
 refine CallX.of_fits Tryz.mix (fI_IntText _) fun _=>?_
 simp only [tI_IntText,T.wp]
 refine(cI_Itoa hV k h0 h1).mono ?_
 rintro V1 _ ⟨rfl,rfl⟩
 exact⟨nofun,_,rfl,Know.le.refl _,rfl⟩
theorem cS_Pad (V:Know) (s:ByteArray) (n:Int):CallX Tryz.prog V 213 [.string s,.int .i64 n] (TxPost V (padB s n)):=by
 refine CallX.of_fits Tryz.mix (fS_Pad _ _) fun _=>?_
 simp only [tS_Pad,T.wp]
 refine⟨fun h=>⟨Know.le.refl _,?_⟩,fun h=>?_⟩
 ·have h':n > 2000:=of_decide_eq_true h
  unfold padB
  rw [if_pos h']; rfl
 ·have h':¬ n > 2000:=of_decide_eq_false h
  refine⟨fun y V'=>V'=V∧padB y.1 n=padB s n,fun y _=>(n-(ByteArray.size y.1:Int)).toNat,⟨(s,()),rfl,rfl,rfl⟩,?_⟩
  rintro⟨t,u⟩ V' ⟨rfl,ht⟩
  replace ht:padB t n=padB s n:=ht
  refine⟨fun hp=>?_,fun hz=>⟨Know.le.refl _,?_⟩⟩
  ·have hp':(ByteArray.size t:Int)<n:=of_decide_eq_true hp
   refine⟨?_,_,rfl,((⟨#[48]⟩:ByteArray)++t,()),rfl,⟨rfl,?_⟩,?_⟩
   ·show 1+ByteArray.size t≤_
    omega
   ·show padB ((⟨#[48]⟩:ByteArray)++t) n=padB s n
    rw [← padB_step h' hp',ht]
   ·show(n-(((⟨#[48]⟩:ByteArray)++t).size:Int)).toNat<(n-(ByteArray.size t:Int)).toNat
    rw [ByteArray.size_append,show(⟨#[48]⟩:ByteArray).size=1 from rfl]
    omega
  ·have hz':¬ (ByteArray.size t:Int)<n:=of_decide_eq_false hz
   rw [← ht,padB_long (by omega)]; rfl
theorem cI_Pad (V:Know) (s:ByteArray) (n:Int):CallX Tryz.prog V 209 [.string s,.int .i64 n] (TxPost V (padB s n)):=by
 refine CallX.of_fits Tryz.mix (fI_Pad _ _) fun _=>?_
 simp only [tI_Pad,T.wp]
 refine⟨fun h=>⟨Know.le.refl _,?_⟩,fun h=>⟨fun h2=>⟨Know.le.refl _,?_⟩,fun h2=>?_⟩⟩
 ·have h':(s.size:Int)≥n:=of_decide_eq_true h
  rw [padB_long h']; rfl
 ·have h':n > 2000:=of_decide_eq_true h2
  unfold padB
  rw [if_pos h']; rfl
 have h1':¬ (s.size:Int)≥n:=of_decide_eq_false h
 have h2':¬ n > 2000:=of_decide_eq_false h2
 obtain⟨c,hc⟩:∃ c:Nat,n-(s.size:Int)=c:=⟨(n-(s.size:Int)).toNat,by omega⟩
 rw [hc,wrap_i64 (by omega)]
 have hcall:CallX Tryz.prog V 249 [.string ⟨#[48]⟩,.int .i64 c] (fun V' r=>V'=V∧r=.string (zeros c)):=by
  refine CallX.of_calls ⟨_,Tryz.func249,by kernel_rfl,by kernel_rfl⟩ fun w _=>?_
  refine(Tryz.strings_Repeat ⟨#[48]⟩ c w (by omega) (by show 1*c≤_; omega)).mono ?_
  rintro e w' ⟨rfl,hb⟩
  refine⟨?_,hb⟩
  show Ending.returned (.string ⟨(Go.Lib.repeatL [48] c).toArray⟩)=_
  rw [repeat_zeros]; rfl
 refine hcall.mono ?_
 rintro V1 _ ⟨rfl,rfl⟩
 refine⟨nofun,zeros c,rfl,?_,Know.le.refl _,?_⟩
 ·rw [zeros_size]; omega
 ·unfold padB
  rw [if_neg h2',hc,Int.toNat_natCast]; rfl
def natTree (x0:SlV) (gi gp:Nat):T :=
 .br ((x0.n:Int) == (0:Int)) (
  .ret [.string ({ data:={ toList:=[(48:UInt8)]:Array UInt8 }:ByteArray })]) <|
 .el (x0.a) (x0.n) (Go.IntKind.i64.wrap ((x0.n:Int)-(1:Int))) fun y1 =>
 .ld false (y1.add ((Go.IntKind.i64.wrap ((x0.n:Int)-(1:Int))).toNat*(1:Nat))) (.o (.i .i64)) fun y2 =>
 .call false gi [.int .i64 (y2)] (.v (.o (.s))) fun y3 =>
 .lp [.o (.o (.s)),.o (.o (.i .i64))] [.v (.string (y3)),.v (.int .i64 (Go.IntKind.i64.wrap ((x0.n:Int)-(2:Int))))] fun y4 =>
 .br (decide (y4.2.fst≥(0:Int))) (
  .el (x0.a) (x0.n) (y4.2.fst) fun y5 =>
  .ld false (y5.add (Int.toNat y4.2.fst*(1:Nat))) (.o (.i .i64)) fun y6 =>
  .call false gi [.int .i64 (y6)] (.v (.o (.s))) fun y7 =>
  .call false gp [.string (y7),.int .i64 ((9:Int))] (.v (.o (.s))) fun y8 =>
  .rq (ByteArray.size y4.fst+y8.size≤(9223372036854775807:Nat)) <|
  .nx 0 [.v (.string (y4.fst++y8)),.v (.int .i64 (Go.IntKind.i64.wrap (y4.2.fst-(1:Int))))]) <|
 .ret [.string (y4.fst)]
theorem natTree_wp {V:Know} {gi gp:Nat} {s:SlV} {l:List Lim} {f:List Nat} (h:LR rI V s l f) (hl:Lims l) (h50:l.length≤50) {K:Know→List Value→Prop}
  (ci:∀ V' k,V.le V'→0≤k→k<1000000000→CallX Tryz.prog V' gi [.int .i64 k] (TxPost V' (numT k)))
  (cp:∀ V' t n,CallX Tryz.prog V' gp [.string t,.int .i64 n] (TxPost V' (padB t n))) (hK:∀ V',V.le V'→K V' [.string (natT l)]):(natTree s gi gp).wp Tryz.prog K V V []:=by
 simp only [natTree,T.wp]
 have hn:=h.1
 refine⟨fun h0=>?_,fun h0=>?_⟩
 ·have h0':(s.n:Int)=0:=by simpa using h0
  have:=hK V (Know.le.refl _)
  unfold natT at this
  rw [if_pos (by omega)] at this
  exact this
 have h0':¬ (s.n:Int)=0:=by simpa using h0
 have ht:natT l=natGo l (l.length-1) (numT (limb l (l.length-1))):=by
  unfold natT
  rw [if_neg (by omega)]
 have e1:IntKind.i64.wrap ((s.n:Int)-1)=((l.length-1:Nat):Int):=by rw [wrap_i64 (by omega)]; omega
 have e2:IntKind.i64.wrap ((s.n:Int)-2)=((l.length-1:Nat):Int)-1:=by rw [wrap_i64 (by omega)]; omega
 rw [e1,e2]
 have hi:l.length-1<l.length:=by omega
 obtain⟨b,o,a1,l1⟩:=h.int hi
 refine⟨_,a1,(by omega),(by omega),_,l1,?_⟩
 have hb1:=hl (l.length-1)
 rw [limb_lt hi] at hb1
 refine(ci V _ (Know.le.refl _) hb1.1 hb1.2).mono ?_
 rintro V1 _ ⟨le1,rfl⟩
 refine⟨nofun,_,rfl,?_⟩
 rw [← limb_lt hi]
 have hsz0:=limb_num hl (l.length-1)
 refine⟨fun y V'=>V.le V'∧∃ i:Nat,(y.2.1:Int)=(i:Int)-1∧i≤l.length-1∧natGo l i y.1=natT l∧ByteArray.size y.1+21*i≤21*l.length,fun y _=>((y.2.1:Int)+1).toNat,
  ⟨(numT (limb l (l.length-1)),((l.length-1:Nat):Int)-1,()),rfl,le1,l.length-1,rfl,Nat.le_refl _,ht.symm,(by show(numT (limb l (l.length-1))).size+_≤_; omega)⟩,?_⟩
 rintro⟨t,(q:Int),u⟩ V' ⟨hle,i,hq,hil,hg,hsz⟩
 replace hq:q=(i:Int)-1:=hq
 replace hg:natGo l i t=natT l:=hg
 replace hsz:ByteArray.size t+21*i≤21*l.length:=hsz
 subst hq
 refine⟨fun hp=>?_,fun hz=>?_⟩
 ·have hp':(i:Int)-1≥0:=of_decide_eq_true hp
  obtain⟨j,rfl⟩:∃ j,i=j+1:=⟨i-1,by omega⟩
  have ej:((j+1:Nat):Int)-1=(j:Int):=by omega
  rw [ej]
  have hj:j<l.length:=by omega
  obtain⟨b,o,a1,l1⟩:=(h.le hle).int hj
  have hb2:=hl j
  rw [limb_lt hj] at hb2
  refine⟨_,a1,(by omega:(0:Int)≤(j:Int)),(by omega:(j:Int)<(s.n:Int)),_,l1,(ci V' _ hle hb2.1 hb2.2).mono ?_⟩
  rintro V2 _ ⟨le2,rfl⟩
  refine⟨nofun,_,rfl,(cp V2 _ _).mono ?_⟩
  rintro V3 _ ⟨le3,rfl⟩
  rw [← limb_lt hj]
  have hps:=part_size hl j
  refine⟨nofun,_,rfl,?_,_,rfl,(t++padB (numT (limb l j)) 9,(j:Int)-1,()),?_,⟨hle.trans (le2.trans le3),j,rfl,by omega,?_,?_⟩,?_⟩
  ·show ByteArray.size t+(padB (numT (limb l j)) 9).size≤_
   omega
  ·have ew:IntKind.i64.wrap ((j:Int)-1)=(j:Int)-1:=wrap_i64 (by omega)
   show [LV.v (.string (t++padB (numT (limb l j)) 9)),LV.v (.int .i64 (IntKind.i64.wrap ((j:Int)-1)))]=_
   rw [ew]; rfl
  ·show natGo l j (t++padB (numT (limb l j)) 9)=natT l
   rw [← hg]; rfl
  ·show(t++padB (numT (limb l j)) 9).size+_≤_
   rw [ByteArray.size_append]
   omega
  ·show(((j:Int)-1)+1).toNat<(((j:Int))+1).toNat
   omega
 ·have hz':¬ (i:Int)-1≥0:=of_decide_eq_false hz
  have hi0:i=0:=by omega
  subst hi0
  have:=hK V' hle
  rw [← hg] at this
  exact this
theorem cS_nat {V:Know} (_:HtS V) (s:SlV) (l:List Lim) (f:List Nat) (h:LR rI V s l f) (ok:NatOkP l):CallX Tryz.prog V 154 [Sc.val .l s] (TxPost V (natT l)):=by
 refine CallX.of_fits Tryz.mix (fS_NatText _) fun _=>?_
 unfold tS_NatText
 change CallX _ _ _ _ (fun V' r=>_∧∃ y,_∧(_→T.wp _ _ _ _ _ _)∧(_→T.wp _ _ (natTree s _ _) _ _ _))
 refine(cS_NatOk V s l f h).mono ?_
 rintro _ r ⟨rfl,e,rfl,he⟩
 refine⟨nofun,e,rfl,fun hf=>?_,fun _=>?_⟩
 ·have:=he.2 ok
  simp [this] at hf
 ·exact natTree_wp h ok.1.1 ok.2 (fun V' k _ h0 h1=>cS_IntText V' k h0 (by omega)) cS_Pad fun V' hle=>⟨hle,rfl⟩
theorem cI_nat {V:Know} (hV:HtI V) (s:SlV) (l:List Lim) (f:List Nat) (h:LR rI V s l f) (ok:NatOkP l):CallX Tryz.prog V 210 [Sc.val .l s] (TxPost V (natT l)):=by
 refine CallX.of_fits Tryz.mix (fI_natText _) fun _=>?_
 exact natTree_wp h ok.1.1 ok.2 (fun V' k hle h0 h1=>cI_IntText (hV.le hle) k (by omega) (by omega)) cI_Pad fun V' hle=>⟨hle,rfl⟩
theorem cI_NatText {V:Know} (hV:HtI V) (s:SlV) (l:List Lim) (f:List Nat) (h:LR rI V s l f) (ok:NatOkP l):CallX Tryz.prog V 181 [Sc.val .l s] (TxPost V (natT l)):=by
 refine CallX.of_fits Tryz.mix (fI_NatText _) fun _=>?_
 simp only [tI_NatText,T.wp]
 refine(cI_NatOk V s l f h).mono ?_
 rintro _ r ⟨rfl,e,rfl,he⟩
 refine⟨nofun,e,rfl,fun hf=>?_,fun _=>(cI_nat hV s l f h ok).mono ?_⟩
 ·have:=he.2 ok
  simp [this] at hf
 ·rintro V1 _ ⟨le1,rfl⟩
  exact⟨nofun,_,rfl,le1,rfl⟩
theorem cS_IntStr {V:Know} (hV:HtS V) (c0:Bool) (c1:SlV) (l:List Lim) (f:List Nat) (h:LR rI V c1 l f) (ok:IntOkP c0 l) :
  CallX Tryz.prog V 153 [qv1 (c0,c1,())] (TxPost V (intT c0 l)):=by
 refine CallX.of_fits Tryz.mix (fS_IntStr _) fun _=>?_
 simp only [tS_IntStr,T.wp]
 refine(cS_IntOk V c0 c1 l f h).mono ?_
 rintro _ r ⟨rfl,e,rfl,he⟩
 refine⟨nofun,e,rfl,fun hf=>?_,fun _=>⟨fun hc=>?_,fun hc=>?_⟩⟩
 ·have:=he.2 ok
  simp [this] at hf
 ·have hc':c0=true:=hc
  refine(cS_nat hV c1 l f h ok.1).mono ?_
  rintro V1 _ ⟨le1,rfl⟩
  have hs1:=natT_size ok.1.1.1
  have h50:=ok.1.2
  refine⟨nofun,_,rfl,?_,le1,?_⟩
  ·show 1+(natT l).size≤_
   omega
  ·unfold intT
   rw [if_pos hc']; rfl
 ·have hc':¬ c0=true:=by simpa using hc
  refine(cS_nat hV c1 l f h ok.1).mono ?_
  rintro V1 _ ⟨le1,rfl⟩
  refine⟨nofun,_,rfl,le1,?_⟩
  unfold intT
  rw [if_neg hc']; rfl
theorem cI_IntStr {V:Know} (hV:HtI V) (c0:Bool) (c1:SlV) (l:List Lim) (f:List Nat) (h:LR rI V c1 l f) (ok:IntOkP c0 l) :
  CallX Tryz.prog V 180 [qv1 (c0,c1,())] (TxPost V (intT c0 l)):=by
 refine CallX.of_fits Tryz.mix (fI_IntStr _) fun _=>?_
 simp only [tI_IntStr,T.wp]
 refine(cI_IntOk V c0 c1 l f h).mono ?_
 rintro _ r ⟨rfl,e,rfl,he⟩
 refine⟨nofun,e,rfl,fun hf=>?_,fun _=>⟨fun hc=>?_,fun hc=>?_⟩⟩
 ·have:=he.2 ok
  simp [this] at hf
 ·have hc':c0=true:=hc
  refine(cI_nat hV c1 l f h ok.1).mono ?_
  rintro V1 _ ⟨le1,rfl⟩
  have hs1:=natT_size ok.1.1.1
  have h50:=ok.1.2
  refine⟨nofun,_,rfl,?_,le1,?_⟩
  ·show 1+(natT l).size≤_
   omega
  ·unfold intT
   rw [if_pos hc']; rfl
 ·have hc':¬ c0=true:=by simpa using hc
  refine(cI_nat hV c1 l f h ok.1).mono ?_
  rintro V1 _ ⟨le1,rfl⟩
  refine⟨nofun,_,rfl,le1,?_⟩
  unfold intT
  rw [if_neg hc']; rfl
end Go.Proofs.YtagkjnpggkmehaaGreatDoor
namespace Go.Proofs.YtagkjnpggkmehaaGreatDoor
open Sx Go.RowKit
set_option maxRecDepth 100000
theorem known_size {x:ByteArray} (h:known x=true):x.size=3:=by
 unfold known at h
 cases h2:curFrom curI x 0 with
 | none=>rw [h2] at h; cases h
 | some r =>
  have hm:r∈curI:=List.mem_of_find?_eq_some h2
  have hx:(r.1.toList == x.toList)=true:=List.find?_some (p:=curHas x) h2
  have:∀ r∈curI,r.1.size=3:=by decide +kernel
  rw [← text_eq.1 hx]
  exact this r hm
def ratT (neg:Bool) (n d:List Lim):ByteArray:=if d=[(1,())] then intT neg n else (intT neg n++(⟨#[47]⟩:ByteArray))++natT d
theorem ratT_size {neg:Bool} {n d:List Lim} (h:RatOkP neg n d):(ratT neg n d).size≤800:=by
 have h1:=intT_size (neg:=neg) h.1.1.1.1
 have h2:=natT_size h.2.1.1.1
 have l1:=h.2.2.2.1
 have l2:=h.2.2.2.2.1
 unfold ratT
 split
 ·omega
 ·rw [ByteArray.size_append,ByteArray.size_append]
  show _+1+_≤_
  omega
theorem can_one1:Can [((1:Int),())]:=⟨lims_one (by decide),.inr (by decide)⟩
theorem cI_isOne (V:Know) (s:SlV) (l:List Lim) (f:List Nat) (h:LR rI V s l f):CallX Tryz.prog V 167 [Sc.val .l s] (fun V' r=>V'=V∧∃ e,r=.bool e∧(e=true↔l=[(1,())])):=by
 refine CallX.of_fits Tryz.mix (fI_isOne _) fun _=>?_
 simp only [tI_isOne,T.wp]
 have hn:=h.1
 refine⟨fun h1=>?_,fun h1=>⟨by trivial,false,rfl,⟨(fun e=>by cases e),fun e=>?_⟩⟩⟩
 ·have h1':(s.n:Int)=1:=by simpa using h1
  have hl:0<l.length:=by omega
  obtain⟨b,o,a1,l1⟩:=h.int hl
  refine⟨_,a1,by omega,by omega,_,l1,by trivial,_,rfl,?_⟩
  match l,hl with
  | [x],_ =>
   obtain⟨x,u⟩:=x
   show(x == 1)=true↔_
   simp
  | _ :: _ :: _,_=>simp at hn; omega
 ·rw [e] at hn
  have:(s.n:Int)=1:=by simp at hn; omega
  simp [this] at h1
theorem cS_RatText {V:Know} (_:HtS V) (c0:Bool) (c1 c2:SlV) (n d:List Lim) (f g:List Nat) (h:LR rI V c1 n f) (h':LR rI V c2 d g) :
  CallX Tryz.prog V 88 [qv0 (c0,c1,c2,())] (TxPost V (okT (RatOkP c0 n d) (ratT c0 n d))):=by
 refine CallX.of_fits Tryz.mix (fS_RatText _) fun _=>?_
 simp only [tS_RatText,T.wp]
 refine(cS_RatOk V c0 c1 c2 n d f g h h').mono ?_
 rintro V1 r ⟨le1,e,rfl,he⟩
 refine⟨nofun,e,rfl,fun hf=>⟨le1,by rw [okT_neg (fun k=>by rw [he.2 k] at hf; cases hf)]; rfl⟩,fun ht=>?_⟩
 have ok:=he.1 (by simpa using ht)
 rw [okT_pos ok]
 intro b4 c4 sp hb4 hc4 _
 have k4:=newI (V:=V1) (b:=b4) (cap:=c4) (o:=[(1,())]) (spare:=sp) (t:=3) hb4 hc4 (by simp)
 have hle4:=kset_le (x:=([((1:Int),())].map cellI++sp,((3:TypeId),((0,0):Nat × Nat)))) hb4
 have le4:=le1.trans hle4
 refine(cS_l02Cmp _ c2 ⟨some ⟨b4,0,none⟩,1,c4⟩ d [(1,())] _ _ (h'.le le4) k4.1).mono ?_
 rintro V3 r ⟨rfl,rfl⟩
 have hd:(cmpL d [(1,())] == 0)=true↔d=[(1,())]:=by
  rw [beq_iff_eq,cmp_eq ok.2.1.1 can_one1]
  exact⟨fun e=>can_inj ok.2.1.1 can_one1 e,fun e=>by rw [e]⟩
 refine⟨nofun,_,rfl,fun h1=>?_,fun h1=>?_⟩
 ·refine(cS_IntStr (V:=kset V1 b4 _) trivial c0 c1 n f (h.le le4) ok.1).mono ?_
  rintro V5 _ ⟨le5,rfl⟩
  refine⟨nofun,_,rfl,le4.trans le5,?_⟩
  unfold ratT
  rw [if_pos (hd.1 h1)]; rfl
 ·have hd':¬ d=[(1,())]:=fun k=>by rw [hd.2 k] at h1; cases h1
  refine(cS_IntStr (V:=kset V1 b4 _) trivial c0 c1 n f (h.le le4) ok.1).mono ?_
  rintro V5 _ ⟨le5,rfl⟩
  have z1:=intT_size (neg:=c0) ok.1.1.1.1
  have z2:=natT_size ok.2.1.1.1
  have z3:=ok.2.2.2.1
  have z4:=ok.2.2.2.2.1
  refine⟨fun _=>le5,_,rfl,by show(intT c0 n).size+1≤_; omega,(cS_nat (V:=V5) trivial c2 d g (h'.le (le4.trans le5)) ok.2.1).mono ?_⟩
  rintro V6 _ ⟨le6,rfl⟩
  refine⟨fun _=>le6,_,rfl,?_,le4.trans (le5.trans le6),?_⟩
  ·rw [ByteArray.size_append]
   show(intT c0 n).size+1+(natT d).size≤_
   omega
  ·unfold ratT
   rw [if_neg hd']; rfl
theorem cI_RatText {V:Know} (hV:HtI V) (c0:Bool) (c1 c2:SlV) (n d:List Lim) (f g:List Nat) (h:LR rI V c1 n f) (h':LR rI V c2 d g) :
  CallX Tryz.prog V 103 [qv0 (c0,c1,c2,())] (TxPost V (okT (RatOkP c0 n d) (ratT c0 n d))):=by
 refine CallX.of_fits Tryz.mix (fI_RatText _) fun _=>?_
 simp only [tI_RatText,T.wp]
 refine(cI_RatOk V c0 c1 c2 n d f g h h').mono ?_
 rintro V1 r ⟨le1,e,rfl,he⟩
 refine⟨nofun,e,rfl,fun hf=>⟨le1,by rw [okT_neg (fun k=>by rw [he.2 k] at hf; cases hf)]; rfl⟩,fun ht=>?_⟩
 have ok:=he.1 (by simpa using ht)
 rw [okT_pos ok]
 refine(cI_isOne V1 c2 d g (h'.le le1)).mono ?_
 rintro _ _ ⟨rfl,e2,rfl,hd⟩
 refine⟨nofun,_,rfl,fun h1=>?_,fun h1=>?_⟩
 ·refine(cI_IntStr (hV.le le1) c0 c1 n f (h.le le1) ok.1).mono ?_
  rintro V5 _ ⟨le5,rfl⟩
  refine⟨nofun,_,rfl,le1.trans le5,?_⟩
  unfold ratT
  rw [if_pos (hd.1 h1)]; rfl
 ·have h1':e2=false:=h1
  have hd':¬ d=[(1,())]:=fun k=>by rw [hd.2 k] at h1'; cases h1'
  refine(cI_IntStr (hV.le le1) c0 c1 n f (h.le le1) ok.1).mono ?_
  rintro V5 _ ⟨le5,rfl⟩
  have z1:=intT_size (neg:=c0) ok.1.1.1.1
  have z2:=natT_size ok.2.1.1.1
  have z3:=ok.2.2.2.1
  have z4:=ok.2.2.2.2.1
  refine⟨fun _=>le5,_,rfl,by show(intT c0 n).size+1≤_; omega,(cI_NatText (hV.le (le1.trans le5)) c2 d g (h'.le (le1.trans le5)) ok.2.1).mono ?_⟩
  rintro V6 _ ⟨le6,rfl⟩
  refine⟨fun _=>le6,_,rfl,?_,le1.trans (le5.trans le6),?_⟩
  ·rw [ByteArray.size_append]
   show(intT c0 n).size+1+(natT d).size≤_
   omega
  ·unfold ratT
   rw [if_neg hd']; rfl
theorem cI_restText {V:Know} (hV:HtI V) (x:DRest) (s s':SlV) (g g':List Nat) (h:LR rI V s x.2.2.1 g) (h':LR rI V s' x.2.2.2.1 g') (hk:known x.1=true) (ok:RatOkP x.2.1 x.2.2.1 x.2.2.2.1) :
  CallX Tryz.prog V 47 [qv2 (x.1,x.2.1,s,s',())] (TxPost V ((x.1++(⟨#[32]⟩:ByteArray))++ratT x.2.1 x.2.2.1 x.2.2.2.1)):=by
 refine CallX.of_fits Tryz.mix (fI_restText _) fun _=>?_
 simp only [tI_restText,T.wp]
 have k1:=known_size hk
 have z:=ratT_size ok
 refine⟨by show ByteArray.size x.1+1≤_; omega,(cI_RatText hV x.2.1 s s' x.2.2.1 x.2.2.2.1 g g' h h').mono ?_⟩
 rintro V1 _ ⟨le1,rfl⟩
 rw [okT_pos ok]
 refine⟨fun _=>le1,_,rfl,?_,le1,rfl⟩
 rw [ByteArray.size_append]
 show ByteArray.size x.1+1+(ratT x.2.1 x.2.2.1 x.2.2.2.1).size≤_
 omega
end Go.Proofs.YtagkjnpggkmehaaGreatDoor
namespace Go.Proofs.YtagkjnpggkmehaaGreatDoor
open Sx
section
variable {sh:List Sc} {α:Type}
def GR (r:Rp sh α) (t:TypeId) (V:Know) (s:SlV) (l:List α) (f:List Nat):Prop :=
 s.n=l.length∧s.n≤s.c∧((s.a=none∧s.c=0∧l=[]∧f=[]) ∨
  ∃ b fps cs post,s.a=some ⟨b,0,none⟩∧V b=some (cs.flatMap (Scs.vals sh)++post,(t,(0,0)))∧post.length=(s.c-s.n)*sh.length∧Els r V cs l fps∧f=b :: fps)
theorem GR.nil {r:Rp sh α} {t:TypeId} {V:Know}:GR r t V ⟨none,0,0⟩ [] []:=⟨rfl,Nat.le_refl _,.inl ⟨rfl,rfl,rfl,rfl⟩⟩
theorem GR.lr {r:Rp sh α} {t:TypeId} {V:Know} {s:SlV} {l:List α} {f:List Nat} (h:GR r t V s l f) (hn:l.length≤9223372036854775807):LR r V s l f:=by
 obtain⟨h1,h2,h3⟩:=h
 refine⟨h1,h2,by omega,?_⟩
 rcases h3 with ⟨ha,hc,rfl,rfl⟩ | ⟨b,fps,cs,post,ha,hb,hp,he,rfl⟩
 ·exact .inl ⟨h1,fun _=>hc,rfl⟩
 ·exact .inr ⟨b,[],post,_,fps,cs,ha,hb,he,rfl⟩
theorem GR.loc {r:Rp sh α} {t:TypeId} {V V':Know} {s:SlV} {l:List α} {f:List Nat} (h:GR r t V s l f) (hb:∀ b∈f,V' b=V b):GR r t V' s l f:=by
 obtain⟨h1,h2,h3⟩:=h
 refine⟨h1,h2,?_⟩
 rcases h3 with h3 | ⟨b,fps,cs,post,ha,hv,hp,he,rfl⟩
 ·exact .inl h3
 ·exact .inr ⟨b,fps,cs,post,ha,by rw [hb b (by simp),hv],hp,he.loc fun x hx=>hb x (by simp [hx]),rfl⟩
theorem GR.le {r:Rp sh α} {t:TypeId} {V V':Know} {s:SlV} {l:List α} {f:List Nat} (h:GR r t V s l f) (hle:V.le V'):GR r t V' s l f:=by
 obtain⟨h1,h2,h3⟩:=h
 refine⟨h1,h2,?_⟩
 rcases h3 with h3 | ⟨b,fps,cs,post,ha,hb,hp,he,rfl⟩
 ·exact .inl h3
 ·exact .inr ⟨b,fps,cs,post,ha,hle _ _ hb,hp,he.le hle,rfl⟩
def CopyI (e:Rp sh α) (t:TypeId) (V0:Know) (l:List α) (i:Int) (s:SlV) (V:Know):Prop :=
 V0.le V∧∃ (k:Nat) (f:List Nat),i=(k:Int)∧k≤l.length∧GR e t V s (l.take k) f∧Own V0 V f
theorem CopyI.start {e:Rp sh α} {t:TypeId} {V:Know} {l:List α}:CopyI e t V l 0 ⟨none,0,0⟩ V:=⟨Know.le.refl _,0,[],rfl,Nat.zero_le _,by simpa using GR.nil,Own.nil⟩
theorem CopyI.fin {e:Rp sh α} {t:TypeId} {V0 V:Know} {l:List α} {i:Int} {s:SlV} (h:CopyI e t V0 l i s V) (hl:l.length≤9223372036854775807) (hi:¬ i<(l.length:Int)) :
  V0.le V∧∃ f,LR e V s l f∧Own V0 V f:=by
 obtain⟨h1,k,f,rfl,hk,hg,ho⟩:=h
 obtain rfl:k=l.length:=by omega
 rw [List.take_length] at hg
 exact⟨h1,f,hg.lr hl,ho⟩
end
end Go.Proofs.YtagkjnpggkmehaaGreatDoor
namespace Go.Proofs.YtagkjnpggkmehaaGreatDoor
open Sx
theorem setl_skip {x y vs:List Value} {n:Nat}:setl (x++y) (x.length+n) vs=x++setl y n vs:=by
 simp only [setl,Nat.add_assoc]
 rw [List.take_length_add_append,List.drop_length_add_append,List.append_assoc,List.append_assoc,List.append_assoc]
theorem setl_head {x y vs:List Value} {n:Nat} (h:n+vs.length≤x.length):setl (x++y) n vs=setl x n vs++y:=by
 simp only [setl]
 rw [List.take_append_of_le_length (by omega),List.drop_append_of_le_length h,List.append_assoc,List.append_assoc,List.append_assoc]
section
variable {sh:List Sc} {α:Type}
theorem flat_set {c':Scs sh} {vs:List Value} {k:Nat}:∀ {cs:List (Scs sh)} {i:Nat} (hi:i<cs.length) (post:List Value),k+vs.length≤sh.length→Scs.vals sh c'=setl (Scs.vals sh cs[i]) k vs →
  setl (cs.flatMap (Scs.vals sh)++post) (i*sh.length+k) vs=(cs.set i c').flatMap (Scs.vals sh)++post
 | c :: cs,0,_,post,hk,e=>by
  have e:Scs.vals sh c'=setl (Scs.vals sh c) k vs:=e
  rw [List.flatMap_cons,List.set_cons_zero,List.flatMap_cons,Nat.zero_mul,Nat.zero_add,List.append_assoc,setl_head (by rw [vals_len]; exact hk),← e,List.append_assoc]
 | c :: cs,i+1,hi,post,hk,e=>by
  have e2:(i+1)*sh.length+k=(Scs.vals sh c).length+(i*sh.length+k):=by rw [vals_len,Nat.add_mul]; omega
  rw [List.flatMap_cons,List.append_assoc,e2,setl_skip,flat_set (cs:=cs) (by simpa using hi) post hk e,List.set_cons_succ,List.flatMap_cons,List.append_assoc]
theorem Els.set {r:Rp sh α} {V:Know} {c':Scs sh} {x':α} {fx:List Nat} (hx:r.R V c' x' fx) (nx:fx.Nodup):∀ {cs:List (Scs sh)} {l:List α} {fp:List Nat} {i:Nat},Els r V cs l fp→fp.Nodup→(∀ b∈fx,b ∉ fp)→i<l.length →
  ∃ fp',Els r V (cs.set i c') (l.set i x') fp'∧fp'.Nodup∧∀ b∈fp',b∈fp∨b∈fx
 | c :: cs,x :: l,_,0,⟨f,g,rfl,h1,h2⟩,nd,dj,_=>by
  have n2:=(List.nodup_append.1 nd).2.1
  refine⟨fx++g,⟨fx,g,rfl,hx,h2⟩,List.nodup_append.2 ⟨nx,n2,fun a ha b hb e=>dj a ha (by subst e; simp [hb])⟩,fun b hb=>?_⟩
  rcases List.mem_append.1 hb with h | h
  ·exact .inr h
  ·exact .inl (by simp [h])
 | c :: cs,x :: l,_,i+1,⟨f,g,rfl,h1,h2⟩,nd,dj,hi=>by
  obtain⟨n1,n2,n3⟩:=List.nodup_append.1 nd
  obtain⟨g',k1,k2,k3⟩:=Els.set hx nx (i:=i) h2 n2 (fun b hb hg=>dj b hb (by simp [hg])) (by simpa using hi)
  refine⟨f++g',⟨f,g',rfl,h1,k1⟩,List.nodup_append.2 ⟨n1,k2,fun a ha b hb e=>?_⟩,fun b hb=>?_⟩
  ·subst e
   rcases k3 a hb with h | h
   ·exact n3 a ha a h rfl
   ·exact dj a h (by simp [ha])
  ·rcases List.mem_append.1 hb with h | h
   ·exact .inl (by simp [h])
   ·rcases k3 b h with h | h
    ·exact .inl (by simp [h])
    ·exact .inr h
 | [],[],_,_,_,_,_,h=>by simp at h
 | [],_ :: _,_,_,h,_,_,_=>h.elim
 | _ :: _,[],_,_,h,_,_,_=>h.elim
theorem Own.perm {V V':Know} {f g:List Nat} (h:Own V V' f) (p:g.Perm f):Own V V' g:=⟨p.nodup_iff.2 h.1,fun b hb=>h.2.1 b (p.mem_iff.1 hb),fun b hb=>h.2.2 b (p.mem_iff.1 hb)⟩
theorem Own.sub {V V':Know} {f g:List Nat} (h:Own V V' f) (s:g.Sublist f):Own V V' g:=⟨h.1.sublist s,fun b hb=>h.2.1 b (s.subset hb),fun b hb=>h.2.2 b (s.subset hb)⟩
theorem LR.putRow {r:Rp sh α} {V0 V:Know} {s:SlV} {l:List α} {f:List Nat} (h:LR r V s l f) (hO:Own V0 V f) {i:Nat} (hi:i<l.length) :
  ∃ b o cs u c fc,s.a=some ⟨b,o,none⟩∧V b=some (cs,(u,(0,0)))∧o+i*sh.length+sh.length≤cs.length∧loadV V ((⟨b,o,none⟩:Addr).add (i*sh.length)) sh.length=some (Scs.vals sh c)∧r.R V c l[i] fc∧(∀ y∈fc,y∈f) ∧
   ∀ {V2:Know} {c':Scs sh} {x':α} {fx:List Nat} {k:Nat} {vs:List Value},V.le V2→V0.le V2→r.R V2 c' x' fx→Own V0 V2 (f++fx)→k+vs.length≤sh.length→Scs.vals sh c'=setl (Scs.vals sh c) k vs →
    ∃ f',LR r (kset V2 b (setl cs (o+i*sh.length+k) vs,(u,(0,0)))) s (l.set i x') f'∧Own V0 (kset V2 b (setl cs (o+i*sh.length+k) vs,(u,(0,0)))) f'∧V0.le (kset V2 b (setl cs (o+i*sh.length+k) vs,(u,(0,0))))∧b∈f∧∀ y∈f',y∈f∨y∈fx:=by
 have h0:=h
 obtain⟨h1,h2,h3,h4⟩:=h
 rcases h4 with ⟨z,_,_⟩ | ⟨b,pre,post,t,fps,cs,ha,hb,he,rfl⟩
 ·omega
 obtain⟨cw,tw,hw⟩:=hO.2.2 b (by simp)
 obtain rfl:t=(tw,(0,0)):=by
  rw [hb] at hw
  simp only [Option.some.injEq,Prod.mk.injEq] at hw
  exact hw.2
 have hcl:=he.len
 have hi2:i<cs.length:=by omega
 obtain⟨hi3,fc,g1,g2⟩:=he.at hi
 have hfl:(cs.flatMap (Scs.vals sh)).length=cs.length*sh.length:=flat_len cs
 have hmul:i*sh.length+sh.length≤cs.length*sh.length:=by
  have:=Nat.mul_le_mul_right sh.length (show i+1≤cs.length by omega)
  rw [Nat.add_mul,Nat.one_mul] at this
  exact this
 refine⟨b,pre.length,_,tw,cs[i],fc,ha,hb,?_,?_,g1,fun y hy=>by simp [g2 y hy],?_⟩
 ·simp only [List.length_append]; omega
 ·simp only [addr_add_eq,loadV,hb]
  rw [cutv_skip]
  exact cutv_flat (vals_len sh) hi2 post
 intro V2 c' x' fx k vs hle hle0 hx hO2 hk hc
 have e1:setl (pre++(cs.flatMap (Scs.vals sh)++post)) (pre.length+i*sh.length+k) vs=pre++((cs.set i c').flatMap (Scs.vals sh)++post):=by
  rw [Nat.add_assoc,setl_skip,flat_set hi2 post hk hc]
 rw [e1]
 obtain⟨n1,n2,n3⟩:=List.nodup_append.1 hO2.1
 have nb:b ∉ fps:=(List.nodup_cons.1 n1).1
 have nbx:b ∉ fx:=fun hm=>n3 b (by simp) b hm rfl
 have hoff:∀ (y:List Value × KTy) (g:List Nat),b ∉ g→∀ b'∈g,kset V2 b y b'=V2 b':=fun y g hg b' hb'=>by
  simp only [kset]; rw [if_neg (fun e:b'=b=>hg (by rw [← e]; exact hb'))]
 obtain⟨fp',k1,k2,k3⟩:=Els.set ((r.loc hx (hoff (pre++((cs.set i c').flatMap (Scs.vals sh)++post),(tw,(0,0))) fx nbx))) n2 (i:=i) ((he.le hle).loc (hoff _ fps nb)) (List.nodup_cons.1 n1).2 (fun y hy hm=>n3 y (by simp [hm]) y hy rfl) hi
 have nb':b ∉ fp':=fun hm=>by
  rcases k3 b hm with h | h
  ·exact nb h
  ·exact nbx h
 have hin:∀ y∈fp',y∈(b :: fps)++fx:=fun y hy=>by
  rcases k3 y hy with h | h
  ·simp [h]
  ·simp [h]
 refine⟨b :: fp',⟨by rw [List.length_set]; exact h1,h2,h3,.inr ⟨b,pre,post,_,fp',cs.set i c',ha,kset_same,k1,rfl⟩⟩,⟨List.nodup_cons.2 ⟨nb',k2⟩,fun y hy=>?_,fun y hy=>?_⟩,fun y z hy=>?_,by simp,fun y hy=>?_⟩
 ·rcases List.mem_cons.1 hy with rfl | hy
  ·exact hO2.2.1 y (by simp)
  ·exact hO2.2.1 y (hin y hy)
 ·rcases List.mem_cons.1 hy with rfl | hy
  ·exact⟨_,_,kset_same⟩
  ·obtain⟨u,v,huv⟩:=hO2.2.2 y (hin y hy)
   exact⟨u,v,by rw [kset_other (fun e=>nb' (by rw [← e]; exact hy))]; exact huv⟩
 ·have hne:y≠b:=fun e=>by
   subst e
   rw [hO2.2.1 y (by simp)] at hy; cases hy
  rw [kset_other hne]; exact hle0 y z hy
 ·rcases List.mem_cons.1 hy with rfl | hy
  ·exact .inl (by simp)
  ·rcases k3 y hy with h | h
   ·exact .inl (by simp [h])
   ·exact .inr h
end
end Go.Proofs.YtagkjnpggkmehaaGreatDoor
