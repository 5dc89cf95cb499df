/-
  Mathematics of decimals: another scale, the least scale, texts that tell the scale. No program in sight.
-/
import Derived.Test.YtpkmhkbkohppiaaGreatDoorShelf
import Derived.Lib.AppendIntMem
import Derived.WalkKit
import Derived.Deep.RegionWith
import Derived.Laws.BytesArg
import Derived.Test.YtpkmhkbkohppiaaGreatDoorDivM
namespace Go.Proofs.YtpkmhkbkohppiaaGreatDoor
open Sx Go.RowKit
set_option maxRecDepth 100000
noncomputable def okT (p:Prop) (t:ByteArray):ByteArray:=by classical exact if p then t else ⟨#[]⟩
theorem okT_pos {p:Prop} {t:ByteArray} (h:p):okT p t=t:=by unfold okT; rw [if_pos h]
theorem okT_neg {p:Prop} {t:ByteArray} (h:¬ p):okT p t=⟨#[]⟩:=by unfold okT; rw [if_neg h]
abbrev TxPost (V:Know) (t:ByteArray):Know→Value→Prop:=fun V' r=>V.le V'∧r=.string t
def hasTab (V:Know):Prop:=∃ t,V 4=some (Go.Lib.pow10Tab.map fun z=>Value.int .u64 z,t)
def HtS (_:Know):Prop:=True
def HtI (V:Know):Prop:=hasCur V∧hasTab V
theorem HtS.le {V V':Know} (h:HtS V) (_:V.le V'):HtS V':=h
theorem HtI.le {V V':Know} (h:HtI V) (hle:V.le V'):HtI V':=⟨h.1.le hle,let ⟨t,ht⟩:=h.2; ⟨t,hle _ _ ht⟩⟩
theorem HtS.c {V:Know} (_:HtS V):HcS V:=trivial
theorem HtI.c {V:Know} (h:HtI V):HcI V:=h.1
theorem by_digit {k:Int} (h0:0≤k) (h9:k≤9):bytesD [.int .u8 (IntKind.u8.wrap (IntKind.i64.wrap (48+k)))]=dig k.toNat:=by
 rw [wrap_i64 (by omega)]
 have e:IntKind.u8.wrap (48+k)=48+k:=by
  show(48+k) % 2 ^ 8=48+k
  exact Int.emod_eq_of_lt (by omega) (by omega)
 rw [e]
 have e2:(48+k).toNat=48+k.toNat:=by omega
 show(⟨#[UInt8.ofNat (48+k).toNat]⟩:ByteArray)=_
 rw [e2]; rfl
theorem cS_IntText (V:Know) (k:Int) (h0:0≤k) (h1:k≤9223372036854775807):CallX Tryz.prog V 52 [.int .i64 k] (TxPost V (numT k)):=by
 refine CallX.of_fits Tryz.mix (fS_IntText _) fun _=>?_
 simp only [tS_IntText,T.wp]
 have hnn:¬ k<0:=by omega
 refine⟨fun h=>absurd (of_decide_eq_true h) hnn,fun _=>?_⟩
 have hk:=numT_len k (by omega) h1
 refine⟨fun y V'=>V.le V'∧0≤(y.1:Int)∧(y.1:Int)≤k∧numT (y.1:Int)++y.2.1=numT k,fun y _=>(y.1:Int).toNat,⟨(k,⟨#[]⟩,()),rfl,Know.le.refl _,h0,Int.le_refl _,ByteArray.append_empty⟩,?_⟩
 rintro⟨(j:Int),out,u⟩ V' ⟨hle,hj,hjk,hd⟩
 replace hj:0≤j:=hj
 replace hjk:j≤k:=hjk
 replace hd:numT j++out=numT k:=hd
 have hsz:(numT j).size+ByteArray.size out≤21:=by
  have:=congrArg ByteArray.size hd
  rw [ByteArray.size_append] at this
  omega
 refine⟨fun hp=>?_,fun hz=>?_⟩
 ·have hp':j > 9:=of_decide_eq_true hp
  have et:Int.tmod j 10=j % 10:=Int.tmod_eq_emod_of_nonneg (by omega)
  have eq:Int.tdiv j 10=j / 10:=Int.tdiv_eq_ediv_of_nonneg (by omega)
  rw [et,eq]
  refine⟨by decide,fun b cap spare hb hc _=>?_⟩
  have hV:=kset_le (x:=([Value.int .u8 (IntKind.u8.wrap (IntKind.i64.wrap (48+j % 10)))]++spare,((5:TypeId),((0,0):Nat × Nat)))) hb
  have ed:=by_digit (k:=j % 10) (by omega) (by omega)
  have en:=numT_big hp'
  refine⟨[.int .u8 (IntKind.u8.wrap (IntKind.i64.wrap (48+j % 10)))],.inr ⟨_,rfl,?_⟩,rfl,by simp [bytesOf,bytesGo],?_,by decide,_,rfl,(j / 10,dig (j % 10).toNat++out,()),?_,⟨hle.trans hV,?_,?_,?_⟩,?_⟩
  ·simp only [loadV,kset_same]
   exact cutv_head (x:=[Value.int .u8 (IntKind.u8.wrap (IntKind.i64.wrap (48+j % 10)))])
  ·rw [ed,dig_size]
   show 1+ByteArray.size out≤_
   omega
  ·rw [ed,wrap_i64 (by omega)]; rfl
  ·show(0:Int)≤j / 10
   omega
  ·show j / 10≤k
   omega
  ·show numT (j / 10)++(dig (j % 10).toNat++out)=numT k
   rw [← ByteArray.append_assoc,← en,hd]
  ·show(j / 10).toNat<j.toNat
   omega
 ·have hz':¬ j > 9:=of_decide_eq_false hz
  intro b cap spare hb hc _
  have hV:=kset_le (x:=([Value.int .u8 (IntKind.u8.wrap (IntKind.i64.wrap (48+j)))]++spare,((5:TypeId),((0,0):Nat × Nat)))) hb
  have ed:=by_digit (k:=j) (by omega) (by omega)
  have en:=numT_small hj (by omega)
  refine⟨[.int .u8 (IntKind.u8.wrap (IntKind.i64.wrap (48+j)))],.inr ⟨_,rfl,?_⟩,rfl,by simp [bytesOf,bytesGo],?_,hle.trans hV,?_⟩
  ·simp only [loadV,kset_same]
   exact cutv_head (x:=[Value.int .u8 (IntKind.u8.wrap (IntKind.i64.wrap (48+j)))])
  ·rw [ed,dig_size]
   show 1+ByteArray.size out≤_
   omega
  ·rw [ed,← en,hd]; rfl
theorem cI_Itoa {V:Know} (hV:HtI V) (k:Int) (h0:-9223372036854775808≤k) (h1:k≤9223372036854775807):CallX Tryz.prog V 133 [.int .i64 k] (fun V' r=>V'=V∧r=.string (numT k)):=by
 obtain⟨t,ht⟩:=hV.2
 refine CallX.of_calls ⟨_,Tryz.func133,by kernel_rfl,by kernel_rfl⟩ fun w hw=>?_
 refine(Tryz.strconv_Itoa k h0 h1 w (tab_of (by kernel_rfl) ht hw)).mono ?_
 rintro e w' ⟨rfl,n,os,rfl⟩
 exact⟨rfl,Go.Lib.below_grow _ _ (Nat.le_refl _) _ _⟩
theorem cI_IntText {V:Know} (hV:HtI V) (k:Int) (h0:-9223372036854775808≤k) (h1:k≤9223372036854775807):CallX Tryz.prog V 210 [.int .i64 k] (TxPost V (numT k)):=by
 refine CallX.of_fits Tryz.mix (fI_IntText _) fun _=>?_
 simp only [tI_IntText,T.wp]
 refine(cI_Itoa hV k h0 h1).mono ?_
 rintro V1 _ ⟨rfl,rfl⟩
 exact⟨nofun,_,rfl,Know.le.refl _,rfl⟩
theorem cS_Pad (V:Know) (s:ByteArray) (n:Int):CallX Tryz.prog V 91 [.string s,.int .i64 n] (TxPost V (padB s n)):=by
 refine CallX.of_fits Tryz.mix (fS_Pad _ _) fun _=>?_
 simp only [tS_Pad,T.wp]
 refine⟨fun h=>⟨Know.le.refl _,?_⟩,fun h=>?_⟩
 ·have h':n > 2000:=of_decide_eq_true h
  unfold padB
  rw [if_pos h']; rfl
 ·have h':¬ n > 2000:=of_decide_eq_false h
  refine⟨fun y V'=>V'=V∧padB y.1 n=padB s n,fun y _=>(n-(ByteArray.size y.1:Int)).toNat,⟨(s,()),rfl,rfl,rfl⟩,?_⟩
  rintro⟨t,u⟩ V' ⟨rfl,ht⟩
  replace ht:padB t n=padB s n:=ht
  refine⟨fun hp=>?_,fun hz=>⟨Know.le.refl _,?_⟩⟩
  ·have hp':(ByteArray.size t:Int)<n:=of_decide_eq_true hp
   refine⟨?_,_,rfl,((⟨#[48]⟩:ByteArray)++t,()),rfl,⟨rfl,?_⟩,?_⟩
   ·show 1+ByteArray.size t≤_
    omega
   ·show padB ((⟨#[48]⟩:ByteArray)++t) n=padB s n
    rw [← padB_step h' hp',ht]
   ·show(n-(((⟨#[48]⟩:ByteArray)++t).size:Int)).toNat<(n-(ByteArray.size t:Int)).toNat
    rw [ByteArray.size_append,show(⟨#[48]⟩:ByteArray).size=1 from rfl]
    omega
  ·have hz':¬ (ByteArray.size t:Int)<n:=of_decide_eq_false hz
   rw [← ht,padB_long (by omega)]; rfl
theorem cI_Pad (V:Know) (s:ByteArray) (n:Int):CallX Tryz.prog V 188 [.string s,.int .i64 n] (TxPost V (padB s n)):=by
 refine CallX.of_fits Tryz.mix (fI_Pad _ _) fun _=>?_
 simp only [tI_Pad,T.wp]
 refine⟨fun h=>⟨Know.le.refl _,?_⟩,fun h=>⟨fun h2=>⟨Know.le.refl _,?_⟩,fun h2=>?_⟩⟩
 ·have h':(s.size:Int)≥n:=of_decide_eq_true h
  rw [padB_long h']; rfl
 ·have h':n > 2000:=of_decide_eq_true h2
  unfold padB
  rw [if_pos h']; rfl
 have h1':¬ (s.size:Int)≥n:=of_decide_eq_false h
 have h2':¬ n > 2000:=of_decide_eq_false h2
 obtain⟨c,hc⟩:∃ c:Nat,n-(s.size:Int)=c:=⟨(n-(s.size:Int)).toNat,by omega⟩
 rw [hc,wrap_i64 (by omega)]
 have hcall:CallX Tryz.prog V 209 [.string ⟨#[48]⟩,.int .i64 c] (fun V' r=>V'=V∧r=.string (zeros c)):=by
  refine CallX.of_calls ⟨_,Tryz.func209,by kernel_rfl,by kernel_rfl⟩ fun w _=>?_
  refine(Tryz.strings_Repeat ⟨#[48]⟩ c w (by omega) (by show 1*c≤_; omega)).mono ?_
  rintro e w' ⟨rfl,hb⟩
  refine⟨?_,hb⟩
  show Ending.returned (.string ⟨(Go.Lib.repeatL [48] c).toArray⟩)=_
  rw [repeat_zeros]; rfl
 refine hcall.mono ?_
 rintro V1 _ ⟨rfl,rfl⟩
 refine⟨nofun,zeros c,rfl,?_,Know.le.refl _,?_⟩
 ·rw [zeros_size]; omega
 ·unfold padB
  rw [if_neg h2',hc,Int.toNat_natCast]; rfl
def natTree (x0:SlV) (gi gp:Nat):T :=
 .br ((x0.n:Int) == (0:Int)) (
  .ret [.string ({ data:={ toList:=[(48:UInt8)]:Array UInt8 }:ByteArray })]) <|
 .el (x0.a) (x0.n) (Go.IntKind.i64.wrap ((x0.n:Int)-(1:Int))) fun y1 =>
 .ld false (y1.add ((Go.IntKind.i64.wrap ((x0.n:Int)-(1:Int))).toNat*(1:Nat))) (.o (.i .i64)) fun y2 =>
 .call false gi [.int .i64 (y2)] (.v (.o (.s))) fun y3 =>
 .lp [.o (.o (.s)),.o (.o (.i .i64))] [.v (.string (y3)),.v (.int .i64 (Go.IntKind.i64.wrap ((x0.n:Int)-(2:Int))))] fun y4 =>
 .br (decide (y4.2.fst≥(0:Int))) (
  .el (x0.a) (x0.n) (y4.2.fst) fun y5 =>
  .ld false (y5.add (Int.toNat y4.2.fst*(1:Nat))) (.o (.i .i64)) fun y6 =>
  .call false gi [.int .i64 (y6)] (.v (.o (.s))) fun y7 =>
  .call false gp [.string (y7),.int .i64 ((9:Int))] (.v (.o (.s))) fun y8 =>
  .rq (ByteArray.size y4.fst+y8.size≤(9223372036854775807:Nat)) <|
  .nx 0 [.v (.string (y4.fst++y8)),.v (.int .i64 (Go.IntKind.i64.wrap (y4.2.fst-(1:Int))))]) <|
 .ret [.string (y4.fst)]
theorem natTree_wp {V:Know} {gi gp:Nat} {s:SlV} {l:List Lim} {f:List Nat} (h:LR rI V s l f) (hl:Lims l) (h50:l.length≤50) {K:Know→List Value→Prop}
  (ci:∀ V' k,V.le V'→0≤k→k<1000000000→CallX Tryz.prog V' gi [.int .i64 k] (TxPost V' (numT k)))
  (cp:∀ V' t n,CallX Tryz.prog V' gp [.string t,.int .i64 n] (TxPost V' (padB t n))) (hK:∀ V',V.le V'→K V' [.string (natT l)]):(natTree s gi gp).wp Tryz.prog K V V []:=by
 simp only [natTree,T.wp]
 have hn:=h.1
 refine⟨fun h0=>?_,fun h0=>?_⟩
 ·have h0':(s.n:Int)=0:=by simpa using h0
  have:=hK V (Know.le.refl _)
  unfold natT at this
  rw [if_pos (by omega)] at this
  exact this
 have h0':¬ (s.n:Int)=0:=by simpa using h0
 have ht:natT l=natGo l (l.length-1) (numT (limb l (l.length-1))):=by
  unfold natT
  rw [if_neg (by omega)]
 have e1:IntKind.i64.wrap ((s.n:Int)-1)=((l.length-1:Nat):Int):=by rw [wrap_i64 (by omega)]; omega
 have e2:IntKind.i64.wrap ((s.n:Int)-2)=((l.length-1:Nat):Int)-1:=by rw [wrap_i64 (by omega)]; omega
 rw [e1,e2]
 have hi:l.length-1<l.length:=by omega
 obtain⟨b,o,a1,l1⟩:=h.int hi
 refine⟨_,a1,(by omega),(by omega),_,l1,?_⟩
 have hb1:=hl (l.length-1)
 rw [limb_lt hi] at hb1
 refine(ci V _ (Know.le.refl _) hb1.1 hb1.2).mono ?_
 rintro V1 _ ⟨le1,rfl⟩
 refine⟨nofun,_,rfl,?_⟩
 rw [← limb_lt hi]
 have hsz0:=limb_num hl (l.length-1)
 refine⟨fun y V'=>V.le V'∧∃ i:Nat,(y.2.1:Int)=(i:Int)-1∧i≤l.length-1∧natGo l i y.1=natT l∧ByteArray.size y.1+21*i≤21*l.length,fun y _=>((y.2.1:Int)+1).toNat,
  ⟨(numT (limb l (l.length-1)),((l.length-1:Nat):Int)-1,()),rfl,le1,l.length-1,rfl,Nat.le_refl _,ht.symm,(by show(numT (limb l (l.length-1))).size+_≤_; omega)⟩,?_⟩
 rintro⟨t,(q:Int),u⟩ V' ⟨hle,i,hq,hil,hg,hsz⟩
 replace hq:q=(i:Int)-1:=hq
 replace hg:natGo l i t=natT l:=hg
 replace hsz:ByteArray.size t+21*i≤21*l.length:=hsz
 subst hq
 refine⟨fun hp=>?_,fun hz=>?_⟩
 ·have hp':(i:Int)-1≥0:=of_decide_eq_true hp
  obtain⟨j,rfl⟩:∃ j,i=j+1:=⟨i-1,by omega⟩
  have ej:((j+1:Nat):Int)-1=(j:Int):=by omega
  rw [ej]
  have hj:j<l.length:=by omega
  obtain⟨b,o,a1,l1⟩:=(h.le hle).int hj
  have hb2:=hl j
  rw [limb_lt hj] at hb2
  refine⟨_,a1,(by omega:(0:Int)≤(j:Int)),(by omega:(j:Int)<(s.n:Int)),_,l1,(ci V' _ hle hb2.1 hb2.2).mono ?_⟩
  rintro V2 _ ⟨le2,rfl⟩
  refine⟨nofun,_,rfl,(cp V2 _ _).mono ?_⟩
  rintro V3 _ ⟨le3,rfl⟩
  rw [← limb_lt hj]
  have hps:=part_size hl j
  refine⟨nofun,_,rfl,?_,_,rfl,(t++padB (numT (limb l j)) 9,(j:Int)-1,()),?_,⟨hle.trans (le2.trans le3),j,rfl,by omega,?_,?_⟩,?_⟩
  ·show ByteArray.size t+(padB (numT (limb l j)) 9).size≤_
   omega
  ·have ew:IntKind.i64.wrap ((j:Int)-1)=(j:Int)-1:=wrap_i64 (by omega)
   show [LV.v (.string (t++padB (numT (limb l j)) 9)),LV.v (.int .i64 (IntKind.i64.wrap ((j:Int)-1)))]=_
   rw [ew]; rfl
  ·show natGo l j (t++padB (numT (limb l j)) 9)=natT l
   rw [← hg]; rfl
  ·show(t++padB (numT (limb l j)) 9).size+_≤_
   rw [ByteArray.size_append]
   omega
  ·show(((j:Int)-1)+1).toNat<(((j:Int))+1).toNat
   omega
 ·have hz':¬ (i:Int)-1≥0:=of_decide_eq_false hz
  have hi0:i=0:=by omega
  subst hi0
  have:=hK V' hle
  rw [← hg] at this
  exact this
theorem cS_nat {V:Know} (_:HtS V) (s:SlV) (l:List Lim) (f:List Nat) (h:LR rI V s l f) (ok:NatOkP l):CallX Tryz.prog V 92 [Sc.val .l s] (TxPost V (natT l)):=by
 refine CallX.of_fits Tryz.mix (fS_NatText _) fun _=>?_
 unfold tS_NatText
 change CallX _ _ _ _ (fun V' r=>_∧∃ y,_∧(_→T.wp _ _ _ _ _ _)∧(_→T.wp _ _ (natTree s _ _) _ _ _))
 refine(cS_NatOk V s l f h).mono ?_
 rintro _ r ⟨rfl,e,rfl,he⟩
 refine⟨nofun,e,rfl,fun hf=>?_,fun _=>?_⟩
 ·have:=he.2 ok
  simp [this] at hf
 ·exact natTree_wp h ok.1.1 ok.2 (fun V' k _ h0 h1=>cS_IntText V' k h0 (by omega)) cS_Pad fun V' hle=>⟨hle,rfl⟩
theorem cI_nat {V:Know} (hV:HtI V) (s:SlV) (l:List Lim) (f:List Nat) (h:LR rI V s l f) (ok:NatOkP l):CallX Tryz.prog V 189 [Sc.val .l s] (TxPost V (natT l)):=by
 refine CallX.of_fits Tryz.mix (fI_natText _) fun _=>?_
 exact natTree_wp h ok.1.1 ok.2 (fun V' k hle h0 h1=>cI_IntText (hV.le hle) k (by omega) (by omega)) cI_Pad fun V' hle=>⟨hle,rfl⟩
theorem cS_DecText {V:Know} (hV:HtS V) (c0:Bool) (c1:SlV) (x:Int) (l:List Lim) (f:List Nat) (h:LR rI V c1 l f) :
  CallX Tryz.prog V 63 [qv0 (c0,c1,x,())] (TxPost V (okT (DecOkP c0 l x) (decT c0 l x))):=by
 refine CallX.of_fits Tryz.mix (fS_DecText _) fun _=>?_
 simp only [tS_DecText,T.wp]
 refine(cS_DecOk V c0 c1 x l f h).mono ?_
 rintro _ r ⟨rfl,e,rfl,he⟩
 refine⟨nofun,e,rfl,fun hf=>⟨Know.le.refl _,by rw [okT_neg (fun k=>by rw [he.2 k] at hf; cases hf)]; rfl⟩,fun ht=>?_⟩
 have ok:=he.1 (by simpa using ht)
 rw [okT_pos ok]
 refine(cS_nat hV c1 l f h ok.1.1).mono ?_
 rintro V1 _ ⟨le1,rfl⟩
 have hx30:=ok.2.2
 have e1:IntKind.i64.wrap (x+1)=x+1:=wrap_i64 (by omega)
 rw [e1]
 refine⟨fun _=>le1,_,rfl,(cS_Pad V1 (natT l) (x+1)).mono ?_⟩
 rintro V2 _ ⟨le2,rfl⟩
 have hle:=le1.trans le2
 refine⟨fun _=>le2,_,rfl,?_⟩
 have hs1:=natT_size ok.1.1.1.1
 have h6:=ok.2.1
 have hp:=padB_size (natT l) (x+1)
 have hd:decT c0 l x=if c0=true then (⟨#[45]⟩:ByteArray)++pointT (padB (natT l) (x+1)) x else pointT (padB (natT l) (x+1)) x:=rfl
 rw [hd]
 generalize padB (natT l) (x+1)=p at hp ⊢
 refine⟨fun hx=>?_,fun hx=>?_⟩
 ·have hx':x > 0:=of_decide_eq_true hx
  have e2:IntKind.i64.wrap ((p.size:Int)-x)=((p.size-x.toNat:Nat):Int):=by rw [wrap_i64 (by omega)]; omega
  rw [e2]
  have hq:pointT p x=(p.extract 0 (p.size-x.toNat)++(⟨#[46]⟩:ByteArray))++p.extract (p.size-x.toNat) p.size:=by
   unfold pointT
   rw [if_pos hx']
  have hqs:=pointT_size p x
  rw [hq] at hqs ⊢
  simp only [Int.toNat_natCast,Int.toNat_zero]
  have s1:(p.extract 0 (p.size-x.toNat)).size≤p.size:=by rw [ByteArray.size_extract]; omega
  refine⟨by omega,?_,by omega,?_,fun hc=>⟨?_,hle,?_⟩,fun hc=>⟨hle,?_⟩⟩
  ·show(p.extract 0 (p.size-x.toNat)).size+1≤_
   omega
  ·rw [← ByteArray.size_append]
   exact Nat.le_trans hqs (by omega)
  ·refine Nat.le_trans (Nat.add_le_add_left hqs _) ?_
   show 1+(p.size+1)≤_
   omega
  ·have hc':c0=true:=hc
   rw [if_pos hc']; rfl
  ·have hc':¬ c0=true:=by simpa using hc
   rw [if_neg hc']; rfl
 ·have hx':¬ x > 0:=of_decide_eq_false hx
  have hq:pointT p x=p:=by
   unfold pointT
   rw [if_neg hx']
  rw [hq]
  refine⟨fun hc=>⟨?_,hle,?_⟩,fun hc=>⟨hle,?_⟩⟩
  ·show 1+p.size≤_
   omega
  ·have hc':c0=true:=hc
   rw [if_pos hc']; rfl
  ·have hc':¬ c0=true:=by simpa using hc
   rw [if_neg hc']; rfl
theorem cI_DecText {V:Know} (hV:HtI V) (c0:Bool) (c1:SlV) (x:Int) (l:List Lim) (f:List Nat) (h:LR rI V c1 l f) :
  CallX Tryz.prog V 158 [qv0 (c0,c1,x,())] (TxPost V (okT (DecOkP c0 l x) (decT c0 l x))):=by
 refine CallX.of_fits Tryz.mix (fI_DecText _) fun _=>?_
 simp only [tI_DecText,T.wp]
 refine(cI_DecOk V c0 c1 x l f h).mono ?_
 rintro _ r ⟨rfl,e,rfl,he⟩
 refine⟨nofun,e,rfl,fun hf=>⟨Know.le.refl _,by rw [okT_neg (fun k=>by rw [he.2 k] at hf; cases hf)]; rfl⟩,fun ht=>?_⟩
 have ok:=he.1 (by simpa using ht)
 rw [okT_pos ok]
 refine(cI_nat hV c1 l f h ok.1.1).mono ?_
 rintro V1 _ ⟨le1,rfl⟩
 have hx30:=ok.2.2
 have e1:IntKind.i64.wrap (x+1)=x+1:=wrap_i64 (by omega)
 rw [e1]
 refine⟨fun _=>le1,_,rfl,(cI_Pad V1 (natT l) (x+1)).mono ?_⟩
 rintro V2 _ ⟨le2,rfl⟩
 have hle:=le1.trans le2
 refine⟨fun _=>le2,_,rfl,?_⟩
 have hs1:=natT_size ok.1.1.1.1
 have h6:=ok.2.1
 have hp:=padB_size (natT l) (x+1)
 have hd:decT c0 l x=if c0=true then (⟨#[45]⟩:ByteArray)++pointT (padB (natT l) (x+1)) x else pointT (padB (natT l) (x+1)) x:=rfl
 rw [hd]
 generalize padB (natT l) (x+1)=p at hp ⊢
 refine⟨fun hx=>?_,fun hx=>?_⟩
 ·have hx':x > 0:=of_decide_eq_true hx
  have e2:IntKind.i64.wrap ((p.size:Int)-x)=((p.size-x.toNat:Nat):Int):=by rw [wrap_i64 (by omega)]; omega
  rw [e2]
  have hq:pointT p x=(p.extract 0 (p.size-x.toNat)++(⟨#[46]⟩:ByteArray))++p.extract (p.size-x.toNat) p.size:=by
   unfold pointT
   rw [if_pos hx']
  have hqs:=pointT_size p x
  rw [hq] at hqs ⊢
  simp only [Int.toNat_natCast,Int.toNat_zero]
  have s1:(p.extract 0 (p.size-x.toNat)).size≤p.size:=by rw [ByteArray.size_extract]; omega
  refine⟨by omega,?_,by omega,?_,fun hc=>⟨?_,hle,?_⟩,fun hc=>⟨hle,?_⟩⟩
  ·show(p.extract 0 (p.size-x.toNat)).size+1≤_
   omega
  ·rw [← ByteArray.size_append]
   exact Nat.le_trans hqs (by omega)
  ·refine Nat.le_trans (Nat.add_le_add_left hqs _) ?_
   show 1+(p.size+1)≤_
   omega
  ·have hc':c0=true:=hc
   rw [if_pos hc']; rfl
  ·have hc':¬ c0=true:=by simpa using hc
   rw [if_neg hc']; rfl
 ·have hx':¬ x > 0:=of_decide_eq_false hx
  have hq:pointT p x=p:=by
   unfold pointT
   rw [if_neg hx']
  rw [hq]
  refine⟨fun hc=>⟨?_,hle,?_⟩,fun hc=>⟨hle,?_⟩⟩
  ·show 1+p.size≤_
   omega
  ·have hc':c0=true:=hc
   rw [if_pos hc']; rfl
  ·have hc':¬ c0=true:=by simpa using hc
   rw [if_neg hc']; rfl
end Go.Proofs.YtpkmhkbkohppiaaGreatDoor
namespace Go.Proofs.YtpkmhkbkohppiaaGreatDoor
open Sx Go.RowKit
set_option maxRecDepth 100000
theorem tdiv_low {n:Int} (h:n≤0):n.tdiv 10=-((-n) / 10):=by
 have e:(-(-n)).tdiv 10=-((-n).tdiv 10):=Int.neg_tdiv ..
 rw [Int.neg_neg] at e
 rw [e,Int.tdiv_eq_ediv_of_nonneg (by omega)]
theorem conv_byte (W:World) (b:Nat) (x:Int) (h:W.cell? ⟨b,0,none⟩=some (.int .u8 x)):(convert 97 9 (.slice (some ⟨b,0,none⟩) 1 1)).run Tryz.prog W=.ok (.string (strOfNums [x])) W :=
 run_convert_bytes_arg W 97 5 (by kernel_rfl) (by kernel_rfl) b 0 1 1 [x] rfl (fun i hi=>by
  obtain rfl:i=0:=by omega
  exact h) 9 (by kernel_rfl)
theorem below_cell {W W':World} {v:Value} (h:Below (W.alloc (.cells #[v] 5)).drew.heap.size (W.alloc (.cells #[v] 5)).drew W'):W'.cell? ⟨W.heap.size,0,none⟩=some v:=by
 have h1:=h.block W.heap.size (by simp)
 have h2:(W.alloc (.cells #[v] 5)).drew.heap[W.heap.size]?=some (.cells #[v] 5):=by
  show(W.heap.push _)[W.heap.size]?=_
  exact Array.getElem?_push_size
 rw [h2] at h1
 simp [World.cell?,h1]
theorem below_drew {w w':World} (h:Below w.drew.heap.size w.drew w'):Below w.heap.size w w':=⟨h.os,h.tape,h.output,h.size,h.block⟩
theorem below_ad {w w':World} {o:Obj} (h:Below (w.alloc o).drew.heap.size (w.alloc o).drew w'):Below w.heap.size w w':=by
 have e:(w.alloc o).drew.heap.size=w.heap.size+1:=by show(w.heap.push o).size=_; simp
 refine⟨h.os,h.tape,h.output,?_,fun k hk=>?_⟩
 ·have:=h.size
  omega
 ·exact(h.block k (by omega)).trans (Below.heap_alloc w o k hk)
def IT (k:Nat) (n:Int):Prop:=∀ w,Calls Tryz.prog 52 #[.int .i64 n] w fun e w'=>∃ t:ByteArray,e=.returned (.string t)∧t.size≤k+1∧Below w.heap.size w w'
set_option maxHeartbeats 1000000 in
theorem it_big {k:Nat} {n:Int} (hk:k≤100) (h:n≤-10) (hn:-9223372036854775808≤n) (hrec:IT k (IntKind.i64.wrap (n.tdiv 10))):IT (k+1) n:=by
 intro w
 have e0:decide (n<0)=true:=by simp; omega
 have e1:n.tdiv 10≠0:=by rw [tdiv_low (by omega)]; omega
 have hconv:=conv_byte
 go_enter Tryz.func52,Tryz.ntmps52
 go_wp2
 unfold IT at hrec
 go_region_with (go_at_call 52; refine(hrec _).mono ?_; rintro e w' ⟨t,rfl,ht,hb⟩; have hcat:∀ x:Int,¬ 9223372036854775807<t.size+(strOfNums [x]).size:=(fun x=>by show ¬ _<t.size+1; omega); try have hcell:w'.cell? ⟨w.heap.size,0,none⟩=some _:=below_cell hb)
 all_goals go_wp2
 all_goals (go_ret; refine⟨_,rfl,?_,?_⟩)
 all_goals first
  | (rw [ByteArray.size_append]; show t.size+1≤_; omega)
  | skip
 ·exact(below_drew hb).alloc hb.size _
 ·exact below_ad hb
 ·exact below_ad hb
theorem it_mono {k j:Nat} {n:Int} (h:IT k n) (hk:k≤j):IT j n:=fun w=>(h w).mono fun _ _ ⟨t,h1,h2,h3⟩=>⟨t,h1,by omega,h3⟩
theorem bytes_one {x:Int}:bytesOf [.int .u8 x]≠none:=by simp [bytesOf,bytesGo]
theorem it_small {n:Int} (h:-10<n∧n<0):IT 1 n:=by
 intro w
 have key:CallX Tryz.prog (fun _=>none) 52 [.int .i64 n] (fun _ r=>∃ t:ByteArray,r=.string t∧t.size≤2):=by
  refine CallX.of_fits Tryz.mix (fS_IntText _) fun _=>?_
  simp only [tS_IntText,T.wp]
  refine⟨fun _=>⟨by decide,fun _=>?_,fun hz=>?_⟩,fun hf=>absurd h.2 (of_decide_eq_false hf)⟩
  ·intro b cap spare hb hc _
   refine⟨[.int .u8 (IntKind.u8.wrap (IntKind.i64.wrap (48-n)))],.inr ⟨_,rfl,?_⟩,rfl,bytes_one,?_,_,rfl,?_⟩
   ·simp only [loadV,kset_same]
    exact cutv_head (x:=[Value.int .u8 (IntKind.u8.wrap (IntKind.i64.wrap (48-n)))])
   ·show 1+1≤_
    omega
   ·exact Nat.le_refl _
  ·exfalso
   have e:n.tdiv 10=0:=by rw [tdiv_low (by omega)]; omega
   rw [e] at hz
   exact absurd hz (by decide)
 refine(key.2 w (fun _ _ _ h=>by cases h)).mono ?_
 rintro e w' ⟨V',r,rfl,fr,_,t,rfl,ht⟩
 exact⟨t,rfl,ht,fr.os,fr.tape,fr.output,fr.size,fun k hk=>fr.keep k hk rfl⟩
theorem it_all:∀ (k:Nat) (n:Int),k≤100→-(10 ^ (k+1):Int)<n→n<0→-9223372036854775808≤n→IT (k+1) n
 | 0,n,_,h,h0,_=>it_small ⟨by simpa using h,h0⟩
 | k+1,n,hk,h,h0,hn=>by
  by_cases hs:-10<n
  ·exact it_mono (it_small ⟨hs,h0⟩) (by omega)
  ·have e:=tdiv_low (n:=n) (by omega)
   have hp:(10:Int) ^ (k+1+1)=10 ^ (k+1)*10:=Int.pow_succ ..
   refine it_big (by omega) (by omega) hn ?_
   rw [wrap_i64 (by omega)]
   exact it_all k _ (by omega) (by omega) (by omega) (by omega)
theorem cS_IntNeg (V:Know) (n:Int) (h0:n<0) (hn:-9223372036854775808≤n):CallX Tryz.prog V 52 [.int .i64 n] (fun V' r=>V'=V∧∃ t:ByteArray,r=.string t∧t.size≤21):=by
 refine⟨⟨_,Tryz.func52,by kernel_rfl,by kernel_rfl⟩,fun w hw=>?_⟩
 refine(it_all 19 n (by omega) (by omega) h0 hn w).mono ?_
 rintro e w' ⟨t,rfl,ht,hb⟩
 refine⟨V,_,rfl,⟨hb.os,hb.tape,hb.output,hb.size,fun b hb' _=>hb.block b hb',fun _ _ h=>h⟩,fun b c t hv=>?_,rfl,t,rfl,ht⟩
 have hk:=hw b c t hv
 have hlt:b<w.heap.size:=(Array.getElem?_eq_some_iff.1 hk).1
 rw [hb.block b hlt]; exact hk
end Go.Proofs.YtpkmhkbkohppiaaGreatDoor
namespace Go.Proofs.YtpkmhkbkohppiaaGreatDoor
open Sx
set_option maxRecDepth 100000
def ten (k:Nat):Int:=10 ^ k
theorem ten_succ (k:Nat):ten (k+1)=ten k*10:=Int.pow_succ ..
theorem ten_add (i j:Nat):ten (i+j)=ten i*ten j:=by
 induction j with
 | zero=>simp [ten]
 | succ j ih=>rw [← Nat.add_assoc,ten_succ,ih,ten_succ,Int.mul_assoc]
theorem ten_pos:∀ k:Nat,0<ten k
 | 0=>by decide
 | k+1=>by
  have:=ten_pos k
  rw [ten_succ]; omega
theorem ten_nine:∀ q:Nat,ten (9*q)=1000000000 ^ q
 | 0=>rfl
 | q+1=>by
  rw [show 9*(q+1)=9*q+9 by omega,ten_add,ten_nine q,Int.pow_succ]
  rfl
theorem ten_mono {i j:Nat} (h:i≤j):ten i≤ten j:=by
 obtain⟨d,rfl⟩:=Nat.le.dest h
 rw [ten_add]
 have h1:=ten_pos i
 have h2:=ten_pos d
 have:ten i*1≤ten i*ten d:=Int.mul_le_mul_of_nonneg_left (by omega) (by omega)
 omega
theorem ten_lt9 {k:Nat} (h:k<9):1≤ten k∧ten k≤100000000:=by
 have h1:=ten_mono (show k≤8 by omega)
 have h2:=ten_pos k
 have:ten 8=100000000:=rfl
 omega
def tenL (k:Nat):List Lim:=zer (k / 9)++[(ten (k % 9),())]
theorem tenL_len (k:Nat):(tenL k).length=k / 9+1:=by simp [tenL,len_zer]
theorem tenL_val (k:Nat):valN (tenL k)=ten k:=by
 unfold tenL
 rw [valN_app,valN_zer,valN_one,len_zer,← ten_nine,Int.mul_comm,← ten_add,Int.zero_add]
 congr 1
 omega
theorem tenL_can (k:Nat):Can (tenL k):=by
 have h:=ten_lt9 (show k % 9<9 by omega)
 refine⟨lims_app (lims_zer _) (lims_one (by omega)),.inr ?_⟩
 rw [tenL_len]
 show limb (zer (k / 9)++[(ten (k % 9),())]) (k / 9+1-1)≠0
 rw [limb_app_ge (by rw [len_zer]; omega),len_zer,show k / 9+1-1-k / 9=0 by omega]
 show(ten (k % 9))≠0
 omega
abbrev DecD:Type:=Bool × List Lim × Int × Unit
structure Same10 (m:List Lim) (s:Int) (m':List Lim) (s':Int):Prop where
 eq:valN m'*ten s.toNat=valN m*ten s'.toNat
theorem same10_inj {m m' m'':List Lim} {s s':Int} (h:Same10 m s m' s') (k:Same10 m s m'' s') (c:Can m') (c':Can m''):m'=m'':=by
 refine can_inj c c' ?_
 have e:=h.1.trans k.1.symm
 exact Int.eq_of_mul_eq_mul_right (by have:=ten_pos s.toNat; omega) e
def dbl (s:ByteArray):List UInt8:=s.data.toList
theorem dbl_app (a b:ByteArray):dbl (a++b)=dbl a++dbl b:=by
 unfold dbl
 rw [ByteArray.data_append]
 simp
theorem dbl_extract (a:ByteArray) (i j:Nat):dbl (a.extract i j)=((dbl a).take j).drop i:=by
 unfold dbl
 rw [ByteArray.data_extract]
 simp [List.extract_eq_take_drop,List.drop_take]
theorem dbl_len (a:ByteArray):(dbl a).length=a.size:=by
 show a.data.toList.length=a.data.size
 simp
def Digs (l:List UInt8):Prop:=∀ x∈l,x≠46
theorem digs_app {l m:List UInt8} (h:Digs l) (k:Digs m):Digs (l++m):=by
 intro x hx
 rcases List.mem_append.1 hx with h1 | h1
 ·exact h x h1
 ·exact k x h1
theorem dig_ne (k:Nat) (h:k<10):UInt8.ofNat (48+k)≠46:=by
 revert k
 decide
theorem decDigits_digs (n:Nat):Digs (Go.Lib.decDigits n):=by
 induction n using Nat.strongRecOn with
 | _ n ih =>
  rw [Go.Lib.decDigits]
  split
  ·rename_i h
   intro x hx
   rw [List.mem_singleton] at hx
   subst hx
   exact dig_ne n h
  ·rename_i h
   refine digs_app (ih _ (by omega)) ?_
   intro x hx
   rw [List.mem_singleton] at hx
   subst hx
   exact dig_ne _ (by omega)
theorem numT_digs {k:Int} (h:0≤k):Digs (dbl (numT k)):=by
 unfold numT Go.Lib.itoa dbl
 rw [if_neg (by omega)]
 exact decDigits_digs _
theorem padB_digs {s:ByteArray} (h:Digs (dbl s)) (n:Int):Digs (dbl (padB s n)):=by
 unfold padB
 split
 ·exact h
 ·rw [dbl_app]
  refine digs_app ?_ h
  intro x hx
  have:x=48:=by
   unfold zeros dbl at hx
   simp at hx
   exact hx.2
  subst this
  decide
theorem natGo_digs {l:List Lim} (hl:Lims l):∀ (i:Nat) (s:ByteArray),Digs (dbl s)→Digs (dbl (natGo l i s))
 | 0,_,h=>h
 | i+1,s,h=>by
  rw [natGo]
  refine natGo_digs hl i _ ?_
  rw [dbl_app]
  exact digs_app h (padB_digs (numT_digs (hl i).1) 9)
theorem natT_digs {l:List Lim} (hl:Lims l):Digs (dbl (natT l)):=by
 unfold natT
 split
 ·intro x hx
  have h:x=48:=by simpa [dbl] using hx
  subst h
  decide
 ·exact natGo_digs hl _ _ (numT_digs (hl _).1)
theorem tw_mid {A B:List UInt8} (h:Digs A):(A++46 :: B).takeWhile (· != 46)=A:=by
 induction A with
 | nil=>simp
 | cons a A ih =>
  have ha:a≠46:=h a (by simp)
  rw [List.cons_append,List.takeWhile_cons,if_pos (by simpa using ha),ih fun x hx=>h x (by simp [hx])]
theorem decT_bl {neg:Bool} {l:List Lim} {sc:Int} (hl:Lims l) (h0:0≤sc) (h1:sc≤30) :
  (sc=0→Digs (dbl (decT neg l sc)))∧(0<sc→(46:UInt8)∈dbl (decT neg l sc)∧((dbl (decT neg l sc)).reverse.takeWhile (· != 46)).length=sc.toNat):=by
 have hd:Digs (dbl (padB (natT l) (sc+1))):=padB_digs (natT_digs hl) _
 have hs:=(padB_size (natT l) (sc+1)).2.1 (by omega)
 have h45:Digs (dbl (⟨#[45]⟩:ByteArray)):=by
  intro x hx
  have h:x=45:=by simpa [dbl] using hx
  subst h
  decide
 refine⟨fun h=>?_,fun h=>?_⟩
 ·have:pointT (padB (natT l) (sc+1)) sc=padB (natT l) (sc+1):=by
   unfold pointT
   rw [if_neg (by omega)]
  unfold decT
  rw [this]
  split
  ·rw [dbl_app]
   exact digs_app h45 hd
  ·exact hd
 ·generalize hp:padB (natT l) (sc+1)=p at hd hs
  have key:∃ A B,dbl (decT neg l sc)=A++46 :: B∧Digs B∧B.length=sc.toNat:=by
   have hb:dbl (pointT p sc)=(dbl p).take (p.size-sc.toNat)++46 :: (dbl p).drop (p.size-sc.toNat):=by
    unfold pointT
    rw [if_pos (by omega),dbl_app,dbl_app,dbl_extract,dbl_extract,List.drop_zero,← dbl_len p,List.take_length]
    show(_++[46])++_=_
    rw [List.append_assoc]
    rfl
   have hB:Digs ((dbl p).drop (p.size-sc.toNat)):=fun x hx=>hd x (List.mem_of_mem_drop hx)
   have hn:((dbl p).drop (p.size-sc.toNat)).length=sc.toNat:=by
    rw [List.length_drop,dbl_len]
    omega
   unfold decT
   rw [hp]
   split
   ·rw [dbl_app,hb]
    exact⟨dbl (⟨#[45]⟩:ByteArray)++(dbl p).take (p.size-sc.toNat),_,(by rw [List.append_assoc]),hB,hn⟩
   ·rw [hb]
    exact⟨_,_,rfl,hB,hn⟩
  obtain⟨A,B,e,hB,hn⟩:=key
  rw [e]
  refine⟨by simp,?_⟩
  rw [List.reverse_append,List.reverse_cons,List.append_assoc]
  show((B.reverse++46 :: A.reverse).takeWhile (· != 46)).length=_
  rw [tw_mid fun x hx=>hB x (List.mem_reverse.1 hx),List.length_reverse,hn]
theorem decT_scale {n n':Bool} {l l':List Lim} {s s':Int} (hl:Lims l) (hl':Lims l') (h0:0≤s) (h1:s≤30) (h0':0≤s') (h1':s'≤30) (h:decT n l s=decT n' l' s'):s=s':=by
 obtain⟨a,b⟩:=decT_bl (neg:=n) hl h0 h1
 obtain⟨a',b'⟩:=decT_bl (neg:=n') hl' h0' h1'
 rw [h] at a b
 by_cases hs:s=0
 ·by_cases hs':s'=0
  ·omega
  ·exact absurd rfl (a hs 46 (b' (by omega)).1)
 ·by_cases hs':s'=0
  ·exact absurd rfl (a' hs' 46 (b (by omega)).1)
  ·have h2:=(b (by omega)).2
   rw [(b' (by omega)).2] at h2
   omega
end Go.Proofs.YtpkmhkbkohppiaaGreatDoor
