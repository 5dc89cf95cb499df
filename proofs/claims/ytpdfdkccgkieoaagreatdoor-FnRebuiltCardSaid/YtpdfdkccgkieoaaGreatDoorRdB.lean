/-
  Naturals as the reference reads them; whole numbers, in the program and in the reference.
-/
import Derived.Test.YtpdfdkccgkieoaaGreatDoorRxT
import Derived.Lib.ConvBytes
import Derived.Test.YtpdfdkccgkieoaaGreatDoorLit
import Derived.Test.YtpdfdkccgkieoaaGreatDoorDivB
namespace Go.Proofs.YtpdfdkccgkieoaaGreatDoor
open Sx
set_option maxRecDepth 100000
theorem natT_len {l:List Lim} (h:Can l):l.length≤(natT l).size:=by
 by_cases h0:l.length=0
 ·omega
 obtain⟨⟨_,hd,_⟩,hv,_⟩:=natT_num h
 have h1:=can_ge h (by omega)
 rw [← hv,← pw9] at h1
 have h2:=dv_lt hd
 rw [bl_len] at h2
 have h3:10 ^ (9*(l.length-1))<10 ^ (natT l).size:=by omega
 have h4:=(Nat.pow_lt_pow_iff_right (by decide:1<10)).1 h3
 omega
abbrev decP (l:List Lim) (sc:Int):ByteArray:=padB (natT l) (sc+1)
theorem decP_bl {l:List Lim} {sc:Int} (h1:sc≤30):∃ k,bl (decP l sc)=List.replicate k 48++bl (natT l):=by
 unfold decP padB
 rw [if_neg (by omega),bl_append,zeros_bl]
 exact⟨_,rfl⟩
theorem decP_dg {l:List Lim} {sc:Int} (h:Can l) (h1:sc≤30):∀ c∈bl (decP l sc),Dg c:=by
 obtain⟨k,e⟩:=decP_bl (l:=l) h1
 intro c hc
 rw [e] at hc
 rcases List.mem_append.1 hc with hc | hc
 ·obtain rfl:=(List.mem_replicate.1 hc).2
  exact⟨by decide,by decide⟩
 ·exact(natT_num h).1.2.1 c hc
theorem decP_size {l:List Lim} {sc:Int} (h:Can l) (h6:l.length≤6) (h0:0≤sc) (h1:sc≤30):sc+1≤(decP l sc).size∧(decP l sc).size≤55:=by
 obtain⟨_,p2,p3,_⟩:=padB_size (natT l) (sc+1)
 obtain⟨_,_,h3,_⟩:=natT_num h
 have:=p2 (by omega)
 show sc+1≤(padB (natT l) (sc+1)).size∧(padB (natT l) (sc+1)).size≤55
 exact⟨this,by omega⟩
abbrev decB (l:List Lim) (sc:Int):ByteArray:=pointT (decP l sc) sc
theorem decT_neg (l:List Lim) (sc:Int):bl (decT true l sc)=45 :: bl (decB l sc):=by
 unfold decT
 rw [if_pos rfl,bl_append]
 rfl
theorem decT_pos (l:List Lim) (sc:Int):decT false l sc=decB l sc:=by
 unfold decT
 rw [if_neg (by decide)]
theorem decB_parts {l:List Lim} {sc:Int} (h:Can l) (h6:l.length≤6) (h0:0≤sc) (h1:sc≤30) :
  (sc=0∧bl (decB l sc)=bl (decP l sc))∨(0<sc∧∃ A B,bl (decB l sc)=A++46 :: B∧bl (decP l sc)=A++B∧B.length=sc.toNat∧A≠[]):=by
 obtain⟨z1,z2⟩:=decP_size h h6 h0 h1
 by_cases hs:sc=0
 ·left
  refine⟨hs,?_⟩
  show bl (pointT (decP l sc) sc)=_
  unfold pointT
  rw [if_neg (by omega)]
 ·right
  refine⟨by omega,(bl (decP l sc)).take ((decP l sc).size-sc.toNat),(bl (decP l sc)).drop ((decP l sc).size-sc.toNat),?_,(List.take_append_drop _ _).symm,?_,?_⟩
  ·show bl (pointT (decP l sc) sc)=_
   unfold pointT
   rw [if_pos (by omega),bl_append,bl_append,bl_extract,bl_extract,List.drop_zero,← bl_len (decP l sc),List.take_length]
   show(_++[46])++_=_
   rw [List.append_assoc]
   rfl
  ·rw [List.length_drop,bl_len]; omega
  ·intro e
   have:=congrArg List.length e
   rw [List.length_take,bl_len] at this
   simp only [List.length_nil] at this
   omega
theorem no_dg {c x:UInt8} (h:Dg c) (k:x.toNat<48):c≠x:=fun e=>by
 subst e
 exact absurd h.1 (by omega)
theorem decB_head {l:List Lim} {sc:Int} (h:Can l) (h6:l.length≤6) (h0:0≤sc) (h1:sc≤30):∃ c r,bl (decB l sc)=c :: r∧Dg c:=by
 obtain⟨z1,z2⟩:=decP_size h h6 h0 h1
 have hd:=decP_dg h h1
 have hl:=bl_len (decP l sc)
 rcases decB_parts h h6 h0 h1 with ⟨_,e⟩ | ⟨_,A,B,e,e2,_,hA⟩
 ·rw [e]
  cases hq:bl (decP l sc) with
  | nil=>rw [hq] at hl; simp only [List.length_nil] at hl; omega
  | cons c r=>exact⟨c,r,rfl,hd c (by rw [hq]; simp)⟩
 ·rw [e]
  cases A with
  | nil=>exact absurd rfl hA
  | cons c r=>exact⟨c,r++46 :: B,rfl,hd c (by rw [e2]; simp)⟩
theorem decB_size {l:List Lim} {sc:Int} (h:Can l) (h6:l.length≤6) (h0:0≤sc) (h1:sc≤30):(decB l sc).size≤56:=by
 have a:=pointT_size (decP l sc) sc
 have b:=(decP_size h h6 h0 h1).2
 exact Nat.le_trans a (by omega)
theorem decB_cut {l:List Lim} {sc:Int} (h:Can l) (h6:l.length≤6) (h0:0≤sc) (h1:sc≤30) :
  (sc=0∧cutB 46 (decB l sc)=[(decP l sc,())])∨(0<sc∧∃ a b:ByteArray,cutB 46 (decB l sc)=[(a,()),(b,())]∧decP l sc=a++b∧(b.size:Int)=sc):=by
 have hd:=decP_dg h h1
 have no:∀ x∈bl (decP l sc),x≠46:=fun x hx=>no_dg (hd x hx) (by decide)
 rcases decB_parts h h6 h0 h1 with ⟨hs,e⟩ | ⟨hs,A,B,e,e2,hB,_⟩
 ·refine .inl ⟨hs,cutB_eq ?_ (by simp) fun x hx=>?_⟩
  ·rw [e]; rfl
  ·obtain rfl:x=(decP l sc,()):=by simpa using hx
   exact fun k=>no 46 k rfl
 ·refine .inr ⟨hs,ofL A,ofL B,cutB_eq ?_ (by simp) fun x hx=>?_,bl_inj ?_,?_⟩
  ·rw [e]
   show _=bl (ofL A)++46 :: bl (ofL B)
   rw [bl_of,bl_of]
  ·rcases List.mem_cons.1 hx with rfl | hx
   ·show(46:UInt8) ∉ bl (ofL A)
    rw [bl_of]
    exact fun k=>no 46 (by rw [e2]; simp [k]) rfl
   ·obtain rfl:x=(ofL B,()):=by simpa using hx
    show(46:UInt8) ∉ bl (ofL B)
    rw [bl_of]
    exact fun k=>no 46 (by rw [e2]; simp [k]) rfl
  ·rw [bl_append,bl_of,bl_of]
   exact e2
  ·rw [of_size B,hB]; omega
def ZNat (s:ByteArray) (l:List Lim):Prop:=∃ k,bl s=List.replicate k 48++bl (natT l)
theorem ZNat.step {s:ByteArray} {l:List Lim} (h:ZNat s l) (hc:Can l) (h1:1<s.size) (h2:(bl s).head?=some 48):ZNat (s.extract 1 s.size) l:=by
 obtain⟨k,e⟩:=h
 cases k with
 | zero =>
  exfalso
  have e:bl s=bl (natT l):=by simpa using e
  obtain⟨hn,_⟩:=natT_num hc
  have hl:=bl_len s
  refine hn.2.2 ?_ ?_
  ·rw [← e]; omega
  ·rw [← e]; exact h2
 | succ k =>
  refine⟨k,?_⟩
  rw [bl_tail,e,List.replicate_succ]
  rfl
theorem ZNat.stop {s:ByteArray} {l:List Lim} (h:ZNat s l) (hc:Can l) (hs:¬ (1<s.size∧(bl s).head?=some 48)):s=natT l:=by
 obtain⟨k,e⟩:=h
 obtain⟨hn,_⟩:=natT_num hc
 have hl:=bl_len s
 cases k with
 | zero=>exact bl_inj (by simpa using e)
 | succ k =>
  exfalso
  refine hs ⟨?_,by rw [e,List.replicate_succ]; rfl⟩
  rw [← hl,e,List.length_append,List.length_replicate]
  have:0<(bl (natT l)).length:=List.length_pos_iff.2 hn.1
  omega
theorem ZNat.start {l:List Lim} {sc:Int} (h1:sc≤30):ZNat (decP l sc) l:=decP_bl h1
end Go.Proofs.YtpdfdkccgkieoaaGreatDoor
namespace Go.Proofs.YtpdfdkccgkieoaaGreatDoor
open Sx
set_option maxRecDepth 100000
abbrev bv (l:List UInt8):List Value:=l.map fun b=>Value.int .u8 b.toNat
theorem semx_bytes {P:Program} {V:Know} {src dst e:TypeId} {s:ByteArray} {K:Know→Value→Prop} (hs:P.underlying src=some .string) (hd:P.underlying dst=some (.slice e)) (he:P.underlying e=some (.int .u8))
  (h:∀ b cap spare,V b=none→s.size≤cap→K (kset V b (bv (bl s)++spare,(e,(cap,cap+1)))) (.slice (some ⟨b,0,none⟩) s.size cap)):SemX P V (MOp.cv src dst (.string s)).sem K:=by
 intro w hw
 have hc:s.size≤Go.grownCap w s.size 0 e:=Go.grownCap_ge w s.size 0 e
 refine⟨_,_,kset V w.heap.size (bv (bl s)++List.replicate (Go.grownCap w s.size 0 e-s.size) (.int .u8 0),(e,(Go.grownCap w s.size 0 e,Go.grownCap w s.size 0 e+1))),Go.Lib.run_convert_string_bytes w src dst e s hs hd he,⟨rfl,rfl,rfl,by rw [Go.Lib.bytesWorld_size]; omega,fun b hb _=>Go.Lib.bytesWorld_at_old w e s b hb,fun b hb hn=>?_⟩,fun b c u hb=>?_,h _ _ _ hw.size_none hc⟩
 ·rw [kset_other (by omega)]; exact hn
 ·by_cases hbe:b=w.heap.size
  ·subst hbe
   rw [kset_same] at hb
   simp only [Option.some.injEq,Prod.mk.injEq] at hb
   obtain⟨rfl,rfl⟩:=hb
   rw [Go.Lib.bytesWorld_at_new]
   have e1:Go.Lib.bytesCells w e s=(bv (bl s)++List.replicate (Go.grownCap w s.size 0 e-s.size) (Value.int .u8 0)).toArray:=by
    unfold Go.Lib.bytesCells
    simp [bv,bl]
   have e2:(Go.Lib.bytesCells w e s).size=Go.grownCap w s.size 0 e:=by
    unfold Go.Lib.bytesCells
    have:s.data.size=s.size:=rfl
    simp only [Array.size_append,Array.size_map,Array.size_replicate]
    omega
   have e3:noTup (bv (bl s)++List.replicate (Go.grownCap w s.size 0 e-s.size) (Value.int .u8 0))=true:=by
    refine List.all_eq_true.2 fun x hx=>?_
    rcases List.mem_append.1 hx with k | k
    ·obtain⟨y,_,rfl⟩:=List.mem_map.1 k
     rfl
    ·rw [List.eq_of_mem_replicate k]
   rw [e2,e1,objOf_cells e3]
  ·rw [kset_other hbe] at hb
   have:=hw b c u hb
   rw [Go.Lib.bytesWorld_at_old w e s b (Array.getElem?_eq_some_iff.1 this).1]; exact this
end Go.Proofs.YtpdfdkccgkieoaaGreatDoor
namespace Go.Proofs.YtpdfdkccgkieoaaGreatDoor
open Sx
set_option maxRecDepth 100000
theorem at0_bl {s:ByteArray} {i:Nat} (h:i<(bl s).length):at0 s i=((bl s)[i].toNat:Int):=by
 show(((bl s).getD i 0).toNat:Int)=_
 rw [List.getD_eq_getElem?_getD,List.getElem?_eq_getElem h]; rfl
theorem digits_iff {s:ByteArray}:(∀ i,i<s.size→DigitP (at0 s i))↔∀ c∈bl s,Dg c:=by
 constructor
 ·intro h c hc
  obtain⟨i,hi,rfl⟩:=List.getElem_of_mem hc
  have:=h i (by rw [← bl_len]; exact hi)
  rw [at0_bl hi] at this
  unfold DigitP at this
  show 48≤_∧_≤57
  omega
 ·intro h i hi
  have hi':i<(bl s).length:=by rw [bl_len]; exact hi
  have:=h _ (List.getElem_mem hi')
  rw [at0_bl hi']
  unfold DigitP
  omega
abbrev DgPost (V:Know) (s:ByteArray):Know→Value→Prop:=fun V' r=>V'=V∧∃ e,r=.bool e∧(e=true↔(∀ c∈bl s,Dg c)∧0<s.size)
theorem cI_IsDigits (V:Know) (s:ByteArray) (hs:s.size≤9223372036854775807):CallX Tryz.prog V 243 [.string s] (DgPost V s):=by
 refine CallX.of_fits Tryz.mix (fI_IsDigits _) fun _=>?_
 simp only [tI_IsDigits,T.wp]
 refine⟨fun y V'=>V'=V∧∃ i:Nat,y.1=(i:Int)∧i≤s.size∧∀ j,j<i→DigitP (at0 s j),fun y _=>((s.size:Int)-(y.1:Int)).toNat,⟨((0:Int),()),rfl,rfl,0,rfl,Nat.zero_le _,fun j h=>by omega⟩,?_⟩
 rintro⟨(i:Int),u⟩ V' ⟨rfl,k,hk,hkle,hall⟩
 replace hk:i=(k:Int):=hk
 subst hk
 refine⟨fun hlt=>?_,fun hge=>?_⟩
 ·have hks:k<s.size:=by
   have:(k:Int)<(s.size:Int):=of_decide_eq_true hlt
   omega
  have e0:(k:Int).toNat=k:=by omega
  dsimp only
  rw [e0]
  refine⟨⟨(by omega:(0:Int)≤(k:Int)),(by omega:(k:Int)<(s.size:Int))⟩,(cI_isDigit V' _).mono ?_⟩
  rintro V1 _ ⟨rfl,e,rfl,he⟩
  refine⟨nofun,e,rfl,fun hf=>⟨rfl,false,rfl,⟨(fun h=>by cases h),fun h=>?_⟩⟩,fun ht=>⟨_,rfl,(((k+1:Nat):Int),()),by rw [nxt hks hs]; rfl,⟨rfl,k+1,rfl,hks,fun j hj=>?_⟩,?_⟩⟩
  ·have:=he.2 (digits_iff.2 h.1 k hks)
   simp [this] at hf
  ·by_cases ej:j=k
   ·subst ej; exact he.1 (by simpa using ht)
   ·exact hall j (by omega)
  ·show((s.size:Int)-((k+1:Nat):Int)).toNat<((s.size:Int)-(k:Int)).toNat
   omega
 ·have hks:k=s.size:=by
   have:¬ (k:Int)<(s.size:Int):=of_decide_eq_false hge
   omega
  subst hks
  refine⟨rfl,_,rfl,?_⟩
  have h1:∀ c∈bl s,Dg c:=digits_iff.1 hall
  have h2:(s.toList == (⟨#[]⟩:ByteArray).toList)=decide (s=⟨#[]⟩):=by
   cases hq:(s.toList == (⟨#[]⟩:ByteArray).toList) with
   | true=>rw [decide_eq_true (text_eq.1 hq)]
   | false=>exact(decide_eq_false fun e=>by rw [text_eq.2 e] at hq; cases hq).symm
  show(!(s.toList == (⟨#[]⟩:ByteArray).toList))=true↔_
  rw [h2]
  have h3:s=⟨#[]⟩↔s.size=0:=⟨fun e=>by rw [e]; rfl,fun e=>bl_inj (by
   rw [← bl_len] at e
   rw [List.eq_nil_of_length_eq_zero e])⟩
  simp only [Bool.not_eq_true',decide_eq_false_iff_not,h3]
  exact⟨fun h=>⟨h1,by omega⟩,fun h=>by omega⟩
def RdNat (s:ByteArray) (o:List Lim) (ok:Bool):Prop:=(ok=true∧NatOkP o∧natT o=s)∨(ok=false∧o=[]∧¬ ∃ q,NatOkP q∧natT q=s)
abbrev NatRd (V:Know) (s:ByteArray):Know→Value→Prop:=fun V' r=>V.le V'∧∃ t o f ok,r=.tuple #[Sc.val .l t,.bool ok]∧LR rI V' t o f∧Own V V' f∧RdNat s o ok
theorem lr_none {V:Know}:LR rI V ⟨none,0,0⟩ [] []:=⟨rfl,Nat.le_refl _,by simp,.inl ⟨rfl,fun _=>rfl,rfl⟩⟩
theorem rd_no {V V':Know} {s:ByteArray} (le:V.le V') (h:¬ NatTx s):NatRd V s V' (packed [.slice none 0 0,.bool false]) :=
 ⟨le,⟨none,0,0⟩,[],[],false,rfl,lr_none,Own.nil,.inr ⟨rfl,rfl,fun⟨_,h1,h2⟩=>natTx_no h h1.1 h1.2 h2⟩⟩
theorem cutv_bytes {l:List UInt8} {sp:List Value} {i:Nat} (h:i<l.length):cutv (bv l++sp) i 1=some [Value.int .u8 (l[i].toNat:Int)]:=by
 have hb:i<(bv l).length:=by simpa using h
 have hc:i+1≤(bv l++sp).length:=by
  rw [List.length_append]; omega
 unfold cutv
 rw [if_pos hc,List.drop_append_of_le_length (Nat.le_of_lt hb),List.drop_eq_getElem_cons hb]
 simp
theorem dv_snoc {l:List UInt8} {i:Nat} (h:i<l.length):dv (l.take (i+1))=dv (l.take i)*10+(l[i].toNat-48):=by
 rw [List.take_succ_eq_append_getElem h,dv_append]
 show dv (l.take i)*10 ^ 1+dv [l[i]]=_
 rw [dv_cons]
 show _*10 ^ 1+((l[i].toNat-48)*10 ^ 0+0)=_
 omega
def RdInv (s:ByteArray) (a:List Lim) (E:Int):Prop:=∃ e:Nat,E.toNat=e∧-9≤E∧e≤s.size∧Lims a∧valN a=(dv ((bl s).drop e):Int)∧9*a.length+e≤s.size+8∧(0<e→e+9*a.length=s.size)
theorem RdInv.start {s:ByteArray}:RdInv s [] (s.size:Int):=⟨s.size,by omega,by omega,Nat.le_refl _,lims_nil,by rw [List.drop_of_length_le (by rw [bl_len]; omega)]; rfl,by simp,fun _=>rfl⟩
theorem RdInv.step {s:ByteArray} {a:List Lim} {E:Int} (hd:∀ c∈bl s,Dg c) (h:RdInv s a E) (hE:0<E) {j:Nat} (hj:(j:Int)=if E-9 > 0 then E-9 else 0):RdInv s (a++[((dv (((bl s).take E.toNat).drop j):Int),())]) (E-9):=by
 obtain⟨e,h1,h2,h3,h4,h5,h6,h7⟩:=h
 subst h1
 have hl:=bl_len s
 have hj1:j≤E.toNat:=by split at hj <;> omega
 have hj9:E.toNat-j≤9:=by split at hj <;> omega
 have hx:((bl s).take E.toNat).drop j=((bl s).drop j).take (E.toNat-j):=by rw [List.take_drop]; congr 2; omega
 obtain⟨g1,g2⟩:=rd_step hd (j:=j) (by rw [h7 (by omega)]; exact hl.symm) h4 h5 hj1 hj9
 rw [hx]
 have h8:=h7 (by omega)
 refine⟨j,by split at hj <;> omega,by omega,by omega,g1,g2,?_,fun hp=>?_⟩
 ·rw [List.length_append,List.length_singleton]
  split at hj <;> omega
 ·rw [List.length_append,List.length_singleton]
  split at hj <;> omega
theorem RdInv.stop {s:ByteArray} {a:List Lim} {E:Int} (h:RdInv s a E) (hE:¬ 0<E):Lims a∧valN a=(dv (bl s):Int)∧9*a.length≤s.size+8:=by
 obtain⟨e,h1,h2,h3,h4,h5,h6,h7⟩:=h
 have:e=0:=by omega
 subst this
 exact⟨h4,h5,by omega⟩
theorem RdInv.len {s:ByteArray} {a:List Lim} {E:Int} (h:RdInv s a E):9*a.length≤s.size+8∧E≤s.size:=by
 obtain⟨e,h1,h2,h3,h4,h5,h6,h7⟩:=h
 exact⟨by omega,by omega⟩
noncomputable def readI (x0:ByteArray):T :=
 .lp [.a 3,.o (.o (.i .i64))] [.a 3 ((0:Nat)) [],.v (.int .i64 ((x0.size:Int)))] fun y2 =>
 .br (decide (y2.2.fst > (0:Int))) (
  .rq (((0:Int)≤if Go.IntKind.i64.wrap (y2.2.fst-(9:Int)) > (0:Int) then Go.IntKind.i64.wrap (y2.2.fst-(9:Int)) else (0:Int))∧(if Go.IntKind.i64.wrap (y2.2.fst-(9:Int)) > (0:Int) then Go.IntKind.i64.wrap (y2.2.fst-(9:Int)) else (0:Int))≤y2.2.fst∧y2.2.fst≤(x0.size:Int)) <|
  .mo (.cv 9 22 (.string (x0.extract (if Go.IntKind.i64.wrap (y2.2.fst-(9:Int)) > (0:Int) then Go.IntKind.i64.wrap (y2.2.fst-(9:Int)) else (0:Int)).toNat (Int.toNat y2.2.fst)))) (.v (.o (.l))) fun y3 =>
  .lp [.o (.o (.i .i64)),.o (.o (.i .i64))] [.v (.int .i64 ((0:Int))),.v (.int .i64 ((0:Int)))] fun y4 =>
  .br (decide (y4.2.fst<(y3.n:Int))) (
   .el (y3.1) (y3.n) (y4.2.fst) fun y5 =>
   .ld false (y5.add (Int.toNat y4.2.fst*(1:Nat))) (.o (.i .u8)) fun y6 =>
   .nx 1 [.v (.int .i64 (Go.IntKind.i64.wrap (Go.IntKind.i64.wrap ((10:Int)*y4.fst)+Go.IntKind.i64.wrap (Go.IntKind.u8.wrap (y6-(48:Int)))))),.v (.int .i64 (Go.IntKind.i64.wrap (y4.2.fst+(1:Int))))]) <|
  .rq ([Go.Value.int Go.IntKind.i64 y4.fst].length=(1:Nat)*(1:Nat)) <|
  .rq (one [Go.Value.int Go.IntKind.i64 y4.fst]=true∧(y2.1.fst+(1:Nat))*(8:Nat)≤(140737488355328:Nat)∧y2.1.fst+(1:Nat)≤(9223372036854775807:Nat)) <|
  .nx 0 [.a 3 (y2.1.fst+(1:Nat)) (y2.1.2++[Go.Value.int Go.IntKind.i64 y4.fst]),.v (.int .i64 (Go.IntKind.i64.wrap (y2.2.fst-(9:Int))))]) <|
 .fz (y2.1.fst) (y2.1.2) 3 fun b3 c3 =>
 .call false 203 [.slice (some { block:=b3,off:=(0:Nat):Go.Addr }) (y2.1.fst) (c3)] (.v (.o (.l))) fun y4 =>
 .ret [Sc.val .l (y4),.bool (true)]
theorem readI_wp {V:Know} {s:ByteArray} (hs:NatTx s) {V0:Know} (le0:V0.le V):(readI s).wp Tryz.prog (fun V' vs=>NatRd V0 s V' (packed vs)) V V []:=by
 simp only [readI,T.wp]
 have h450:=hs.2
 have hd:=hs.1.2.1
 refine⟨fun y V'=>V.le V'∧∃ a:List Lim,y.1.1=a.length∧y.1.2=a.map cellI∧RdInv s a (y.2.1:Int),fun y _=>((y.2.1:Int)+9).toNat,
  ⟨((0,[]),(s.size:Int),()),rfl,Know.le.refl _,[],rfl,rfl,RdInv.start⟩,?_⟩
 rintro⟨⟨(m:Nat),(ys:List Value)⟩,(E:Int),u⟩ V1 ⟨le1,a,hm,hy,hi⟩
 replace hm:m=a.length:=hm
 replace hy:ys=a.map cellI:=hy
 replace hi:RdInv s a E:=hi
 subst hm hy
 obtain⟨hlen,hEs⟩:=hi.len
 refine⟨fun hgt=>?_,fun hle=>?_⟩
 ·have hE:0<E:=of_decide_eq_true hgt
  have ew:IntKind.i64.wrap (E-9)=E-9:=wrap_i64 (by omega)
  dsimp only
  rw [ew]
  obtain⟨j,hj⟩:∃ j:Nat,(j:Int)=if E-9 > 0 then E-9 else 0:=⟨(if E-9 > 0 then E-9 else 0).toNat,by split <;> omega⟩
  rw [← hj,Int.toNat_natCast]
  have hjE:(j:Int)≤E:=by split at hj <;> omega
  refine⟨⟨by omega,hjE,hEs⟩,semx_bytes (by kernel_rfl) (by kernel_rfl) (e:=5) (by kernel_rfl) fun b cap sp hb hcap=>?_⟩
  have hX:bl (s.extract j E.toNat)=((bl s).take E.toNat).drop j:=bl_extract s j E.toNat
  have hstep:=hi.step hd hE hj
  have hXl:(((bl s).take E.toNat).drop j).length=(s.extract j E.toNat).size:=by rw [← hX,bl_len]
  have hX9:(((bl s).take E.toNat).drop j).length≤9:=by
   rw [List.length_drop,List.length_take]
   split at hj <;> omega
  have hXd:∀ c∈((bl s).take E.toNat).drop j,Dg c:=fun c hc=>hd c (List.mem_of_mem_take (List.mem_of_mem_drop hc))
  rw [← hXl]
  rw [hX]
  generalize ((bl s).take E.toNat).drop j=X at *
  refine⟨⟨some ⟨b,0,none⟩,X.length,cap⟩,rfl,?_⟩
  have leb:=kset_le (x:=(bv X++sp,((5:TypeId),((cap,cap+1):Nat × Nat)))) hb
  have hkb:kset V1 b (bv X++sp,(5,(cap,cap+1))) b=some (bv X++sp,(5,(cap,cap+1))):=kset_same
  revert leb hkb
  generalize kset V1 b (bv X++sp,(5,(cap,cap+1)))=V2
  intro leb hkb
  refine⟨fun y V'=>V'=V2∧∃ i:Nat,(y.2.1:Int)=(i:Int)∧i≤X.length∧(y.1:Int)=(dv (X.take i):Int),fun y _=>((X.length:Int)-(y.2.1:Int)).toNat,
   ⟨((0:Int),(0:Int),()),rfl,rfl,0,rfl,Nat.zero_le _,rfl⟩,?_⟩
  rintro⟨(z:Int),(q:Int),u⟩ V3 ⟨rfl,i,hq,hiX,hz⟩
  replace hq:q=(i:Int):=hq
  replace hz:z=(dv (X.take i):Int):=hz
  subst hq hz
  have hbd:dv (X.take i)<1000000000:=by
   have:=dv_part hXd 0 i (by omega)
   rwa [List.drop_zero] at this
  refine⟨fun hlt=>?_,fun hge=>?_⟩
  ·have hi':i<X.length:=by
    have:(i:Int)<(X.length:Int):=of_decide_eq_true hlt
    omega
   have hdg:=hXd _ (List.getElem_mem hi')
   dsimp only
   rw [Int.toNat_natCast,Nat.mul_one]
   refine⟨⟨b,0,none⟩,rfl,(by omega:(0:Int)≤(i:Int)),(by omega:(i:Int)<(X.length:Int)),((X[i].toNat:Nat):Int),?_,_,rfl,(((dv (X.take (i+1)):Nat):Int),((i+1:Nat):Int),()),?_,⟨rfl,i+1,rfl,hi',rfl⟩,?_⟩
   ·simp only [addr_add_eq,loadV,hkb,Nat.zero_add,Bool.false_eq_true,if_false]
    exact cutv_bytes hi'
   ·have hsn:=dv_snoc hi'
    have e1:IntKind.u8.wrap (((X[i].toNat:Nat):Int)-48)=(X[i].toNat:Int)-48:=by
     show(((X[i].toNat:Nat):Int)-48) % 2 ^ 8=_
     exact Int.emod_eq_of_lt (by omega) (by omega)
    rw [e1,wrap_i64 (n:=10*((dv (X.take i):Nat):Int)) (by omega),wrap_i64 (n:=((X[i].toNat:Nat):Int)-48) (by omega),wrap_i64 (by omega),nxt hi' (by omega),hsn]
    have e2:10*((dv (X.take i):Nat):Int)+(((X[i].toNat:Nat):Int)-48)=((dv (X.take i)*10+(X[i].toNat-48):Nat):Int):=by omega
    rw [e2]; rfl
   ·show((X.length:Int)-((i+1:Nat):Int)).toNat<((X.length:Int)-(i:Int)).toNat
    omega
  ·have hi':i=X.length:=by
    have:¬ (i:Int)<(X.length:Int):=of_decide_eq_false hge
    omega
   subst hi'
   rw [List.take_length]
   refine⟨rfl,⟨rfl,(by omega:(a.length+1)*8≤140737488355328),(by omega:a.length+1≤9223372036854775807)⟩,_,rfl,((a.length+1,(a++[(((dv X:Nat):Int),())]).map cellI),E-9,()),by simp [LShs.lvs,LSh.lv,Sh1.val,Sc.val,cellI],⟨le1.trans leb,a++[(((dv X:Nat):Int),())],by simp,rfl,hstep⟩,?_⟩
   show(E-9+9).toNat<(E+9).toNat
   omega
 ·have hE:¬ 0<E:=of_decide_eq_false hle
  obtain⟨k1,k2,k3⟩:=hi.stop hE
  obtain⟨t1,t2,t3⟩:=natTx_yes hs k1 k2 k3
  intro b3 c3 sp hb3 hc3 _
  have le3:=kset_le (x:=(a.map cellI++sp,((3:TypeId),((0,0):Nat × Nat)))) hb3
  have L3:LR rI (kset V1 b3 (a.map cellI++sp,(3,(0,0)))) ⟨some ⟨b3,0,none⟩,a.length,c3⟩ a [b3]:=lr_cells kset_same hc3 (by omega)
  refine(cI_trim _ ⟨some ⟨b3,0,none⟩,a.length,c3⟩ a [b3] L3).mono ?_
  rintro V4 _ ⟨rfl,s',rfl,L4⟩
  have l3:=le0.trans (le1.trans le3)
  refine⟨nofun,s',rfl,l3,s',trimL a,[b3],true,rfl,L4,⟨by simp,fun y hy=>?_,fun y hy=>?_⟩,.inl ⟨rfl,⟨t1,t2⟩,t3⟩⟩
  ·obtain rfl:y=b3:=by simpa using hy
   exact none_of_le (le0.trans le1) hb3
  ·obtain rfl:y=b3:=by simpa using hy
   exact⟨_,_,kset_same⟩
theorem natTx_iff {s:ByteArray}:NatTx s↔((∀ c∈bl s,Dg c)∧0<s.size)∧¬ (s.size:Int) > 450∧¬ (at0 s 0=48∧(s.size:Int) > 1):=by
 have hl:=bl_len s
 have hh:∀ h:0<s.size,(bl s).head?=some 48↔at0 s 0=48:=fun h=>by
  have h0:0<(bl s).length:=by omega
  have hg:(bl s).head?=some (bl s)[0]:=by rw [List.head?_eq_getElem?,List.getElem?_eq_getElem h0]
  rw [at0_bl h0,hg]
  simp only [Option.some.injEq]
  constructor
  ·intro e
   rw [e]; rfl
  ·intro e
   apply UInt8.toNat_inj.1
   show(bl s)[0].toNat=48
   omega
 constructor
 ·rintro⟨⟨h1,h2,h3⟩,h4⟩
  have hp:0<s.size:=by
   rw [← hl]; exact List.length_pos_iff.2 h1
  exact⟨⟨h2,hp⟩,by omega,fun⟨k1,k2⟩=>h3 (by omega) ((hh hp).2 k1)⟩
 ·rintro⟨⟨h1,h2⟩,h3,h4⟩
  exact⟨⟨fun e=>by rw [e] at hl; simp at hl; omega,h1,fun k e=>h4 ⟨(hh h2).1 e,by omega⟩⟩,by omega⟩
theorem cI_TextNat (V:Know) (s:ByteArray) (hs:s.size≤9223372036854775807):CallX Tryz.prog V 231 [.string s] (NatRd V s):=by
 refine CallX.of_fits Tryz.mix (fI_TextNat _) fun _=>?_
 unfold tI_TextNat
 change CallX _ _ _ _ (fun V' r=>_∧∃ y,_∧(_→_)∧(_→(_→_)∧(_→_∧(_→(_→_)∧(_→T.wp _ _ (readI s) _ _ _))∧(_→T.wp _ _ (readI s) _ _ _))))
 refine(cI_IsDigits V s hs).mono ?_
 rintro _ _ ⟨rfl,e,rfl,he⟩
 refine⟨nofun,e,rfl,fun hf=>?_,fun ht=>⟨fun h450=>?_,fun h450=>⟨⟨by omega,?_⟩,fun h48=>⟨fun h1=>?_,fun h1=>?_⟩,fun h48=>?_⟩⟩⟩
 ·exact rd_no (Know.le.refl _) fun k=>by
   have:=he.2 (natTx_iff.1 k).1
   rw [this] at hf; cases hf
 ·exact rd_no (Know.le.refl _) fun k=>(natTx_iff.1 k).2.1 (of_decide_eq_true h450)
 all_goals
  have hd:=he.1 (by simpa using ht)
  have h2:¬ (s.size:Int) > 450:=of_decide_eq_false h450
 ·omega
 ·exact rd_no (Know.le.refl _) fun k=>(natTx_iff.1 k).2.2 ⟨by simpa using h48,of_decide_eq_true h1⟩
 ·exact readI_wp (natTx_iff.2 ⟨hd,h2,fun k=>absurd k.2 (of_decide_eq_false h1)⟩) (Know.le.refl _)
 ·exact readI_wp (natTx_iff.2 ⟨hd,h2,fun k=>by
   have:at0 s (Int.toNat 0)=48:=k.1
   rw [this] at h48; cases h48⟩) (Know.le.refl _)
end Go.Proofs.YtpdfdkccgkieoaaGreatDoor
namespace Go.Proofs.YtpdfdkccgkieoaaGreatDoor
open Sx
set_option maxRecDepth 100000
def SgnT (s:ByteArray):Prop:=∃ r,bl s=45 :: r
theorem sgn_at {s:ByteArray} (h:0<s.size):at0 s 0=45↔SgnT s:=by
 have hl:=bl_len s
 have h0:0<(bl s).length:=by omega
 have hg:bl s=(bl s)[0] :: (bl s).tail:=by
  rw [List.getElem_zero]
  exact(List.cons_head_tail _).symm
 rw [at0_bl h0]
 constructor
 ·intro e
  refine⟨(bl s).tail,?_⟩
  have:(bl s)[0]=45:=UInt8.toNat_inj.1 (by show(bl s)[0].toNat=45; omega)
  rw [this] at hg
  exact hg
 ·rintro⟨r,hr⟩
  have:(bl s)[0]=45:=by simp [hr]
  rw [this]; rfl
theorem empty_iff {s:ByteArray}:(s.toList == (⟨#[]⟩:ByteArray).toList)=true↔s.size=0:=by
 constructor
 ·intro h
  rw [text_eq.1 h]; rfl
 ·intro h
  refine text_eq.2 (bl_inj ?_)
  rw [← bl_len] at h
  rw [List.eq_nil_of_length_eq_zero h]
end Go.Proofs.YtpdfdkccgkieoaaGreatDoor
