/-
  Contracts of the library's functions, told in terms of what is known of memory.
-/
import Derived.Test.YtagkjnpggkmehaaGreatDoorLit
import Derived.Test.YtagkjnpggkmehaaGreatDoorBytes
import Derived.Test.YtagkjnpggkmehaaGreatDoorDivB
import Derived.Test.YtagkjnpggkmehaaGreatDoorEngD
import Derived.Below
import Derived.Lib.LaidTab
namespace Go.Proofs.YtagkjnpggkmehaaGreatDoor
open Sx
set_option maxRecDepth 100000
theorem at0_bl {s:ByteArray} {i:Nat} (h:i<(bl s).length):at0 s i=((bl s)[i].toNat:Int):=by
 show(((bl s).getD i 0).toNat:Int)=_
 rw [List.getD_eq_getElem?_getD,List.getElem?_eq_getElem h]; rfl
theorem digits_iff {s:ByteArray}:(∀ i,i<s.size→DigitP (at0 s i))↔∀ c∈bl s,Dg c:=by
 constructor
 ·intro h c hc
  obtain⟨i,hi,rfl⟩:=List.getElem_of_mem hc
  have:=h i (by rw [← bl_len]; exact hi)
  rw [at0_bl hi] at this
  unfold DigitP at this
  show 48≤_∧_≤57
  omega
 ·intro h i hi
  have hi':i<(bl s).length:=by rw [bl_len]; exact hi
  have:=h _ (List.getElem_mem hi')
  rw [at0_bl hi']
  unfold DigitP
  omega
abbrev DgPost (V:Know) (s:ByteArray):Know→Value→Prop:=fun V' r=>V'=V∧∃ e,r=.bool e∧(e=true↔(∀ c∈bl s,Dg c)∧0<s.size)
theorem cI_IsDigits (V:Know) (s:ByteArray) (hs:s.size≤9223372036854775807):CallX Tryz.prog V 224 [.string s] (DgPost V s):=by
 refine CallX.of_fits Tryz.mix (fI_IsDigits _) fun _=>?_
 simp only [tI_IsDigits,T.wp]
 refine⟨fun y V'=>V'=V∧∃ i:Nat,y.1=(i:Int)∧i≤s.size∧∀ j,j<i→DigitP (at0 s j),fun y _=>((s.size:Int)-(y.1:Int)).toNat,⟨((0:Int),()),rfl,rfl,0,rfl,Nat.zero_le _,fun j h=>by omega⟩,?_⟩
 rintro⟨(i:Int),u⟩ V' ⟨rfl,k,hk,hkle,hall⟩
 replace hk:i=(k:Int):=hk
 subst hk
 refine⟨fun hlt=>?_,fun hge=>?_⟩
 ·have hks:k<s.size:=by
   have:(k:Int)<(s.size:Int):=of_decide_eq_true hlt
   omega
  have e0:(k:Int).toNat=k:=by omega
  dsimp only
  rw [e0]
  refine⟨⟨(by omega:(0:Int)≤(k:Int)),(by omega:(k:Int)<(s.size:Int))⟩,(cI_isDigit V' _).mono ?_⟩
  rintro V1 _ ⟨rfl,e,rfl,he⟩
  refine⟨nofun,e,rfl,fun hf=>⟨rfl,false,rfl,⟨(fun h=>by cases h),fun h=>?_⟩⟩,fun ht=>⟨_,rfl,(((k+1:Nat):Int),()),by rw [nxt hks hs]; rfl,⟨rfl,k+1,rfl,hks,fun j hj=>?_⟩,?_⟩⟩
  ·have:=he.2 (digits_iff.2 h.1 k hks)
   simp [this] at hf
  ·by_cases ej:j=k
   ·subst ej; exact he.1 (by simpa using ht)
   ·exact hall j (by omega)
  ·show((s.size:Int)-((k+1:Nat):Int)).toNat<((s.size:Int)-(k:Int)).toNat
   omega
 ·have hks:k=s.size:=by
   have:¬ (k:Int)<(s.size:Int):=of_decide_eq_false hge
   omega
  subst hks
  refine⟨rfl,_,rfl,?_⟩
  have h1:∀ c∈bl s,Dg c:=digits_iff.1 hall
  have h2:(s.toList == (⟨#[]⟩:ByteArray).toList)=decide (s=⟨#[]⟩):=by
   cases hq:(s.toList == (⟨#[]⟩:ByteArray).toList) with
   | true=>rw [decide_eq_true (text_eq.1 hq)]
   | false=>exact(decide_eq_false fun e=>by rw [text_eq.2 e] at hq; cases hq).symm
  show(!(s.toList == (⟨#[]⟩:ByteArray).toList))=true↔_
  rw [h2]
  have h3:s=⟨#[]⟩↔s.size=0:=⟨fun e=>by rw [e]; rfl,fun e=>bl_inj (by
   rw [← bl_len] at e
   rw [List.eq_nil_of_length_eq_zero e])⟩
  simp only [Bool.not_eq_true',decide_eq_false_iff_not,h3]
  exact⟨fun h=>⟨h1,by omega⟩,fun h=>by omega⟩
def RdNat (s:ByteArray) (o:List Lim) (ok:Bool):Prop:=(ok=true∧NatOkP o∧natT o=s)∨(ok=false∧o=[]∧¬ ∃ q,NatOkP q∧natT q=s)
abbrev NatRd (V:Know) (s:ByteArray):Know→Value→Prop:=fun V' r=>V.le V'∧∃ t o f ok,r=.tuple #[Sc.val .l t,.bool ok]∧LR rI V' t o f∧Own V V' f∧RdNat s o ok
theorem lr_none {V:Know}:LR rI V ⟨none,0,0⟩ [] []:=⟨rfl,Nat.le_refl _,by simp,.inl ⟨rfl,fun _=>rfl,rfl⟩⟩
theorem rd_no {V V':Know} {s:ByteArray} (le:V.le V') (h:¬ NatTx s):NatRd V s V' (packed [.slice none 0 0,.bool false]) :=
 ⟨le,⟨none,0,0⟩,[],[],false,rfl,lr_none,Own.nil,.inr ⟨rfl,rfl,fun⟨_,h1,h2⟩=>natTx_no h h1.1 h1.2 h2⟩⟩
theorem cutv_bytes {l:List UInt8} {sp:List Value} {i:Nat} (h:i<l.length):cutv (bv l++sp) i 1=some [Value.int .u8 (l[i].toNat:Int)]:=by
 have hb:i<(bv l).length:=by simpa using h
 have hc:i+1≤(bv l++sp).length:=by
  rw [List.length_append]; omega
 unfold cutv
 rw [if_pos hc,List.drop_append_of_le_length (Nat.le_of_lt hb),List.drop_eq_getElem_cons hb]
 simp
theorem dv_snoc {l:List UInt8} {i:Nat} (h:i<l.length):dv (l.take (i+1))=dv (l.take i)*10+(l[i].toNat-48):=by
 rw [List.take_succ_eq_append_getElem h,dv_append]
 show dv (l.take i)*10 ^ 1+dv [l[i]]=_
 rw [dv_cons]
 show _*10 ^ 1+((l[i].toNat-48)*10 ^ 0+0)=_
 omega
def RdInv (s:ByteArray) (a:List Lim) (E:Int):Prop:=∃ e:Nat,E.toNat=e∧-9≤E∧e≤s.size∧Lims a∧valN a=(dv ((bl s).drop e):Int)∧9*a.length+e≤s.size+8∧(0<e→e+9*a.length=s.size)
theorem RdInv.start {s:ByteArray}:RdInv s [] (s.size:Int):=⟨s.size,by omega,by omega,Nat.le_refl _,lims_nil,by rw [List.drop_of_length_le (by rw [bl_len]; omega)]; rfl,by simp,fun _=>rfl⟩
theorem RdInv.step {s:ByteArray} {a:List Lim} {E:Int} (hd:∀ c∈bl s,Dg c) (h:RdInv s a E) (hE:0<E) {j:Nat} (hj:(j:Int)=if E-9 > 0 then E-9 else 0):RdInv s (a++[((dv (((bl s).take E.toNat).drop j):Int),())]) (E-9):=by
 obtain⟨e,h1,h2,h3,h4,h5,h6,h7⟩:=h
 subst h1
 have hl:=bl_len s
 have hj1:j≤E.toNat:=by split at hj <;> omega
 have hj9:E.toNat-j≤9:=by split at hj <;> omega
 have hx:((bl s).take E.toNat).drop j=((bl s).drop j).take (E.toNat-j):=by rw [List.take_drop]; congr 2; omega
 obtain⟨g1,g2⟩:=rd_step hd (j:=j) (by rw [h7 (by omega)]; exact hl.symm) h4 h5 hj1 hj9
 rw [hx]
 have h8:=h7 (by omega)
 refine⟨j,by split at hj <;> omega,by omega,by omega,g1,g2,?_,fun hp=>?_⟩
 ·rw [List.length_append,List.length_singleton]
  split at hj <;> omega
 ·rw [List.length_append,List.length_singleton]
  split at hj <;> omega
theorem RdInv.stop {s:ByteArray} {a:List Lim} {E:Int} (h:RdInv s a E) (hE:¬ 0<E):Lims a∧valN a=(dv (bl s):Int)∧9*a.length≤s.size+8:=by
 obtain⟨e,h1,h2,h3,h4,h5,h6,h7⟩:=h
 have:e=0:=by omega
 subst this
 exact⟨h4,h5,by omega⟩
theorem RdInv.len {s:ByteArray} {a:List Lim} {E:Int} (h:RdInv s a E):9*a.length≤s.size+8∧E≤s.size:=by
 obtain⟨e,h1,h2,h3,h4,h5,h6,h7⟩:=h
 exact⟨by omega,by omega⟩
noncomputable def readI (x0:ByteArray):T :=
 .lp [.a 3,.o (.o (.i .i64))] [.a 3 ((0:Nat)) [],.v (.int .i64 ((x0.size:Int)))] fun y2 =>
 .br (decide (y2.2.fst > (0:Int))) (
  .rq (((0:Int)≤if Go.IntKind.i64.wrap (y2.2.fst-(9:Int)) > (0:Int) then Go.IntKind.i64.wrap (y2.2.fst-(9:Int)) else (0:Int))∧(if Go.IntKind.i64.wrap (y2.2.fst-(9:Int)) > (0:Int) then Go.IntKind.i64.wrap (y2.2.fst-(9:Int)) else (0:Int))≤y2.2.fst∧y2.2.fst≤(x0.size:Int)) <|
  .mo (.cv 9 28 (.string (x0.extract (if Go.IntKind.i64.wrap (y2.2.fst-(9:Int)) > (0:Int) then Go.IntKind.i64.wrap (y2.2.fst-(9:Int)) else (0:Int)).toNat (Int.toNat y2.2.fst)))) (.v (.o (.l))) fun y3 =>
  .lp [.o (.o (.i .i64)),.o (.o (.i .i64))] [.v (.int .i64 ((0:Int))),.v (.int .i64 ((0:Int)))] fun y4 =>
  .br (decide (y4.2.fst<(y3.n:Int))) (
   .el (y3.1) (y3.n) (y4.2.fst) fun y5 =>
   .ld false (y5.add (Int.toNat y4.2.fst*(1:Nat))) (.o (.i .u8)) fun y6 =>
   .nx 1 [.v (.int .i64 (Go.IntKind.i64.wrap (Go.IntKind.i64.wrap ((10:Int)*y4.fst)+Go.IntKind.i64.wrap (Go.IntKind.u8.wrap (y6-(48:Int)))))),.v (.int .i64 (Go.IntKind.i64.wrap (y4.2.fst+(1:Int))))]) <|
  .rq ([Go.Value.int Go.IntKind.i64 y4.fst].length=(1:Nat)*(1:Nat)) <|
  .rq (one [Go.Value.int Go.IntKind.i64 y4.fst]=true∧(y2.1.fst+(1:Nat))*(8:Nat)≤(140737488355328:Nat)∧y2.1.fst+(1:Nat)≤(9223372036854775807:Nat)) <|
  .nx 0 [.a 3 (y2.1.fst+(1:Nat)) (y2.1.2++[Go.Value.int Go.IntKind.i64 y4.fst]),.v (.int .i64 (Go.IntKind.i64.wrap (y2.2.fst-(9:Int))))]) <|
 .fz (y2.1.fst) (y2.1.2) 3 fun b3 c3 =>
 .call false 121 [.slice (some { block:=b3,off:=(0:Nat):Go.Addr }) (y2.1.fst) (c3)] (.v (.o (.l))) fun y4 =>
 .ret [Sc.val .l (y4),.bool (true)]
theorem readI_wp {V:Know} {s:ByteArray} (hs:NatTx s) {V0:Know} (le0:V0.le V):(readI s).wp Tryz.prog (fun V' vs=>NatRd V0 s V' (packed vs)) V V []:=by
 simp only [readI,T.wp]
 have h450:=hs.2
 have hd:=hs.1.2.1
 refine⟨fun y V'=>V.le V'∧∃ a:List Lim,y.1.1=a.length∧y.1.2=a.map cellI∧RdInv s a (y.2.1:Int),fun y _=>((y.2.1:Int)+9).toNat,
  ⟨((0,[]),(s.size:Int),()),rfl,Know.le.refl _,[],rfl,rfl,RdInv.start⟩,?_⟩
 rintro⟨⟨(m:Nat),(ys:List Value)⟩,(E:Int),u⟩ V1 ⟨le1,a,hm,hy,hi⟩
 replace hm:m=a.length:=hm
 replace hy:ys=a.map cellI:=hy
 replace hi:RdInv s a E:=hi
 subst hm hy
 obtain⟨hlen,hEs⟩:=hi.len
 refine⟨fun hgt=>?_,fun hle=>?_⟩
 ·have hE:0<E:=of_decide_eq_true hgt
  have ew:IntKind.i64.wrap (E-9)=E-9:=wrap_i64 (by omega)
  dsimp only
  rw [ew]
  obtain⟨j,hj⟩:∃ j:Nat,(j:Int)=if E-9 > 0 then E-9 else 0:=⟨(if E-9 > 0 then E-9 else 0).toNat,by split <;> omega⟩
  rw [← hj,Int.toNat_natCast]
  have hjE:(j:Int)≤E:=by split at hj <;> omega
  refine⟨⟨by omega,hjE,hEs⟩,semx_bytes (by kernel_rfl) (by kernel_rfl) (e:=5) (by kernel_rfl) fun b cap sp hb hcap=>?_⟩
  have hX:bl (s.extract j E.toNat)=((bl s).take E.toNat).drop j:=bl_extract s j E.toNat
  have hstep:=hi.step hd hE hj
  have hXl:(((bl s).take E.toNat).drop j).length=(s.extract j E.toNat).size:=by rw [← hX,bl_len]
  have hX9:(((bl s).take E.toNat).drop j).length≤9:=by
   rw [List.length_drop,List.length_take]
   split at hj <;> omega
  have hXd:∀ c∈((bl s).take E.toNat).drop j,Dg c:=fun c hc=>hd c (List.mem_of_mem_take (List.mem_of_mem_drop hc))
  rw [← hXl]
  rw [hX]
  generalize ((bl s).take E.toNat).drop j=X at *
  refine⟨⟨some ⟨b,0,none⟩,X.length,cap⟩,rfl,?_⟩
  have leb:=kset_le (x:=(bv X++sp,((5:TypeId),((cap,cap+1):Nat × Nat)))) hb
  have hkb:kset V1 b (bv X++sp,(5,(cap,cap+1))) b=some (bv X++sp,(5,(cap,cap+1))):=kset_same
  revert leb hkb
  generalize kset V1 b (bv X++sp,(5,(cap,cap+1)))=V2
  intro leb hkb
  refine⟨fun y V'=>V'=V2∧∃ i:Nat,(y.2.1:Int)=(i:Int)∧i≤X.length∧(y.1:Int)=(dv (X.take i):Int),fun y _=>((X.length:Int)-(y.2.1:Int)).toNat,
   ⟨((0:Int),(0:Int),()),rfl,rfl,0,rfl,Nat.zero_le _,rfl⟩,?_⟩
  rintro⟨(z:Int),(q:Int),u⟩ V3 ⟨rfl,i,hq,hiX,hz⟩
  replace hq:q=(i:Int):=hq
  replace hz:z=(dv (X.take i):Int):=hz
  subst hq hz
  have hbd:dv (X.take i)<1000000000:=by
   have:=dv_part hXd 0 i (by omega)
   rwa [List.drop_zero] at this
  refine⟨fun hlt=>?_,fun hge=>?_⟩
  ·have hi':i<X.length:=by
    have:(i:Int)<(X.length:Int):=of_decide_eq_true hlt
    omega
   have hdg:=hXd _ (List.getElem_mem hi')
   dsimp only
   rw [Int.toNat_natCast,Nat.mul_one]
   refine⟨⟨b,0,none⟩,rfl,(by omega:(0:Int)≤(i:Int)),(by omega:(i:Int)<(X.length:Int)),((X[i].toNat:Nat):Int),?_,_,rfl,(((dv (X.take (i+1)):Nat):Int),((i+1:Nat):Int),()),?_,⟨rfl,i+1,rfl,hi',rfl⟩,?_⟩
   ·simp only [addr_add_eq,loadV,hkb,Nat.zero_add,Bool.false_eq_true,if_false]
    exact cutv_bytes hi'
   ·have hsn:=dv_snoc hi'
    have e1:IntKind.u8.wrap (((X[i].toNat:Nat):Int)-48)=(X[i].toNat:Int)-48:=by
     show(((X[i].toNat:Nat):Int)-48) % 2 ^ 8=_
     exact Int.emod_eq_of_lt (by omega) (by omega)
    rw [e1,wrap_i64 (n:=10*((dv (X.take i):Nat):Int)) (by omega),wrap_i64 (n:=((X[i].toNat:Nat):Int)-48) (by omega),wrap_i64 (by omega),nxt hi' (by omega),hsn]
    have e2:10*((dv (X.take i):Nat):Int)+(((X[i].toNat:Nat):Int)-48)=((dv (X.take i)*10+(X[i].toNat-48):Nat):Int):=by omega
    rw [e2]; rfl
   ·show((X.length:Int)-((i+1:Nat):Int)).toNat<((X.length:Int)-(i:Int)).toNat
    omega
  ·have hi':i=X.length:=by
    have:¬ (i:Int)<(X.length:Int):=of_decide_eq_false hge
    omega
   subst hi'
   rw [List.take_length]
   refine⟨rfl,⟨rfl,(by omega:(a.length+1)*8≤140737488355328),(by omega:a.length+1≤9223372036854775807)⟩,_,rfl,((a.length+1,(a++[(((dv X:Nat):Int),())]).map cellI),E-9,()),by simp [LShs.lvs,LSh.lv,Sh1.val,Sc.val,cellI],⟨le1.trans leb,a++[(((dv X:Nat):Int),())],by simp,rfl,hstep⟩,?_⟩
   show(E-9+9).toNat<(E+9).toNat
   omega
 ·have hE:¬ 0<E:=of_decide_eq_false hle
  obtain⟨k1,k2,k3⟩:=hi.stop hE
  obtain⟨t1,t2,t3⟩:=natTx_yes hs k1 k2 k3
  intro b3 c3 sp hb3 hc3 _
  have le3:=kset_le (x:=(a.map cellI++sp,((3:TypeId),((0,0):Nat × Nat)))) hb3
  have L3:LR rI (kset V1 b3 (a.map cellI++sp,(3,(0,0)))) ⟨some ⟨b3,0,none⟩,a.length,c3⟩ a [b3]:=lr_cells kset_same hc3 (by omega)
  refine(cI_trim _ ⟨some ⟨b3,0,none⟩,a.length,c3⟩ a [b3] L3).mono ?_
  rintro V4 _ ⟨rfl,s',rfl,L4⟩
  have l3:=le0.trans (le1.trans le3)
  refine⟨nofun,s',rfl,l3,s',trimL a,[b3],true,rfl,L4,⟨by simp,fun y hy=>?_,fun y hy=>?_⟩,.inl ⟨rfl,⟨t1,t2⟩,t3⟩⟩
  ·obtain rfl:y=b3:=by simpa using hy
   exact none_of_le (le0.trans le1) hb3
  ·obtain rfl:y=b3:=by simpa using hy
   exact⟨_,_,kset_same⟩
theorem natTx_iff {s:ByteArray}:NatTx s↔((∀ c∈bl s,Dg c)∧0<s.size)∧¬ (s.size:Int) > 450∧¬ (at0 s 0=48∧(s.size:Int) > 1):=by
 have hl:=bl_len s
 have hh:∀ h:0<s.size,(bl s).head?=some 48↔at0 s 0=48:=fun h=>by
  have h0:0<(bl s).length:=by omega
  have hg:(bl s).head?=some (bl s)[0]:=by rw [List.head?_eq_getElem?,List.getElem?_eq_getElem h0]
  rw [at0_bl h0,hg]
  simp only [Option.some.injEq]
  constructor
  ·intro e
   rw [e]; rfl
  ·intro e
   apply UInt8.toNat_inj.1
   show(bl s)[0].toNat=48
   omega
 constructor
 ·rintro⟨⟨h1,h2,h3⟩,h4⟩
  have hp:0<s.size:=by
   rw [← hl]; exact List.length_pos_iff.2 h1
  exact⟨⟨h2,hp⟩,by omega,fun⟨k1,k2⟩=>h3 (by omega) ((hh hp).2 k1)⟩
 ·rintro⟨⟨h1,h2⟩,h3,h4⟩
  exact⟨⟨fun e=>by rw [e] at hl; simp at hl; omega,h1,fun k e=>h4 ⟨(hh h2).1 e,by omega⟩⟩,by omega⟩
theorem cI_TextNat (V:Know) (s:ByteArray) (hs:s.size≤9223372036854775807):CallX Tryz.prog V 166 [.string s] (NatRd V s):=by
 refine CallX.of_fits Tryz.mix (fI_TextNat _) fun _=>?_
 unfold tI_TextNat
 change CallX _ _ _ _ (fun V' r=>_∧∃ y,_∧(_→_)∧(_→(_→_)∧(_→_∧(_→(_→_)∧(_→T.wp _ _ (readI s) _ _ _))∧(_→T.wp _ _ (readI s) _ _ _))))
 refine(cI_IsDigits V s hs).mono ?_
 rintro _ _ ⟨rfl,e,rfl,he⟩
 refine⟨nofun,e,rfl,fun hf=>?_,fun ht=>⟨fun h450=>?_,fun h450=>⟨⟨by omega,?_⟩,fun h48=>⟨fun h1=>?_,fun h1=>?_⟩,fun h48=>?_⟩⟩⟩
 ·exact rd_no (Know.le.refl _) fun k=>by
   have:=he.2 (natTx_iff.1 k).1
   rw [this] at hf; cases hf
 ·exact rd_no (Know.le.refl _) fun k=>(natTx_iff.1 k).2.1 (of_decide_eq_true h450)
 all_goals
  have hd:=he.1 (by simpa using ht)
  have h2:¬ (s.size:Int) > 450:=of_decide_eq_false h450
 ·omega
 ·exact rd_no (Know.le.refl _) fun k=>(natTx_iff.1 k).2.2 ⟨by simpa using h48,of_decide_eq_true h1⟩
 ·exact readI_wp (natTx_iff.2 ⟨hd,h2,fun k=>absurd k.2 (of_decide_eq_false h1)⟩) (Know.le.refl _)
 ·exact readI_wp (natTx_iff.2 ⟨hd,h2,fun k=>by
   have:at0 s (Int.toNat 0)=48:=k.1
   rw [this] at h48; cases h48⟩) (Know.le.refl _)
end Go.Proofs.YtagkjnpggkmehaaGreatDoor
namespace Go.Proofs.YtagkjnpggkmehaaGreatDoor
open Sx
set_option maxRecDepth 100000
def RdInt (s:ByteArray) (e:Bool) (o:List Lim) (ok:Bool):Prop:=(ok=true∧IntOkP e o∧intT e o=s)∨(ok=false∧e=false∧o=[]∧¬ ∃ e o,IntOkP e o∧intT e o=s)
abbrev IntRd (V:Know) (s:ByteArray):Know→Value→Prop:=fun V' r=>V.le V'∧∃ e t o f ok,r=.tuple #[qv1 (e,t,()),.bool ok]∧LR rI V' t o f∧Own V V' f∧RdInt s e o ok
def SgnT (s:ByteArray):Prop:=∃ r,bl s=45 :: r
theorem sgn_no {s:ByteArray} (h:¬ SgnT s) {e:Bool} {o:List Lim} (k:intT e o=s):e=false∧natT o=s:=by
 cases e with
 | true=>exact absurd ⟨_,by rw [← k,intT_neg]⟩ h
 | false=>exact⟨rfl,by rw [← k,intT_pos]⟩
theorem sgn_yes {s:ByteArray} (h:SgnT s) {e:Bool} {o:List Lim} (c:Can o) (k:intT e o=s):e=true∧natT o=s.extract 1 s.size:=by
 obtain⟨r,hr⟩:=h
 cases e with
 | true =>
  refine⟨rfl,bl_inj ?_⟩
  rw [bl_tail,← k,intT_neg]; rfl
 | false =>
  rw [intT_pos] at k
  exact absurd (natT_dg c 45 (by rw [k,hr]; simp)) (by decide)
theorem sgn_join {s:ByteArray} (h:SgnT s) {o:List Lim} (k:natT o=s.extract 1 s.size):intT true o=s:=by
 obtain⟨r,hr⟩:=h
 refine bl_inj ?_
 rw [intT_neg,k,bl_tail,hr]; rfl
theorem rdInt_neg {s:ByteArray} (h:SgnT s) {o:List Lim} {ok:Bool} (k:RdNat (s.extract 1 s.size) o ok):(ok=false→RdInt s false [] false)∧(ok=true→o.length=0→RdInt s false [] false)∧(ok=true→o.length≠0→RdInt s true o true):=by
 refine⟨fun e=>?_,fun e h0=>?_,fun e h0=>?_⟩
 ·subst e
  rcases k with ⟨e,_⟩ | ⟨_,_,k⟩
  ·cases e
  ·exact .inr ⟨rfl,rfl,rfl,fun⟨e,q,h1,h2⟩=>k ⟨q,h1.1,(sgn_yes h h1.1.1 h2).2⟩⟩
 ·subst e
  rcases k with ⟨_,k1,k2⟩ | ⟨e,_⟩
  ·refine .inr ⟨rfl,rfl,rfl,fun⟨e,q,h1,h2⟩=>?_⟩
   obtain⟨rfl,h3⟩:=sgn_yes h h1.1.1 h2
   have:=natT_inj h1.1.1 k1.1 (h3.trans k2.symm)
   subst this
   have:=h1.2 rfl
   omega
  ·cases e
 ·subst e
  rcases k with ⟨_,k1,k2⟩ | ⟨e,_⟩
  ·exact .inl ⟨rfl,⟨k1,fun _=>by omega⟩,sgn_join h k2⟩
  ·cases e
theorem rdInt_pos {s:ByteArray} (h:¬ SgnT s) {o:List Lim} {ok:Bool} (k:RdNat s o ok):(ok=false→RdInt s false [] false)∧(ok=true→RdInt s false o true):=by
 refine⟨fun e=>?_,fun e=>?_⟩
 ·subst e
  rcases k with ⟨e,_⟩ | ⟨_,_,k⟩
  ·cases e
  ·exact .inr ⟨rfl,rfl,rfl,fun⟨e,q,h1,h2⟩=>k ⟨q,h1.1,(sgn_no h h2).2⟩⟩
 ·subst e
  rcases k with ⟨_,k1,k2⟩ | ⟨e,_⟩
  ·exact .inl ⟨rfl,⟨k1,(fun h=>by cases h)⟩,by rw [intT_pos]; exact k2⟩
  ·cases e
theorem sgn_at {s:ByteArray} (h:0<s.size):at0 s 0=45↔SgnT s:=by
 have hl:=bl_len s
 have h0:0<(bl s).length:=by omega
 have hg:bl s=(bl s)[0] :: (bl s).tail:=by
  rw [List.getElem_zero]
  exact(List.cons_head_tail _).symm
 rw [at0_bl h0]
 constructor
 ·intro e
  refine⟨(bl s).tail,?_⟩
  have:(bl s)[0]=45:=UInt8.toNat_inj.1 (by show(bl s)[0].toNat=45; omega)
  rw [this] at hg
  exact hg
 ·rintro⟨r,hr⟩
  have:(bl s)[0]=45:=by simp [hr]
  rw [this]; rfl
theorem int_no {V V':Know} {s:ByteArray} (le:V.le V') (h:RdInt s false [] false):IntRd V s V' (packed [qv1 (false,⟨none,0,0⟩,()),.bool false]) :=
 ⟨le,false,⟨none,0,0⟩,[],[],false,rfl,lr_none,Own.nil,h⟩
noncomputable def strT (x0:ByteArray) (g:Nat):T :=
 .rq ((0:Int)≤(0:Int)∧(0:Int)<(x0.size:Int)) <|
 .br (at0 x0 (Int.toNat (0:Int)) == (45:Int)) (
  .rq ((0:Int)≤(1:Int)∧(1:Int)≤(x0.size:Int)∧(x0.size:Int)≤(x0.size:Int)) <|
  .call false g [.string (x0.extract (Int.toNat (1:Int)) (x0.size:Int).toNat)] (.t [(.o (.l)),(.o (.b))]) fun y1 =>
  .br (!y1.2.fst) (
   .ret [qv1 ((false),(⟨(none),((0:Nat)),((0:Nat))⟩:SlV),()),.bool (false)]) <|
  .br (at0 x0 (Int.toNat (0:Int)) == (45:Int)) (
   .br ((y1.1.n:Int) == (0:Int)) (
    .ret [qv1 ((false),(⟨(none),((0:Nat)),((0:Nat))⟩:SlV),()),.bool (false)]) <|
   .ret [qv1 ((at0 x0 (Int.toNat (0:Int)) == (45:Int)),y1.1,()),.bool (true)]) <|
  .ret [qv1 ((at0 x0 (Int.toNat (0:Int)) == (45:Int)),y1.1,()),.bool (true)]) <|
 .call false g [.string (x0)] (.t [(.o (.l)),(.o (.b))]) fun y1 =>
 .br (!y1.2.fst) (
  .ret [qv1 ((false),(⟨(none),((0:Nat)),((0:Nat))⟩:SlV),()),.bool (false)]) <|
 .br (at0 x0 (Int.toNat (0:Int)) == (45:Int)) (
  .br ((y1.1.n:Int) == (0:Int)) (
   .ret [qv1 ((false),(⟨(none),((0:Nat)),((0:Nat))⟩:SlV),()),.bool (false)]) <|
  .ret [qv1 ((at0 x0 (Int.toNat (0:Int)) == (45:Int)),y1.1,()),.bool (true)]) <|
 .ret [qv1 ((at0 x0 (Int.toNat (0:Int)) == (45:Int)),y1.1,()),.bool (true)]
theorem strT_wp {V:Know} {s:ByteArray} {g:Nat} (hs:s.size≤9223372036854775807) (hp:0<s.size) (hg:∀ t:ByteArray,t.size≤9223372036854775807→CallX Tryz.prog V g [.string t] (NatRd V t)):(strT s g).wp Tryz.prog (fun V' vs=>IntRd V s V' (packed vs)) V V []:=by
 simp only [strT,T.wp]
 have e0:at0 s (Int.toNat 0)=at0 s 0:=rfl
 refine⟨⟨by omega,by omega⟩,fun h45=>?_,fun h45=>?_⟩
 ·have hS:SgnT s:=(sgn_at hp).1 (by simpa using h45)
  refine⟨⟨by omega,by omega,by omega⟩,(hg _ (by rw [ByteArray.size_extract]; omega)).mono ?_⟩
  rintro V1 _ ⟨le1,t,o,f,ok,rfl,L1,O1,k⟩
  rw [show(Int.toNat (1:Int))=1 from rfl,Int.toNat_natCast] at k
  obtain⟨k1,k2,k3⟩:=rdInt_neg hS k
  have hn:=L1.1
  have z0:((t.n:Int) == (0:Int))=true→o.length=0:=fun h=>by
   have:(t.n:Int)=0:=by simpa using h
   omega
  have z1:((t.n:Int) == (0:Int))=false→o.length≠0:=fun h=>by
   have:¬ (t.n:Int)=0:=by simpa using h
   omega
  refine⟨nofun,(t,ok,()),rfl,fun hf=>int_no le1 (k1 (by simpa using hf)),fun ht=>⟨fun _=>⟨fun h0=>int_no le1 (k2 (by simpa using ht) (z0 h0)),fun h0=>?_⟩,fun h=>by rw [h45] at h; cases h⟩⟩
  rw [h45]
  exact⟨le1,true,t,o,f,true,rfl,L1,O1,k3 (by simpa using ht) (z1 h0)⟩
 ·have hS:¬ SgnT s:=fun k=>by
   have:=(sgn_at hp).2 k
   rw [e0,this] at h45; cases h45
  refine(hg s hs).mono ?_
  rintro V1 _ ⟨le1,t,o,f,ok,rfl,L1,O1,k⟩
  obtain⟨k1,k2⟩:=rdInt_pos hS k
  refine⟨nofun,(t,ok,()),rfl,fun hf=>int_no le1 (k1 (by simpa using hf)),fun ht=>⟨(fun h=>by rw [h45] at h; cases h),fun _=>?_⟩⟩
  rw [h45]
  exact⟨le1,false,t,o,f,true,rfl,L1,O1,k2 (by simpa using ht)⟩
noncomputable def strE (x0:ByteArray) (g:Nat):T :=
 .call false g [.string (x0)] (.t [(.o (.l)),(.o (.b))]) fun y1 =>
 .br (!y1.2.fst) (
  .ret [qv1 ((false),(⟨(none),((0:Nat)),((0:Nat))⟩:SlV),()),.bool (false)]) <|
 .ret [qv1 ((false),y1.1,()),.bool (true)]
theorem strE_wp {V:Know} {s:ByteArray} {g:Nat} (hp:s.size=0) (hg:CallX Tryz.prog V g [.string s] (NatRd V s)):(strE s g).wp Tryz.prog (fun V' vs=>IntRd V s V' (packed vs)) V V []:=by
 simp only [strE,T.wp]
 have hS:¬ SgnT s:=fun⟨r,hr⟩=>by
  have:=bl_len s
  rw [hr] at this
  simp at this; omega
 refine hg.mono ?_
 rintro V1 _ ⟨le1,t,o,f,ok,rfl,L1,O1,k⟩
 obtain⟨k1,k2⟩:=rdInt_pos hS k
 exact⟨nofun,(t,ok,()),rfl,fun hf=>int_no le1 (k1 (by simpa using hf)),fun ht=>⟨le1,false,t,o,f,true,rfl,L1,O1,k2 (by simpa using ht)⟩⟩
theorem empty_iff {s:ByteArray}:(s.toList == (⟨#[]⟩:ByteArray).toList)=true↔s.size=0:=by
 constructor
 ·intro h
  rw [text_eq.1 h]; rfl
 ·intro h
  refine text_eq.2 (bl_inj ?_)
  rw [← bl_len] at h
  rw [List.eq_nil_of_length_eq_zero h]
theorem cI_StrInt (V:Know) (s:ByteArray) (hs:s.size≤9223372036854775807):CallX Tryz.prog V 165 [.string s] (IntRd V s):=by
 refine CallX.of_fits Tryz.mix (fI_StrInt _) fun _=>?_
 unfold tI_StrInt
 change (_→T.wp _ _ (strT s 166) _ _ _)∧(_→T.wp _ _ (strE s 166) _ _ _)
 refine⟨fun h=>strT_wp hs ?_ fun t ht=>cI_TextNat V t ht,fun h=>strE_wp ?_ (cI_TextNat V s hs)⟩
 ·rcases Nat.eq_zero_or_pos s.size with k | k
  ·rw [empty_iff.2 k] at h; cases h
  ·exact k
 ·exact empty_iff.1 (by simpa using h)
end Go.Proofs.YtagkjnpggkmehaaGreatDoor
namespace Go.Proofs.YtagkjnpggkmehaaGreatDoor
open Sx Go.RowKit
set_option maxRecDepth 100000
theorem CallX.of_calls {P:Program} {V:Know} {g:FuncId} {args:List Value} {v:Value} (he:Enters P g)
  (h:∀ w,V.on w→Calls P g args.toArray w fun e w'=>e=.returned v∧Below w.heap.size w w'):CallX P V g args (fun V' r=>V'=V∧r=v) :=
 ⟨he,fun w hw=>(h w hw).mono fun _ _ ⟨he,hb⟩=>⟨V,v,he,⟨hb.os,hb.tape,hb.output,hb.size,fun b hb' _=>hb.block b hb',fun _ _ h=>h⟩,fun b c t hv=>by
  have hk:=hw b c t hv
  have hlt:b<w.heap.size:=(Array.getElem?_eq_some_iff.1 hk).1
  rw [hb.block b hlt]; exact hk,rfl,rfl⟩⟩
theorem ints_noTup (k:IntKind):∀ zs:List Int,noTup (zs.map fun z=>Value.int k z)=true
 | []=>rfl
 | z :: l=>by
  have ih:=ints_noTup k l
  unfold noTup at ih ⊢
  rw [List.map_cons,List.all_cons,ih]; rfl
theorem tab_of {P:Program} {V:Know} {w:World} {name:String} {k:IntKind} {zs:List Int} {g:Nat} {t:TypeId × Nat × Nat} (hg:P.globalNamed name=some g) (hV:V g=some (zs.map fun z=>Value.int k z,t)) (hw:V.on w):Go.Lib.TabIs P w name k zs:=by
 have h:=hw g _ _ hV
 unfold Go.Lib.TabIs World.var?
 rw [hg]
 simp only [Option.bind_some,h]
 rw [objOf_cells (ints_noTup k zs)]
end Go.Proofs.YtagkjnpggkmehaaGreatDoor
