/-
  The walk of the law: the program's TextCmd returns what the reference's returns.
-/
import Derived.Test.YtpkmhkbkohppiaaGreatDoorMkA
import Derived.Test.YtpkmhkbkohppiaaGreatDoorLedA
namespace Go.Proofs.YtpkmhkbkohppiaaGreatDoor
open Sx
set_option maxRecDepth 100000
abbrev DString:Type:=ByteArray × Unit
abbrev mString:Mk DString:=mkStr (mkNil)
theorem cL_markStringS (V:Know) (s:SlV) (l:List DString) (f:List Nat) (k:Int) (h:LR rString V s l f) (hnd:f.Nodup) (hw:Wr V f) (hk0:0≤k) (hk1:k+cntE mString l≤4611686018427387904) :
  CallX Tryz.prog V 35 [Sc.val .l s,.int .i64 k] (fun V' r=>LeBut f V V'∧Wr V' f∧r=.int .i64 (k+cntE mString l)∧∃ l',LR rString V' s l' f∧okE mString k l'∧cntE mString l'=cntE mString l):=by
 refine CallX.of_fits Tryz.mix (fL_markStringS _ _) fun _=>?_
 simp only [tL_markStringS]
 refine mark_lp rString mString h hnd hw hk0 hk1 ?_ fun V1 l' h1 h2 h3 h4 h5=>⟨h1,h2,rfl,l',h3,h4,h5⟩
 rintro N V1 j k b o A R tt ⟨c0,cu⟩ ⟨x0,xu⟩ w a1 hA hj h63 hk hkc hv hR hnd hw hnext
 replace hA:A.length=o+j*1:=hA
 obtain⟨⟨ec0,zc0⟩,hR⟩:=hR
 replace ec0:c0=x0:=ec0
 subst ec0
 replace zc0:c0.size≤9223372036854775807:=zc0
 replace hR:_=[]:=hR
 subst hR
 replace hkc:k+(((1+0):Nat):Int)≤4611686018427387904:=hkc
 replace hv:V1 b=some (A++([.string c0]++R),(tt,((0,0):Nat × Nat))):=hv
 have hB:LeBut (b :: ([])) V1 V1:=LeBut.refl
 refine(cL_markText V1 k (by omega)).mono ?_
 rintro V2 _ ⟨hle2,rfl,zc0⟩
 refine⟨nofun,_,rfl,?_⟩
 replace hv:=hle2 _ _ hv
 replace hB:=hB.trans (LeBut.of_le hle2)
 refine wp_el a1 (Int.natCast_nonneg j) (by omega:(j:Int)<(s.n:Int)) ?_
 refine wp_st1 (v:=(.string (mtext k))) hv (by simp only [addr_add_eq,Int.toNat_natCast]; exact addr_at (by first | omega | (simp only [List.length_append,List.length_cons,List.length_nil]; omega))) rfl ?_
 clear hv
 intro V3 hv hk3
 replace hB:LeBut (b :: ([])) V1 V3:=fun y z hy hz=>by rw [hk3 y fun e=>hy (by simp [e])]; exact hB y z hy hz
 have q1_1:IntKind.i64.wrap (k+1)=k+1:=wrap_i64 (by omega)
 refine⟨_,rfl,?_⟩
 have ecnt:mString.cnt (c0,())=(1+0):=rfl
 have eend:IntKind.i64.wrap (k+1)=k+((mString.cnt (c0,()):Nat):Int):=by
  rw [ecnt]
  rw [q1_1]
  omega
 have hrow:rString.R V3 (mtext k,()) (mtext k,()) ([]):=(rStr.mk zc0 rNil.mk)
 have hN:=hnext V3 (mtext k,()) (mtext k,()) (by show V3 b=some (A++([.string (mtext k)]++R),(tt,((0,0):Nat × Nat))); rw [hv]; simp) hrow ?_ hB ⟨rfl,trivial⟩ (by show(1+0)=(1+0); omega)
 ·show N [.v (.int .i64 (IntKind.i64.wrap (k+1))),.v (.int .i64 (IntKind.i64.wrap ((j:Int)+1)))] V3
  rw [eend,nxt hj h63]
  exact hN
 ·intro y hy; cases hy
theorem cL_markSigned (V:Know) (c0:Bool) (c1:SlV) (x1:List Lim) (w1:List Nat) (k:Int) (s1:LR rI V c1 x1 w1) (hn1:w1.Nodup) (hW1:Wr V w1) (hk0:0≤k) (hk1:(k+((cntE mI x1:Nat):Int))≤4611686018427387904) :
  CallX Tryz.prog V 75 [qv1 (c0,c1,()),.int .i64 k] (fun V' r=>LeBut (w1++[]) V V'∧r=.int .i64 (k+((cntE mI x1:Nat):Int))∧∃ (y1:List Lim),(LR rI V' c1 y1 w1∧Wr V' w1∧okE mI k y1∧cntE mI y1=cntE mI x1)):=by
 refine CallX.of_fits Tryz.mix (fL_markSigned _ _) fun _=>?_
 simp only [tL_markSigned,T.wp]
 have hB:LeBut (w1++[]) V V:=LeBut.refl
 refine(cL_markIntS' V c1 x1 w1 k s1 hn1 hW1 (by omega) (by omega)).mono ?_
 rintro V1 _ ⟨hb1,hW1,rfl,y1,s1,ok1,ce1⟩
 refine⟨nofun,_,rfl,?_⟩
 replace hB:=hB.trans (hb1.sub (g:=(w1++[])) fun y hy=>by simp at hy ⊢; simp [hy])
 exact⟨hB,rfl,y1,⟨s1,hW1,ok1,ce1⟩⟩
theorem cL_markMoney (V:Know) (c0:ByteArray) (c1:Bool) (c2:SlV) (x2:List Lim) (w2:List Nat) (k:Int) (s2:LR rI V c2 x2 w2) (hn2:w2.Nodup) (hW2:Wr V w2) (hk0:0≤k) (hk1:(k+((cntE mI x2:Nat):Int))≤4611686018427387904) :
  CallX Tryz.prog V 34 [qv2 (c0,c1,c2,()),.int .i64 k] (fun V' r=>LeBut (w2++[]) V V'∧r=.int .i64 (k+((cntE mI x2:Nat):Int))∧∃ (y2:List Lim),(LR rI V' c2 y2 w2∧Wr V' w2∧okE mI k y2∧cntE mI y2=cntE mI x2)):=by
 refine CallX.of_fits Tryz.mix (fL_markMoney _ _) fun _=>?_
 simp only [tL_markMoney,T.wp]
 have hB:LeBut (w2++[]) V V:=LeBut.refl
 refine(cL_markSigned V c1 c2 x2 w2 k s2 hn2 hW2 (by omega) (by omega)).mono ?_
 rintro V1 _ ⟨hb1,rfl,y2,⟨s2,hW2,ok2,ce2⟩⟩
 refine⟨nofun,_,rfl,?_⟩
 replace hB:=hB.trans (hb1.sub (g:=(w2++[])) fun y hy=>by simp at hy ⊢; simp [hy])
 exact⟨hB,rfl,y2,⟨s2,hW2,ok2,ce2⟩⟩
theorem cL_markDec (V:Know) (c0:Bool) (c1:SlV) (c2:Int) (x1:List Lim) (w1:List Nat) (k:Int) (s1:LR rI V c1 x1 w1) (hn1:w1.Nodup) (hW1:Wr V w1) (hk0:0≤k) (hk1:(k+((cntE mI x1:Nat):Int))≤4611686018427387904) :
  CallX Tryz.prog V 37 [qv0 (c0,c1,c2,()),.int .i64 k] (fun V' r=>LeBut (w1++[]) V V'∧r=.int .i64 (k+((cntE mI x1:Nat):Int))∧∃ (y1:List Lim),(LR rI V' c1 y1 w1∧Wr V' w1∧okE mI k y1∧cntE mI y1=cntE mI x1)):=by
 refine CallX.of_fits Tryz.mix (fL_markDec _ _) fun _=>?_
 simp only [tL_markDec,T.wp]
 have hB:LeBut (w1++[]) V V:=LeBut.refl
 refine(cL_markSigned V c0 c1 x1 w1 k s1 hn1 hW1 (by omega) (by omega)).mono ?_
 rintro V1 _ ⟨hb1,rfl,y1,⟨s1,hW1,ok1,ce1⟩⟩
 refine⟨nofun,_,rfl,?_⟩
 replace hB:=hB.trans (hb1.sub (g:=(w1++[])) fun y hy=>by simp at hy ⊢; simp [hy])
 exact⟨hB,rfl,y1,⟨s1,hW1,ok1,ce1⟩⟩
theorem cL_markRate (V:Know) (c0:ByteArray) (c1:ByteArray) (c2:Bool) (c3:SlV) (c4:Int) (x3:List Lim) (w3:List Nat) (k:Int) (s3:LR rI V c3 x3 w3) (hn3:w3.Nodup) (hW3:Wr V w3) (hk0:0≤k) (hk1:(k+((cntE mI x3:Nat):Int))≤4611686018427387904) :
  CallX Tryz.prog V 38 [qv4 (c0,c1,c2,c3,c4,()),.int .i64 k] (fun V' r=>LeBut (w3++[]) V V'∧r=.int .i64 (k+((cntE mI x3:Nat):Int))∧∃ (y3:List Lim),(LR rI V' c3 y3 w3∧Wr V' w3∧okE mI k y3∧cntE mI y3=cntE mI x3)):=by
 refine CallX.of_fits Tryz.mix (fL_markRate _ _) fun _=>?_
 simp only [tL_markRate,T.wp]
 have hB:LeBut (w3++[]) V V:=LeBut.refl
 refine(cL_markDec V c2 c3 c4 x3 w3 k s3 hn3 hW3 (by omega) (by omega)).mono ?_
 rintro V1 _ ⟨hb1,rfl,y3,⟨s3,hW3,ok3,ce3⟩⟩
 refine⟨nofun,_,rfl,?_⟩
 replace hB:=hB.trans (hb1.sub (g:=(w3++[])) fun y hy=>by simp at hy ⊢; simp [hy])
 exact⟨hB,rfl,y3,⟨s3,hW3,ok3,ce3⟩⟩
theorem cL_markCmd (V:Know) (c0:Int) (c1:ByteArray) (c2:ByteArray) (c3:ByteArray) (c4:ByteArray) (c5:ByteArray) (c6:Bool) (c7:SlV) (c8:Int) (c9:SlV) (c10:SlV) (c11:Bool) (c12:SlV) (c13:Int) (c14:ByteArray) (c15:ByteArray) (c16:Bool) (c17:SlV) (c18:Int) (x7:List Lim) (x9:List DString) (x10:List Lim) (x12:List Lim) (x17:List Lim) (w7:List Nat) (w9:List Nat) (w10:List Nat) (w12:List Nat) (w17:List Nat) (k:Int) (s7:LR rI V c7 x7 w7) (s9:LR rString V c9 x9 w9) (s10:LR rI V c10 x10 w10) (s12:LR rI V c12 x12 w12) (s17:LR rI V c17 x17 w17) (hn7:w7.Nodup) (hW7:Wr V w7) (hn9:w9.Nodup) (hW9:Wr V w9) (hn10:w10.Nodup) (hW10:Wr V w10) (hn12:w12.Nodup) (hW12:Wr V w12) (hn17:w17.Nodup) (hW17:Wr V w17) (d7x9:∀ y∈w7,y ∉ w9) (d7x10:∀ y∈w7,y ∉ w10) (d7x12:∀ y∈w7,y ∉ w12) (d7x17:∀ y∈w7,y ∉ w17) (d9x10:∀ y∈w9,y ∉ w10) (d9x12:∀ y∈w9,y ∉ w12) (d9x17:∀ y∈w9,y ∉ w17) (d10x12:∀ y∈w10,y ∉ w12) (d10x17:∀ y∈w10,y ∉ w17) (d12x17:∀ y∈w12,y ∉ w17) (hk0:0≤k) (hk1:(((((k+((cntE mI x7:Nat):Int))+((cntE mString x9:Nat):Int))+((cntE mI x10:Nat):Int))+((cntE mI x12:Nat):Int))+((cntE mI x17:Nat):Int))≤4611686018427387904) :
  CallX Tryz.prog V 7 [qv3 (c0,c1,c2,c3,c4,c5,c6,c7,c8,c9,c10,c11,c12,c13,c14,c15,c16,c17,c18,()),.int .i64 k] (fun V' r=>LeBut (w7++(w9++(w10++(w12++(w17++[]))))) V V'∧r=.int .i64 (((((k+((cntE mI x7:Nat):Int))+((cntE mString x9:Nat):Int))+((cntE mI x10:Nat):Int))+((cntE mI x12:Nat):Int))+((cntE mI x17:Nat):Int))∧∃ (y7:List Lim) (y9:List DString) (y10:List Lim) (y12:List Lim) (y17:List Lim),(LR rI V' c7 y7 w7∧Wr V' w7∧okE mI k y7∧cntE mI y7=cntE mI x7)∧(LR rString V' c9 y9 w9∧Wr V' w9∧okE mString (k+((cntE mI x7:Nat):Int)) y9∧cntE mString y9=cntE mString x9)∧(LR rI V' c10 y10 w10∧Wr V' w10∧okE mI ((k+((cntE mI x7:Nat):Int))+((cntE mString x9:Nat):Int)) y10∧cntE mI y10=cntE mI x10)∧(LR rI V' c12 y12 w12∧Wr V' w12∧okE mI (((k+((cntE mI x7:Nat):Int))+((cntE mString x9:Nat):Int))+((cntE mI x10:Nat):Int)) y12∧cntE mI y12=cntE mI x12)∧(LR rI V' c17 y17 w17∧Wr V' w17∧okE mI ((((k+((cntE mI x7:Nat):Int))+((cntE mString x9:Nat):Int))+((cntE mI x10:Nat):Int))+((cntE mI x12:Nat):Int)) y17∧cntE mI y17=cntE mI x17)):=by
 refine CallX.of_fits Tryz.mix (fL_markCmd _ _) fun _=>?_
 simp only [tL_markCmd,T.wp]
 have d9x7:∀ y∈w9,y ∉ w7:=fun y h1 h2=>d7x9 y h2 h1
 have d10x7:∀ y∈w10,y ∉ w7:=fun y h1 h2=>d7x10 y h2 h1
 have d12x7:∀ y∈w12,y ∉ w7:=fun y h1 h2=>d7x12 y h2 h1
 have d17x7:∀ y∈w17,y ∉ w7:=fun y h1 h2=>d7x17 y h2 h1
 have d10x9:∀ y∈w10,y ∉ w9:=fun y h1 h2=>d9x10 y h2 h1
 have d12x9:∀ y∈w12,y ∉ w9:=fun y h1 h2=>d9x12 y h2 h1
 have d17x9:∀ y∈w17,y ∉ w9:=fun y h1 h2=>d9x17 y h2 h1
 have d12x10:∀ y∈w12,y ∉ w10:=fun y h1 h2=>d10x12 y h2 h1
 have d17x10:∀ y∈w17,y ∉ w10:=fun y h1 h2=>d10x17 y h2 h1
 have d17x12:∀ y∈w17,y ∉ w12:=fun y h1 h2=>d12x17 y h2 h1
 have hB:LeBut (w7++(w9++(w10++(w12++(w17++[]))))) V V:=LeBut.refl
 refine(cL_markMoney V c5 c6 c7 x7 w7 k s7 hn7 hW7 (by omega) (by omega)).mono ?_
 rintro V1 _ ⟨hb1,rfl,y7,⟨s7,hW7,ok7,ce7⟩⟩
 refine⟨nofun,_,rfl,?_⟩
 replace hB:=hB.trans (hb1.sub (g:=(w7++(w9++(w10++(w12++(w17++[])))))) fun y hy=>by simp only [List.mem_append,List.not_mem_nil,or_false] at hy ⊢; simp [hy])
 have dq9:∀ y∈w9,y ∉ (w7++[]):=fun y hy hm=>by
  simp only [List.mem_append,List.not_mem_nil,or_false] at hm
  exact d9x7 y hy hm
 replace s9:LR rString V1 c9 x9 w9:=s9.but dq9 hb1
 replace hW9:Wr V1 w9:=fun y hy=>by obtain⟨q1,q2,q3⟩:=hW9 y hy; exact⟨q1,q2,hb1 y _ (dq9 y hy) q3⟩
 have dq10:∀ y∈w10,y ∉ (w7++[]):=fun y hy hm=>by
  simp only [List.mem_append,List.not_mem_nil,or_false] at hm
  exact d10x7 y hy hm
 replace s10:LR rI V1 c10 x10 w10:=s10.but dq10 hb1
 replace hW10:Wr V1 w10:=fun y hy=>by obtain⟨q1,q2,q3⟩:=hW10 y hy; exact⟨q1,q2,hb1 y _ (dq10 y hy) q3⟩
 have dq12:∀ y∈w12,y ∉ (w7++[]):=fun y hy hm=>by
  simp only [List.mem_append,List.not_mem_nil,or_false] at hm
  exact d12x7 y hy hm
 replace s12:LR rI V1 c12 x12 w12:=s12.but dq12 hb1
 replace hW12:Wr V1 w12:=fun y hy=>by obtain⟨q1,q2,q3⟩:=hW12 y hy; exact⟨q1,q2,hb1 y _ (dq12 y hy) q3⟩
 have dq17:∀ y∈w17,y ∉ (w7++[]):=fun y hy hm=>by
  simp only [List.mem_append,List.not_mem_nil,or_false] at hm
  exact d17x7 y hy hm
 replace s17:LR rI V1 c17 x17 w17:=s17.but dq17 hb1
 replace hW17:Wr V1 w17:=fun y hy=>by obtain⟨q1,q2,q3⟩:=hW17 y hy; exact⟨q1,q2,hb1 y _ (dq17 y hy) q3⟩
 refine(cL_markStringS V1 c9 x9 w9 (k+((cntE mI x7:Nat):Int)) s9 hn9 hW9 (by omega) (by omega)).mono ?_
 rintro V2 _ ⟨hb2,hW9,rfl,y9,s9,ok9,ce9⟩
 refine⟨nofun,_,rfl,?_⟩
 replace hB:=hB.trans (hb2.sub (g:=(w7++(w9++(w10++(w12++(w17++[])))))) fun y hy=>by simp only [List.mem_append,List.not_mem_nil,or_false] at hy ⊢; simp [hy])
 have dq7:∀ y∈w7,y ∉ w9:=d7x9
 replace s7:LR rI V2 c7 y7 w7:=s7.but dq7 hb2
 replace hW7:Wr V2 w7:=fun y hy=>by obtain⟨q1,q2,q3⟩:=hW7 y hy; exact⟨q1,q2,hb2 y _ (dq7 y hy) q3⟩
 have dq10:∀ y∈w10,y ∉ w9:=d10x9
 replace s10:LR rI V2 c10 x10 w10:=s10.but dq10 hb2
 replace hW10:Wr V2 w10:=fun y hy=>by obtain⟨q1,q2,q3⟩:=hW10 y hy; exact⟨q1,q2,hb2 y _ (dq10 y hy) q3⟩
 have dq12:∀ y∈w12,y ∉ w9:=d12x9
 replace s12:LR rI V2 c12 x12 w12:=s12.but dq12 hb2
 replace hW12:Wr V2 w12:=fun y hy=>by obtain⟨q1,q2,q3⟩:=hW12 y hy; exact⟨q1,q2,hb2 y _ (dq12 y hy) q3⟩
 have dq17:∀ y∈w17,y ∉ w9:=d17x9
 replace s17:LR rI V2 c17 x17 w17:=s17.but dq17 hb2
 replace hW17:Wr V2 w17:=fun y hy=>by obtain⟨q1,q2,q3⟩:=hW17 y hy; exact⟨q1,q2,hb2 y _ (dq17 y hy) q3⟩
 refine(cL_markIntS' V2 c10 x10 w10 ((k+((cntE mI x7:Nat):Int))+((cntE mString x9:Nat):Int)) s10 hn10 hW10 (by omega) (by omega)).mono ?_
 rintro V3 _ ⟨hb3,hW10,rfl,y10,s10,ok10,ce10⟩
 refine⟨nofun,_,rfl,?_⟩
 replace hB:=hB.trans (hb3.sub (g:=(w7++(w9++(w10++(w12++(w17++[])))))) fun y hy=>by simp only [List.mem_append,List.not_mem_nil,or_false] at hy ⊢; simp [hy])
 have dq7:∀ y∈w7,y ∉ w10:=d7x10
 replace s7:LR rI V3 c7 y7 w7:=s7.but dq7 hb3
 replace hW7:Wr V3 w7:=fun y hy=>by obtain⟨q1,q2,q3⟩:=hW7 y hy; exact⟨q1,q2,hb3 y _ (dq7 y hy) q3⟩
 have dq9:∀ y∈w9,y ∉ w10:=d9x10
 replace s9:LR rString V3 c9 y9 w9:=s9.but dq9 hb3
 replace hW9:Wr V3 w9:=fun y hy=>by obtain⟨q1,q2,q3⟩:=hW9 y hy; exact⟨q1,q2,hb3 y _ (dq9 y hy) q3⟩
 have dq12:∀ y∈w12,y ∉ w10:=d12x10
 replace s12:LR rI V3 c12 x12 w12:=s12.but dq12 hb3
 replace hW12:Wr V3 w12:=fun y hy=>by obtain⟨q1,q2,q3⟩:=hW12 y hy; exact⟨q1,q2,hb3 y _ (dq12 y hy) q3⟩
 have dq17:∀ y∈w17,y ∉ w10:=d17x10
 replace s17:LR rI V3 c17 x17 w17:=s17.but dq17 hb3
 replace hW17:Wr V3 w17:=fun y hy=>by obtain⟨q1,q2,q3⟩:=hW17 y hy; exact⟨q1,q2,hb3 y _ (dq17 y hy) q3⟩
 refine(cL_markDec V3 c11 c12 c13 x12 w12 (((k+((cntE mI x7:Nat):Int))+((cntE mString x9:Nat):Int))+((cntE mI x10:Nat):Int)) s12 hn12 hW12 (by omega) (by omega)).mono ?_
 rintro V4 _ ⟨hb4,rfl,y12,⟨s12,hW12,ok12,ce12⟩⟩
 refine⟨nofun,_,rfl,?_⟩
 replace hB:=hB.trans (hb4.sub (g:=(w7++(w9++(w10++(w12++(w17++[])))))) fun y hy=>by simp only [List.mem_append,List.not_mem_nil,or_false] at hy ⊢; simp [hy])
 have dq7:∀ y∈w7,y ∉ (w12++[]):=fun y hy hm=>by
  simp only [List.mem_append,List.not_mem_nil,or_false] at hm
  exact d7x12 y hy hm
 replace s7:LR rI V4 c7 y7 w7:=s7.but dq7 hb4
 replace hW7:Wr V4 w7:=fun y hy=>by obtain⟨q1,q2,q3⟩:=hW7 y hy; exact⟨q1,q2,hb4 y _ (dq7 y hy) q3⟩
 have dq9:∀ y∈w9,y ∉ (w12++[]):=fun y hy hm=>by
  simp only [List.mem_append,List.not_mem_nil,or_false] at hm
  exact d9x12 y hy hm
 replace s9:LR rString V4 c9 y9 w9:=s9.but dq9 hb4
 replace hW9:Wr V4 w9:=fun y hy=>by obtain⟨q1,q2,q3⟩:=hW9 y hy; exact⟨q1,q2,hb4 y _ (dq9 y hy) q3⟩
 have dq10:∀ y∈w10,y ∉ (w12++[]):=fun y hy hm=>by
  simp only [List.mem_append,List.not_mem_nil,or_false] at hm
  exact d10x12 y hy hm
 replace s10:LR rI V4 c10 y10 w10:=s10.but dq10 hb4
 replace hW10:Wr V4 w10:=fun y hy=>by obtain⟨q1,q2,q3⟩:=hW10 y hy; exact⟨q1,q2,hb4 y _ (dq10 y hy) q3⟩
 have dq17:∀ y∈w17,y ∉ (w12++[]):=fun y hy hm=>by
  simp only [List.mem_append,List.not_mem_nil,or_false] at hm
  exact d17x12 y hy hm
 replace s17:LR rI V4 c17 x17 w17:=s17.but dq17 hb4
 replace hW17:Wr V4 w17:=fun y hy=>by obtain⟨q1,q2,q3⟩:=hW17 y hy; exact⟨q1,q2,hb4 y _ (dq17 y hy) q3⟩
 refine(cL_markRate V4 c14 c15 c16 c17 c18 x17 w17 ((((k+((cntE mI x7:Nat):Int))+((cntE mString x9:Nat):Int))+((cntE mI x10:Nat):Int))+((cntE mI x12:Nat):Int)) s17 hn17 hW17 (by omega) (by omega)).mono ?_
 rintro V5 _ ⟨hb5,rfl,y17,⟨s17,hW17,ok17,ce17⟩⟩
 refine⟨nofun,_,rfl,?_⟩
 replace hB:=hB.trans (hb5.sub (g:=(w7++(w9++(w10++(w12++(w17++[])))))) fun y hy=>by simp only [List.mem_append,List.not_mem_nil,or_false] at hy ⊢; simp [hy])
 have dq7:∀ y∈w7,y ∉ (w17++[]):=fun y hy hm=>by
  simp only [List.mem_append,List.not_mem_nil,or_false] at hm
  exact d7x17 y hy hm
 replace s7:LR rI V5 c7 y7 w7:=s7.but dq7 hb5
 replace hW7:Wr V5 w7:=fun y hy=>by obtain⟨q1,q2,q3⟩:=hW7 y hy; exact⟨q1,q2,hb5 y _ (dq7 y hy) q3⟩
 have dq9:∀ y∈w9,y ∉ (w17++[]):=fun y hy hm=>by
  simp only [List.mem_append,List.not_mem_nil,or_false] at hm
  exact d9x17 y hy hm
 replace s9:LR rString V5 c9 y9 w9:=s9.but dq9 hb5
 replace hW9:Wr V5 w9:=fun y hy=>by obtain⟨q1,q2,q3⟩:=hW9 y hy; exact⟨q1,q2,hb5 y _ (dq9 y hy) q3⟩
 have dq10:∀ y∈w10,y ∉ (w17++[]):=fun y hy hm=>by
  simp only [List.mem_append,List.not_mem_nil,or_false] at hm
  exact d10x17 y hy hm
 replace s10:LR rI V5 c10 y10 w10:=s10.but dq10 hb5
 replace hW10:Wr V5 w10:=fun y hy=>by obtain⟨q1,q2,q3⟩:=hW10 y hy; exact⟨q1,q2,hb5 y _ (dq10 y hy) q3⟩
 have dq12:∀ y∈w12,y ∉ (w17++[]):=fun y hy hm=>by
  simp only [List.mem_append,List.not_mem_nil,or_false] at hm
  exact d12x17 y hy hm
 replace s12:LR rI V5 c12 y12 w12:=s12.but dq12 hb5
 replace hW12:Wr V5 w12:=fun y hy=>by obtain⟨q1,q2,q3⟩:=hW12 y hy; exact⟨q1,q2,hb5 y _ (dq12 y hy) q3⟩
 exact⟨hB,rfl,y7,y9,y10,y12,y17,⟨s7,hW7,ok7,ce7⟩,⟨s9,hW9,ok9,ce9⟩,⟨s10,hW10,ok10,ce10⟩,⟨s12,hW12,ok12,ce12⟩,⟨s17,hW17,ok17,ce17⟩⟩
end Go.Proofs.YtpkmhkbkohppiaaGreatDoor
namespace Go.Proofs.YtpkmhkbkohppiaaGreatDoor
open Sx
set_option maxRecDepth 100000
theorem load_le {V V':Know} (hle:V.le V') {a:Addr} {n:Nat} {l:List Value} (h:loadV V a n=some l):loadV V' a n=some l:=by
 obtain⟨b,o,sp⟩:=a
 cases sp with
 | some _=>simp [loadV] at h
 | none =>
  simp only [loadV] at h ⊢
  cases hb:V b with
  | none=>rw [hb] at h; cases h
  | some y=>rw [hle b y hb]; rw [hb] at h; exact h
theorem held_lp {sh:List Sc} {α:Type} {P:Program} {K:Know→List Value→Prop} {V V0:Know} (r:Rp sh α) (m:Mk α) {s:SlV} {l:List α} {f:List Nat} {k0:Int} {row:LShs [.o (.o (.i .i64)),.o (.o (.i .i64))]→T}
  (h:LR r V s l f) (hk0:0≤k0) (hk1:k0+cntE m l≤4611686018427387904) (hm:okE m k0 l)
  (hrow:∀ (N:List LV→Know→Prop) (V1:Know) (j:Nat) (x:α) (k:Int) (b o:Nat) (c:Scs sh) (w:List Nat),s.a=some ⟨b,o,none⟩→(j:Int)<(s.n:Int)→0≤k→k+m.cnt x≤4611686018427387904 →
   (∀ (V2:Know) (a:Addr) (o' n:Nat) (l':List Value),V1.le V2→a=⟨b,o+j*sh.length+o',none⟩→cutv (Scs.vals sh c) o' n=some l'→loadV V2 a n=some l')→r.R V1 c x w→m.ok k x →
   (∀ V2,V1.le V2→N [.v (.int .i64 (k+m.cnt x)),.v (.int .i64 (IntKind.i64.wrap ((j:Int)+1)))] V2)→(row (k,(j:Int),())).wp P K V1 V1 [N])
  (hend:∀ V1,V.le V1→K V1 [.int .i64 (k0+cntE m l)]) :
  (T.lp [.o (.o (.i .i64)),.o (.o (.i .i64))] [.v (.int .i64 k0),.v (.int .i64 (0:Int))] fun y=>.br (decide (y.2.1<(s.n:Int))) (row y) (.ret [.int .i64 y.1])).wp P K V V0 []:=by
 have hn:=h.1
 have key:∀ (l:List α) (k:Int) (j:Nat) (hj:j<l.length),okE m k l→k+cntE m l≤4611686018427387904→m.ok (k+cntE m (l.take j)) l[j]∧k+cntE m (l.take j)+m.cnt l[j]≤4611686018427387904:=by
  intro l
  induction l with
  | nil=>intro k j hj; simp at hj
  | cons x l ih =>
   intro k j hj hm hk
   have hc:cntE m (x :: l)=m.cnt x+cntE m l:=rfl
   rw [hc] at hk
   cases j with
   | zero =>
    have e:k+((cntE m (List.take 0 (x :: l)):Nat):Int)=k:=by simp [cntE]
    rw [e]
    exact⟨hm.1,by show k+((m.cnt x:Nat):Int)≤_; omega⟩
   | succ j =>
    have e:cntE m (List.take (j+1) (x :: l))=m.cnt x+cntE m (l.take j):=rfl
    obtain⟨q1,q2⟩:=ih (k+m.cnt x) j (by simpa using hj) hm.2 (by omega)
    have e2:k+((cntE m (List.take (j+1) (x :: l)):Nat):Int)=k+m.cnt x+cntE m (l.take j):=by rw [e]; omega
    rw [e2]
    exact⟨q1,q2⟩
 simp only [T.wp]
 refine⟨fun y V'=>V.le V'∧∃ i:Nat,y.2.1=(i:Int)∧i≤l.length∧y.1=k0+cntE m (l.take i),fun y _=>((l.length:Int)-(y.2.1:Int)).toNat,⟨(k0,(0:Int),()),rfl,Know.le.refl _,0,rfl,Nat.zero_le _,by simp [cntE]⟩,?_⟩
 rintro⟨(q:Int),(i:Int),u⟩ V' ⟨hle,j,hj,hjl,hq⟩
 replace hj:i=(j:Int):=hj
 replace hq:q=k0+cntE m (l.take j):=hq
 subst hj hq
 have h63:=h.2.2.1
 refine⟨fun hlt=>?_,fun hge=>?_⟩
 ·have hi:j<l.length:=by
   have:(j:Int)<(s.n:Int):=of_decide_eq_true hlt
   omega
  obtain⟨k1,k2⟩:=key l k0 j hi hm hk1
  obtain⟨b,o,c,w,ha,part,hR,_⟩:=(h.le hle).part hi
  refine hrow _ V' j l[j] _ b o c w ha (by omega) (by omega) k2 (fun V2 a o' n l' le2 ea hc=>?_) hR k1 fun V2 le2=>?_
  ·rw [ea]
   have:=part o' n l' hc
   simp only [addr_add_eq] at this
   exact load_le le2 this
  ·refine⟨(k0+cntE m (l.take (j+1)),((j+1:Nat):Int),()),?_,⟨hle.trans le2,j+1,rfl,hi,rfl⟩,?_⟩
   ·rw [nxt hi (by omega),List.take_succ_eq_append_getElem hi,cntE_snoc]
    have e:k0+((cntE m (l.take j):Nat):Int)+((m.cnt l[j]:Nat):Int)=k0+((cntE m (l.take j)+m.cnt l[j]:Nat):Int):=by omega
    rw [e]; rfl
   ·show((l.length:Int)-((j+1:Nat):Int)).toNat<((l.length:Int)-(j:Int)).toNat
    omega
 ·have hi:j=l.length:=by
   have:¬ (j:Int)<(s.n:Int):=of_decide_eq_false hge
   omega
  subst hi
  rw [List.take_length]
  exact hend V' hle
theorem cL_heldIntSL (V:Know) (s:SlV) (l:List Lim) (f:List Nat) (k:Int) (h:LR rI V s l f) (hk0:0≤k) (hk1:k+cntE mI l≤4611686018427387904) (hm:okE mI k l) :
  CallX Tryz.prog V 41 [Sc.val .l s,.int .i64 k] (fun V' r=>V.le V'∧r=.int .i64 (k+cntE mI l)):=(cL_heldIntS' V s l f k h hk0 hk1 hm).mono (by
 rintro V' r ⟨rfl,rfl⟩
 exact⟨Know.le.refl _,rfl⟩)
theorem cL_heldStringS (V:Know) (s:SlV) (l:List DString) (f:List Nat) (k:Int) (h:LR rString V s l f) (hk0:0≤k) (hk1:k+cntE mString l≤4611686018427387904) (hm:okE mString k l) :
  CallX Tryz.prog V 40 [Sc.val .l s,.int .i64 k] (fun V' r=>V.le V'∧r=.int .i64 (k+cntE mString l)):=by
 refine CallX.of_fits Tryz.mix (fL_heldStringS _ _) fun _=>?_
 simp only [tL_heldStringS]
 refine held_lp rString mString h hk0 hk1 hm ?_ fun V1 h1=>⟨h1,rfl⟩
 rintro N V1 j ⟨x0,xu⟩ k b o ⟨c0,cu⟩ w a1 hj k0 kc hld hR hok hnext
 obtain⟨⟨ec0,zc0⟩,hR⟩:=hR
 replace ec0:c0=x0:=ec0
 subst ec0
 replace zc0:c0.size≤9223372036854775807:=zc0
 replace hR:_=[]:=hR
 subst hR
 replace kc:k+(((1+0):Nat):Int)≤4611686018427387904:=kc
 obtain⟨ok0,hok⟩:=hok
 simp only [T.wp]
 replace ok0:c0=mtext (k):=ok0
 subst ok0
 refine⟨_,a1,Int.natCast_nonneg j,hj,mtext (k),hld V1 _ 0 1 _ (Know.le.refl _) (by simp only [addr_add_eq,Int.toNat_natCast]; first | done | exact addr_at (by first | omega | (simp only [List.length_cons,List.length_nil]; first | done | omega))) rfl,(cL_markText V1 (k) (by omega)).mono ?_⟩
 rintro V2 _ ⟨le2,rfl,_⟩
 refine⟨fun _=>le2,_,rfl,fun hne=>by simp at hne,fun _=>?_⟩
 have v0:IntKind.i64.wrap (k+1)=k+1:=wrap_i64 (by omega)
 rw [v0]
 have ek:k+1=k+(((1+0):Nat):Int):=by omega
 rw [ek]
 exact⟨_,rfl,hnext V2 le2⟩
theorem cL_heldSigned (V:Know) (c0:Bool) (c1:SlV) (x1:List Lim) (w1:List Nat) (k:Int) (s1:LR rI V c1 x1 w1) (hk0:0≤k) (hk1:(k+((cntE mI x1:Nat):Int))≤4611686018427387904) (ok1:okE mI k x1) :
  CallX Tryz.prog V 77 [qv1 (c0,c1,()),.int .i64 k] (fun V' r=>V.le V'∧r=.int .i64 (k+((cntE mI x1:Nat):Int))):=by
 refine CallX.of_fits Tryz.mix (fL_heldSigned _ _) fun _=>?_
 simp only [tL_heldSigned,T.wp]
 refine(cL_heldIntSL V c1 x1 w1 k s1 (by omega) (by omega) ok1).mono ?_
 rintro V1 _ ⟨le1,rfl⟩
 have hneg1:¬ (k+((cntE mI x1:Nat):Int))<0:=by omega
 refine⟨nofun,_,rfl,fun hneg=>absurd (of_decide_eq_true hneg) hneg1,fun _=>?_⟩
 exact⟨le1,rfl⟩
theorem cL_heldMoney (V:Know) (c0:ByteArray) (c1:Bool) (c2:SlV) (x2:List Lim) (w2:List Nat) (k:Int) (s2:LR rI V c2 x2 w2) (hk0:0≤k) (hk1:(k+((cntE mI x2:Nat):Int))≤4611686018427387904) (ok2:okE mI k x2) :
  CallX Tryz.prog V 39 [qv2 (c0,c1,c2,()),.int .i64 k] (fun V' r=>V.le V'∧r=.int .i64 (k+((cntE mI x2:Nat):Int))):=by
 refine CallX.of_fits Tryz.mix (fL_heldMoney _ _) fun _=>?_
 simp only [tL_heldMoney,T.wp]
 refine(cL_heldSigned V c1 c2 x2 w2 k s2 (by omega) (by omega) ok2).mono ?_
 rintro V1 _ ⟨le1,rfl⟩
 have hneg1:¬ (k+((cntE mI x2:Nat):Int))<0:=by omega
 refine⟨nofun,_,rfl,fun hneg=>absurd (of_decide_eq_true hneg) hneg1,fun _=>?_⟩
 exact⟨le1,rfl⟩
theorem cL_heldDec (V:Know) (c0:Bool) (c1:SlV) (c2:Int) (x1:List Lim) (w1:List Nat) (k:Int) (s1:LR rI V c1 x1 w1) (hk0:0≤k) (hk1:(k+((cntE mI x1:Nat):Int))≤4611686018427387904) (ok1:okE mI k x1) :
  CallX Tryz.prog V 42 [qv0 (c0,c1,c2,()),.int .i64 k] (fun V' r=>V.le V'∧r=.int .i64 (k+((cntE mI x1:Nat):Int))):=by
 refine CallX.of_fits Tryz.mix (fL_heldDec _ _) fun _=>?_
 simp only [tL_heldDec,T.wp]
 refine(cL_heldSigned V c0 c1 x1 w1 k s1 (by omega) (by omega) ok1).mono ?_
 rintro V1 _ ⟨le1,rfl⟩
 have hneg1:¬ (k+((cntE mI x1:Nat):Int))<0:=by omega
 refine⟨nofun,_,rfl,fun hneg=>absurd (of_decide_eq_true hneg) hneg1,fun _=>?_⟩
 exact⟨le1,rfl⟩
theorem cL_heldRate (V:Know) (c0:ByteArray) (c1:ByteArray) (c2:Bool) (c3:SlV) (c4:Int) (x3:List Lim) (w3:List Nat) (k:Int) (s3:LR rI V c3 x3 w3) (hk0:0≤k) (hk1:(k+((cntE mI x3:Nat):Int))≤4611686018427387904) (ok3:okE mI k x3) :
  CallX Tryz.prog V 43 [qv4 (c0,c1,c2,c3,c4,()),.int .i64 k] (fun V' r=>V.le V'∧r=.int .i64 (k+((cntE mI x3:Nat):Int))):=by
 refine CallX.of_fits Tryz.mix (fL_heldRate _ _) fun _=>?_
 simp only [tL_heldRate,T.wp]
 refine(cL_heldDec V c2 c3 c4 x3 w3 k s3 (by omega) (by omega) ok3).mono ?_
 rintro V1 _ ⟨le1,rfl⟩
 have hneg1:¬ (k+((cntE mI x3:Nat):Int))<0:=by omega
 refine⟨nofun,_,rfl,fun hneg=>absurd (of_decide_eq_true hneg) hneg1,fun _=>?_⟩
 exact⟨le1,rfl⟩
theorem cL_heldCmd (V:Know) (c0:Int) (c1:ByteArray) (c2:ByteArray) (c3:ByteArray) (c4:ByteArray) (c5:ByteArray) (c6:Bool) (c7:SlV) (c8:Int) (c9:SlV) (c10:SlV) (c11:Bool) (c12:SlV) (c13:Int) (c14:ByteArray) (c15:ByteArray) (c16:Bool) (c17:SlV) (c18:Int) (x7:List Lim) (x9:List DString) (x10:List Lim) (x12:List Lim) (x17:List Lim) (w7:List Nat) (w9:List Nat) (w10:List Nat) (w12:List Nat) (w17:List Nat) (k:Int) (s7:LR rI V c7 x7 w7) (s9:LR rString V c9 x9 w9) (s10:LR rI V c10 x10 w10) (s12:LR rI V c12 x12 w12) (s17:LR rI V c17 x17 w17) (hk0:0≤k) (hk1:(((((k+((cntE mI x7:Nat):Int))+((cntE mString x9:Nat):Int))+((cntE mI x10:Nat):Int))+((cntE mI x12:Nat):Int))+((cntE mI x17:Nat):Int))≤4611686018427387904) (ok7:okE mI k x7) (ok9:okE mString (k+((cntE mI x7:Nat):Int)) x9) (ok10:okE mI ((k+((cntE mI x7:Nat):Int))+((cntE mString x9:Nat):Int)) x10) (ok12:okE mI (((k+((cntE mI x7:Nat):Int))+((cntE mString x9:Nat):Int))+((cntE mI x10:Nat):Int)) x12) (ok17:okE mI ((((k+((cntE mI x7:Nat):Int))+((cntE mString x9:Nat):Int))+((cntE mI x10:Nat):Int))+((cntE mI x12:Nat):Int)) x17) :
  CallX Tryz.prog V 8 [qv3 (c0,c1,c2,c3,c4,c5,c6,c7,c8,c9,c10,c11,c12,c13,c14,c15,c16,c17,c18,()),.int .i64 k] (fun V' r=>V.le V'∧r=.int .i64 (((((k+((cntE mI x7:Nat):Int))+((cntE mString x9:Nat):Int))+((cntE mI x10:Nat):Int))+((cntE mI x12:Nat):Int))+((cntE mI x17:Nat):Int))):=by
 refine CallX.of_fits Tryz.mix (fL_heldCmd _ _) fun _=>?_
 simp only [tL_heldCmd,T.wp]
 refine(cL_heldMoney V c5 c6 c7 x7 w7 k s7 (by omega) (by omega) ok7).mono ?_
 rintro V1 _ ⟨le1,rfl⟩
 have hneg1:¬ (k+((cntE mI x7:Nat):Int))<0:=by omega
 refine⟨nofun,_,rfl,fun hneg=>absurd (of_decide_eq_true hneg) hneg1,fun _=>?_⟩
 replace s9:=s9.le le1
 replace s10:=s10.le le1
 replace s12:=s12.le le1
 replace s17:=s17.le le1
 refine(cL_heldStringS V1 c9 x9 w9 (k+((cntE mI x7:Nat):Int)) s9 (by omega) (by omega) ok9).mono ?_
 rintro V2 _ ⟨le2,rfl⟩
 have hneg2:¬ ((k+((cntE mI x7:Nat):Int))+((cntE mString x9:Nat):Int))<0:=by omega
 refine⟨nofun,_,rfl,fun hneg=>absurd (of_decide_eq_true hneg) hneg2,fun _=>?_⟩
 replace s10:=s10.le le2
 replace s12:=s12.le le2
 replace s17:=s17.le le2
 have l2:=le1.trans le2
 refine(cL_heldIntSL V2 c10 x10 w10 ((k+((cntE mI x7:Nat):Int))+((cntE mString x9:Nat):Int)) s10 (by omega) (by omega) ok10).mono ?_
 rintro V3 _ ⟨le3,rfl⟩
 have hneg3:¬ (((k+((cntE mI x7:Nat):Int))+((cntE mString x9:Nat):Int))+((cntE mI x10:Nat):Int))<0:=by omega
 refine⟨nofun,_,rfl,fun hneg=>absurd (of_decide_eq_true hneg) hneg3,fun _=>?_⟩
 replace s12:=s12.le le3
 replace s17:=s17.le le3
 have l3:=l2.trans le3
 refine(cL_heldDec V3 c11 c12 c13 x12 w12 (((k+((cntE mI x7:Nat):Int))+((cntE mString x9:Nat):Int))+((cntE mI x10:Nat):Int)) s12 (by omega) (by omega) ok12).mono ?_
 rintro V4 _ ⟨le4,rfl⟩
 have hneg4:¬ ((((k+((cntE mI x7:Nat):Int))+((cntE mString x9:Nat):Int))+((cntE mI x10:Nat):Int))+((cntE mI x12:Nat):Int))<0:=by omega
 refine⟨nofun,_,rfl,fun hneg=>absurd (of_decide_eq_true hneg) hneg4,fun _=>?_⟩
 replace s17:=s17.le le4
 have l4:=l3.trans le4
 refine(cL_heldRate V4 c14 c15 c16 c17 c18 x17 w17 ((((k+((cntE mI x7:Nat):Int))+((cntE mString x9:Nat):Int))+((cntE mI x10:Nat):Int))+((cntE mI x12:Nat):Int)) s17 (by omega) (by omega) ok17).mono ?_
 rintro V5 _ ⟨le5,rfl⟩
 have hneg5:¬ (((((k+((cntE mI x7:Nat):Int))+((cntE mString x9:Nat):Int))+((cntE mI x10:Nat):Int))+((cntE mI x12:Nat):Int))+((cntE mI x17:Nat):Int))<0:=by omega
 refine⟨nofun,_,rfl,fun hneg=>absurd (of_decide_eq_true hneg) hneg5,fun _=>?_⟩
 have l5:=l4.trans le5
 exact⟨l5,rfl⟩
end Go.Proofs.YtpkmhkbkohppiaaGreatDoor
namespace Go.Proofs.YtpkmhkbkohppiaaGreatDoor
open Sx
set_option maxRecDepth 100000
def MkH {sh:List Sc} {α:Type} (P:Program) (g gh:Nat) (r:Rp sh α):Prop:=∀ (V:Know) (c:Scs sh) (x:α) (f:List Nat) (k:Int),r.R V c x f→f.Nodup→Wr V f→r.tot x≤1048576→0≤k→k≤1152921504606846976 →
 CallX P V g [Sh1.val (.g sh) c,.int .i64 k] (fun V' v=>LeBut f V V'∧Wr V' f∧∃ n:Int,v=.int .i64 (k+n)∧0≤n∧n≤67108864 ∧
  ∀ V2,(∀ b∈f,V2 b=V' b)→CallX P V2 gh [Sh1.val (.g sh) c,.int .i64 k] (fun V3 v=>V2.le V3∧v=.int .i64 (k+n)))
theorem Wr.but {V V':Know} {f g:List Nat} (h:Wr V f) (d:∀ b∈f,b ∉ g) (B:LeBut g V V'):Wr V' f:=fun b hb=>by obtain⟨q1,q2,q3⟩:=h b hb; exact⟨q1,q2,B b _ (d b hb) q3⟩
theorem ke_le {V V1 V':Know} {f:List Nat} (W:Wr V1 f) (ke:∀ b∈f,V b=V1 b) (le:V.le V'):∀ b∈f,V' b=V1 b:=fun b hb=>by obtain⟨q1,q2,q3⟩:=W b hb; rw [le _ _ ((ke b hb).trans q3),q3]
theorem cntE_le {sh:List Sc} {α:Type} {r:Rp sh α} {m:Mk α} {K:Nat} (hK:∀ x,m.cnt x≤K*(1+r.tot x)):∀ l,cntE m l≤K*(l.length+totE r l)
 | []=>by simp [cntE]
 | x :: l=>by
  have ih:=cntE_le hK l
  have h1:=hK x
  simp only [cntE,totE,List.length_cons]
  have e:K*(l.length+1+(r.tot x+totE r l))=K*(1+r.tot x)+K*(l.length+totE r l):=by rw [← Nat.mul_add]; congr 1; omega
  omega
theorem cnt_String (x:DString):mString.cnt x≤6*(1+rString.tot x):=by
 have e:mString.cnt x=(1+0):=rfl
 have e2:rString.tot x=(x.1.size+0):=rfl
 rw [e,e2]
 omega
theorem mkH_Cmd:MkH Tryz.prog 7 8 rCmd:=by
 rintro V ⟨c0,c1,c2,c3,c4,c5,c6,c7,c8,c9,c10,c11,c12,c13,c14,c15,c16,c17,c18,cu⟩ ⟨x0,x1,x2,x3,x4,x5,x6,x7,x8,x9,x10,x11,x12,x13,x14,x15,x16,x17,x18,xu⟩ f k hx nd hw ht k0 k1
 obtain⟨e0,hx⟩:=hx
 replace e0:c0=x0:=e0
 subst e0
 obtain⟨⟨e1,_⟩,hx⟩:=hx
 replace e1:c1=x1:=e1
 subst e1
 obtain⟨⟨e2,_⟩,hx⟩:=hx
 replace e2:c2=x2:=e2
 subst e2
 obtain⟨⟨e3,_⟩,hx⟩:=hx
 replace e3:c3=x3:=e3
 subst e3
 obtain⟨⟨e4,_⟩,hx⟩:=hx
 replace e4:c4=x4:=e4
 subst e4
 obtain⟨⟨e5,_⟩,hx⟩:=hx
 replace e5:c5=x5:=e5
 subst e5
 obtain⟨e6,hx⟩:=hx
 replace e6:c6=x6:=e6
 subst e6
 obtain⟨w7,z7,rfl,s7,hx⟩:=hx
 replace s7:LR rI V c7 x7 w7:=s7
 obtain⟨e8,hx⟩:=hx
 replace e8:c8=x8:=e8
 subst e8
 obtain⟨w9,z9,rfl,s9,hx⟩:=hx
 replace s9:LR rString V c9 x9 w9:=s9
 obtain⟨w10,z10,rfl,s10,hx⟩:=hx
 replace s10:LR rI V c10 x10 w10:=s10
 obtain⟨e11,hx⟩:=hx
 replace e11:c11=x11:=e11
 subst e11
 obtain⟨w12,z12,rfl,s12,hx⟩:=hx
 replace s12:LR rI V c12 x12 w12:=s12
 obtain⟨e13,hx⟩:=hx
 replace e13:c13=x13:=e13
 subst e13
 obtain⟨⟨e14,_⟩,hx⟩:=hx
 replace e14:c14=x14:=e14
 subst e14
 obtain⟨⟨e15,_⟩,hx⟩:=hx
 replace e15:c15=x15:=e15
 subst e15
 obtain⟨e16,hx⟩:=hx
 replace e16:c16=x16:=e16
 subst e16
 obtain⟨w17,z17,rfl,s17,hx⟩:=hx
 replace s17:LR rI V c17 x17 w17:=s17
 obtain⟨e18,hx⟩:=hx
 replace e18:c18=x18:=e18
 subst e18
 replace hx:_=[]:=hx
 subst hx
 have et:rCmd.tot (c0,c1,c2,c3,c4,c5,c6,x7,c8,x9,x10,c11,x12,c13,c14,c15,c16,x17,c18,xu)=(c1.size+(c2.size+(c3.size+(c4.size+(c5.size+(x7.length+totE rI x7+(x9.length+totE rString x9+(x10.length+totE rI x10+(x12.length+totE rI x12+(c14.size+(c15.size+(x17.length+totE rI x17+0)))))))))))):=rfl
 rw [et] at ht
 have q7:=cntE_int x7
 have q9:=cntE_le cnt_String x9
 have q10:=cntE_int x10
 have q12:=cntE_int x12
 have q17:=cntE_int x17
 have n7:=List.nodup_append.1 nd
 have n9:=List.nodup_append.1 n7.2.1
 have n10:=List.nodup_append.1 n9.2.1
 have n12:=List.nodup_append.1 n10.2.1
 have n17:=List.nodup_append.1 n12.2.1
 refine(cL_markCmd V c0 c1 c2 c3 c4 c5 c6 c7 c8 c9 c10 c11 c12 c13 c14 c15 c16 c17 c18 x7 x9 x10 x12 x17 w7 w9 w10 w12 w17 k s7 s9 s10 s12 s17 n7.1 (fun y hy=>hw y (by simp [hy])) n9.1 (fun y hy=>hw y (by simp [hy])) n10.1 (fun y hy=>hw y (by simp [hy])) n12.1 (fun y hy=>hw y (by simp [hy])) n17.1 (fun y hy=>hw y (by simp [hy])) (fun y hy hm=>n7.2.2 y hy y (by simp [hm]) rfl) (fun y hy hm=>n7.2.2 y hy y (by simp [hm]) rfl) (fun y hy hm=>n7.2.2 y hy y (by simp [hm]) rfl) (fun y hy hm=>n7.2.2 y hy y (by simp [hm]) rfl) (fun y hy hm=>n9.2.2 y hy y (by simp [hm]) rfl) (fun y hy hm=>n9.2.2 y hy y (by simp [hm]) rfl) (fun y hy hm=>n9.2.2 y hy y (by simp [hm]) rfl) (fun y hy hm=>n10.2.2 y hy y (by simp [hm]) rfl) (fun y hy hm=>n10.2.2 y hy y (by simp [hm]) rfl) (fun y hy hm=>n12.2.2 y hy y (by simp [hm]) rfl) k0 (by omega)).mono ?_
 rintro V1 _ ⟨hb,rfl,y7,y9,y10,y12,y17,⟨M7,W7,k7k,n7n⟩,⟨M9,W9,k9k,n9n⟩,⟨M10,W10,k10k,n10n⟩,⟨M12,W12,k12k,n12n⟩,⟨M17,W17,k17k,n17n⟩⟩
 refine⟨hb,fun y hy=>?_,((cntE mI x7:Nat):Int)+((cntE mString x9:Nat):Int)+((cntE mI x10:Nat):Int)+((cntE mI x12:Nat):Int)+((cntE mI x17:Nat):Int),congrArg (Value.int .i64) (by omega),by omega,by omega,fun V2 he=>?_⟩
 ·simp only [List.mem_append,List.not_mem_nil,or_false] at hy
  rcases hy with hy | hy
  ·exact W7 y hy
  rcases hy with hy | hy
  ·exact W9 y hy
  rcases hy with hy | hy
  ·exact W10 y hy
  rcases hy with hy | hy
  ·exact W12 y hy
  exact W17 y hy
 rw [← n7n] at k9k
 rw [← n7n,← n9n] at k10k
 rw [← n7n,← n9n,← n10n] at k12k
 rw [← n7n,← n9n,← n10n,← n12n] at k17k
 have key:=cL_heldCmd V2 c0 c1 c2 c3 c4 c5 c6 c7 c8 c9 c10 c11 c12 c13 c14 c15 c16 c17 c18 y7 y9 y10 y12 y17 w7 w9 w10 w12 w17 k (M7.loc fun y hy=>he y (by simp [hy])) (M9.loc fun y hy=>he y (by simp [hy])) (M10.loc fun y hy=>he y (by simp [hy])) (M12.loc fun y hy=>he y (by simp [hy])) (M17.loc fun y hy=>he y (by simp [hy])) k0 (by rw [n7n,n9n,n10n,n12n,n17n]; omega) k7k k9k k10k k12k k17k
 rw [n7n,n9n,n10n,n12n,n17n] at key
 refine key.mono ?_
 rintro V3 _ ⟨le3,rfl⟩
 exact⟨le3,congrArg (Value.int .i64) (by omega)⟩
end Go.Proofs.YtpkmhkbkohppiaaGreatDoor
namespace Go.Proofs.YtpkmhkbkohppiaaGreatDoor
open Sx
set_option maxRecDepth 100000
theorem law_TextCmd {V:Know} (hV:HtE V) (a0:ByteArray) :
  CallX Tryz.prog V 3 [.string a0] (fun V' r=>V.le V'∧r=.bool true):=by
 refine CallX.of_fits Tryz.mix (fL_FnExactTextCmd _) fun _=>?_
 simp only [tL_FnExactTextCmd,T.wp]
 refine⟨fun _=>⟨(Know.le.refl _),rfl⟩,fun hs0=>?_⟩
 have sz0:a0.size≤1048576:=by
  have:=of_decide_eq_false hs0
  omega
 refine(bS_TextCmd trivial a0 sz0).mono ?_
 rintro V1 _ ⟨le1,wc0,wx0,wf0,wz1,rfl,Rw0,Ow,hw⟩
 refine⟨fun _=>le1,(wc0,wz1,()),rfl,?_⟩
 have l1:=le1
 refine(bI_TextCmd (HtE.le hV l1) a0 sz0).mono ?_
 rintro V2 _ ⟨le2,gc0,gx0,gf0,gz1,rfl,Rg0,Og,hg⟩
 refine⟨fun _=>le2,(gc0,gz1,()),rfl,?_⟩
 have nG0:∀ b∈gf0,V b=none:=fun b hb=>none_of_le l1 (Og.2.1 b hb)
 have mG0:∀ b∈gf0,V1 b=none:=fun b hb=>none_of_le (Know.le.refl _) (Og.2.1 b hb)
 have l2:=l1.trans le2
 have lw2:=le2
 obtain⟨eg0,eg1⟩:=rdCmd_inj hw hg
 subst eg0
 subst eg1
 have G0:=Rg0
 have wG0:=Og.2.2
 have ndG0:=Og.1
 have tg0:rCmd.tot wx0≤1048576:=rdCmd_tot hw
 refine(cL_eqCmd _ _ _ _ _ _ _ G0 (rCmd.le Rw0 lw2)).mono ?_
 rintro V3 _ ⟨rfl,b3,rfl,hb3⟩
 refine⟨fun _=>Know.le.refl _,b3,rfl,(fun h=>by simp [hb3.2 rfl] at h),fun _=>?_⟩
 refine⟨(fun h=>by simp at h),fun _=>?_⟩
 refine(mkH_Cmd _ _ _ _ 1 G0 ndG0 wG0 tg0 (by omega) (by omega)).mono ?_
 rintro V4 _ ⟨B4,WG0,m0,rfl,p4,q4,held0⟩
 refine⟨nofun,_,rfl,?_⟩
 have l4:=le_but l2 nG0 B4
 have lw4:=le_but lw2 mG0 B4
 have ke0:∀ b∈gf0,V4 b=V4 b:=fun _ _=>rfl
 obtain⟨kV0,ek0⟩:∃ U,U=V4:=⟨_,rfl⟩
 rw [← ek0] at WG0 held0
 replace ke0:∀ b∈gf0,V4 b=kV0 b:=fun b hb=>by rw [ek0]
 refine(held0 _ ke0).mono ?_
 rintro V5 _ ⟨le5,rfl⟩
 have hn5:¬ (1+m0)<0:=by omega
 refine⟨nofun,_,rfl,fun h=>absurd (of_decide_eq_true h) hn5,fun _=>?_⟩
 have l5:=l4.trans le5
 have lw5:=lw4.trans le5
 replace ke0:=ke_le WG0 ke0 le5
 refine⟨(fun h=>by simp at h),fun _=>?_⟩
 refine(bI_TextCmd (HtE.le hV l5) a0 sz0).mono ?_
 rintro V6 _ ⟨le6,qc0,qx0,qf0,qz1,rfl,Rq0,Oq,hq⟩
 refine⟨fun _=>le6,(qc0,qz1,()),rfl,?_⟩
 have l6:=l5.trans le6
 have lw6:=lw5.trans le6
 replace ke0:=ke_le WG0 ke0 le6
 obtain⟨eq0,eq1⟩:=rdCmd_inj hw hq
 subst eq0
 subst eq1
 refine(cL_eqCmd _ _ _ _ _ _ _ Rq0 (rCmd.le Rw0 lw6)).mono ?_
 rintro V7 _ ⟨rfl,b7,rfl,hb7⟩
 refine⟨fun _=>Know.le.refl _,b7,rfl,(fun h=>by simp [hb7.2 rfl] at h),fun _=>?_⟩
 refine⟨(fun h=>by simp at h),fun _=>?_⟩
 refine(held0 _ ke0).mono ?_
 rintro V8 _ ⟨le8,rfl⟩
 have hn8:¬ (1+m0)<0:=by omega
 refine⟨nofun,_,rfl,fun h=>absurd (of_decide_eq_true h) hn8,fun _=>?_⟩
 have l8:=l6.trans le8
 have lw8:=lw6.trans le8
 replace ke0:=ke_le WG0 ke0 le8
 refine⟨(fun h=>by simp at h),fun _=>?_⟩
 exact⟨l8,rfl⟩
end Go.Proofs.YtpkmhkbkohppiaaGreatDoor
