/-
  The laws' marks on lists of rows.
-/
import Derived.Test.YtfiakghfncempaaGreatDoorMkA
import Derived.Test.YtfiakghfncempaaGreatDoorStr
namespace Go.Proofs.YtfiakghfncempaaGreatDoor
open Sx
set_option maxRecDepth 100000
abbrev DString:Type:=ByteArray × Unit
abbrev mAcct:Mk DAcct:=mkStr (mkStr (mkBool (mkSl mI (mkNil))))
theorem cL_markAcctS (V:Know) (s:SlV) (l:List DAcct) (f:List Nat) (k:Int) (h:LR rAcct V s l f) (hnd:f.Nodup) (hw:Wr V f) (hk0:0≤k) (hk1:k+cntE mAcct l≤4611686018427387904) :
  CallX Tryz.prog V 142 [Sc.val .l s,.int .i64 k] (fun V' r=>LeBut f V V'∧Wr V' f∧r=.int .i64 (k+cntE mAcct l)∧∃ l',LR rAcct V' s l' f∧okE mAcct k l'∧cntE mAcct l'=cntE mAcct l):=by
 refine CallX.of_fits Tryz.mix (fL_markAcctS _ _) fun _=>?_
 simp only [tL_markAcctS]
 refine mark_lp rAcct mAcct h hnd hw hk0 hk1 ?_ fun V1 l' h1 h2 h3 h4 h5=>⟨h1,h2,rfl,l',h3,h4,h5⟩
 rintro N V1 j k b o A R tt ⟨c0,c1,c2,c3,cu⟩ ⟨x0,x1,x2,x3,xu⟩ w a1 hA hj h63 hk hkc hv hR hnd hw hnext
 replace hA:A.length=o+j*4:=hA
 obtain⟨⟨ec0,zc0⟩,hR⟩:=hR
 replace ec0:c0=x0:=ec0
 subst ec0
 replace zc0:c0.size≤9223372036854775807:=zc0
 obtain⟨⟨ec1,zc1⟩,hR⟩:=hR
 replace ec1:c1=x1:=ec1
 subst ec1
 replace zc1:c1.size≤9223372036854775807:=zc1
 obtain⟨ec2,hR⟩:=hR
 replace ec2:c2=x2:=ec2
 subst ec2
 obtain⟨w3,wr3,ec3,sc3,hR⟩:=hR
 subst ec3
 replace sc3:LR rI _ c3 x3 w3:=sc3
 replace hR:_=[]:=hR
 subst hR
 replace hkc:k+(((1+(1+(1+(cntE mI x3+0)))):Nat):Int)≤4611686018427387904:=hkc
 replace hv:V1 b=some (A++([.string c0]++([.string c1]++([.bool c2]++([.slice c3.a c3.n c3.c]++R)))),(tt,((0,0):Nat × Nat))):=hv
 have hb3:b ∉ w3:=fun hm=>(List.nodup_cons.1 hnd).1 (by simp [hm])
 have hn3:w3.Nodup:=(List.nodup_append.1 (List.nodup_cons.1 hnd).2).1
 have hW3:Wr V1 w3:=fun y hy=>hw y (by simp [hy])
 have hB:LeBut (b :: ((w3++[]))) V1 V1:=LeBut.refl
 refine(cL_markText V1 k (by omega)).mono ?_
 rintro V2 _ ⟨hle2,rfl,zc0⟩
 refine⟨nofun,_,rfl,?_⟩
 replace hv:=hle2 _ _ hv
 replace hB:=hB.trans (LeBut.of_le hle2)
 replace sc3:=sc3.le hle2
 replace hW3:=hW3.le hle2
 refine wp_el a1 (Int.natCast_nonneg j) (by omega:(j:Int)<(s.n:Int)) ?_
 refine wp_st1 (v:=(.string (mtext k))) hv (by simp only [addr_add_eq,Int.toNat_natCast]; exact addr_at (by first | omega | (simp only [List.length_append,List.length_cons,List.length_nil]; omega))) rfl ?_
 clear hv
 intro V3 hv hk3
 replace hB:LeBut (b :: ((w3++[]))) V1 V3:=fun y z hy hz=>by rw [hk3 y fun e=>hy (by simp [e])]; exact hB y z hy hz
 replace sc3:LR rI V3 c3 x3 w3:=sc3.loc fun y hy=>hk3 y fun e=>hb3 (e ▸ hy)
 replace hW3:Wr V3 w3:=fun y hy=>by obtain⟨q1,q2,q3⟩:=hW3 y hy; exact⟨q1,q2,by rw [hk3 y fun e=>hb3 (e ▸ hy)]; exact q3⟩
 have q1_1:IntKind.i64.wrap (k+1)=k+1:=wrap_i64 (by omega)
 refine wp_arg (congrArg (fun z=>[Value.int .i64 z]) q1_1) ?_
 refine(cL_markText V3 (k+1) (by omega)).mono ?_
 rintro V4 _ ⟨hle4,rfl,zc1⟩
 refine⟨nofun,_,rfl,?_⟩
 replace hv:=hle4 _ _ hv
 replace hB:=hB.trans (LeBut.of_le hle4)
 replace sc3:=sc3.le hle4
 replace hW3:=hW3.le hle4
 refine wp_el a1 (Int.natCast_nonneg j) (by omega:(j:Int)<(s.n:Int)) ?_
 refine wp_st1 (v:=(.string (mtext (k+1)))) hv (by simp only [addr_add_eq,Int.toNat_natCast]; exact addr_at (by first | omega | (simp only [List.length_append,List.length_cons,List.length_nil]; omega))) rfl ?_
 clear hv
 intro V5 hv hk5
 replace hB:LeBut (b :: ((w3++[]))) V1 V5:=fun y z hy hz=>by rw [hk5 y fun e=>hy (by simp [e])]; exact hB y z hy hz
 replace sc3:LR rI V5 c3 x3 w3:=sc3.loc fun y hy=>hk5 y fun e=>hb3 (e ▸ hy)
 replace hW3:Wr V5 w3:=fun y hy=>by obtain⟨q1,q2,q3⟩:=hW3 y hy; exact⟨q1,q2,by rw [hk5 y fun e=>hb3 (e ▸ hy)]; exact q3⟩
 have q1_2:IntKind.i64.wrap (IntKind.i64.wrap (k+1)+1)=k+2:=by rw [q1_1,wrap_i64 (by omega)]; omega
 refine⟨by decide,?_⟩
 refine wp_el a1 (Int.natCast_nonneg j) (by omega:(j:Int)<(s.n:Int)) ?_
 refine wp_st1 (v:=(.bool (Int.tmod (k+2) 3 == 0))) hv (by simp only [addr_add_eq,Int.toNat_natCast]; exact addr_at (by first | omega | (simp only [List.length_append,List.length_cons,List.length_nil]; omega))) (congrArg (fun z=>[Value.bool (Int.tmod z 3 == 0)]) q1_2) ?_
 clear hv
 intro V6 hv hk6
 replace hB:LeBut (b :: ((w3++[]))) V1 V6:=fun y z hy hz=>by rw [hk6 y fun e=>hy (by simp [e])]; exact hB y z hy hz
 replace sc3:LR rI V6 c3 x3 w3:=sc3.loc fun y hy=>hk6 y fun e=>hb3 (e ▸ hy)
 replace hW3:Wr V6 w3:=fun y hy=>by obtain⟨q1,q2,q3⟩:=hW3 y hy; exact⟨q1,q2,by rw [hk6 y fun e=>hb3 (e ▸ hy)]; exact q3⟩
 have q1_3:IntKind.i64.wrap (IntKind.i64.wrap (IntKind.i64.wrap (k+1)+1)+1)=k+3:=by rw [q1_2,wrap_i64 (by omega)]; omega
 refine wp_el a1 (Int.natCast_nonneg j) (by omega:(j:Int)<(s.n:Int)) ?_
 refine wp_ld1 (s:=c3) hv (by simp only [addr_add_eq,Int.toNat_natCast]; exact addr_at (by first | omega | (simp only [List.length_append,List.length_cons,List.length_nil]; omega))) ?_
 refine wp_arg (congrArg (fun z=>[Sc.val .l c3,Value.int .i64 z]) q1_3) ?_
 refine(cL_markIntS' V6 c3 x3 w3 (k+3) sc3 hn3 hW3 (by omega) (by omega)).mono ?_
 rintro V7 _ ⟨hb7x,hW3,rfl,y3,sc3,ok3,ce3⟩
 refine⟨nofun,_,rfl,?_⟩
 replace hv:=hb7x b _ hb3 hv
 rw [← List.append_assoc] at hv
 replace hB:=hB.trans (hb7x.sub (g:=(b :: ((w3++[])))) fun y hy=>by simp [hy])
 refine⟨_,rfl,?_⟩
 have ecnt:mAcct.cnt (c0,c1,c2,x3,())=(1+(1+(1+(cntE mI x3+0)))):=rfl
 have eend:((k+3)+((cntE mI x3:Nat):Int))=k+((mAcct.cnt (c0,c1,c2,x3,()):Nat):Int):=by
  rw [ecnt]
  omega
 have hrow:rAcct.R V7 (mtext k,mtext (k+1),(Int.tmod (k+2) 3 == 0),c3,()) (mtext k,mtext (k+1),(Int.tmod (k+2) 3 == 0),y3,()) ((w3++[])):=(rStr.mk zc0 (rStr.mk zc1 (rBool.mk (rSl.mk sc3 rNil.mk))))
 have hN:=hnext V7 (mtext k,mtext (k+1),(Int.tmod (k+2) 3 == 0),c3,()) (mtext k,mtext (k+1),(Int.tmod (k+2) 3 == 0),y3,()) (by show V7 b=some (A++([.string (mtext k),.string (mtext (k+1)),.bool (Int.tmod (k+2) 3 == 0),.slice c3.a c3.n c3.c]++R),(tt,((0,0):Nat × Nat))); rw [hv]; simp) hrow ?_ hB ⟨rfl,⟨rfl,⟨(by show(Int.tmod (k+2) 3 == 0)=(Int.tmod ((k+1)+1) 3 == 0); rw [show((k+1)+1)=(k+2) by omega]),⟨(by show okE mI (((k+1)+1)+1) y3; rw [show(((k+1)+1)+1)=(k+3) by omega]; exact ok3),trivial⟩⟩⟩⟩ (by show(1+(1+(1+(cntE mI y3+0))))=(1+(1+(1+(cntE mI x3+0)))); omega)
 ·show N [.v (.int .i64 (((k+3)+((cntE mI x3:Nat):Int)))),.v (.int .i64 (IntKind.i64.wrap ((j:Int)+1)))] V7
  rw [eend,nxt hj h63]
  exact hN
 ·intro y hy
  simp only [List.mem_append,List.not_mem_nil,or_false] at hy
  exact hW3 y hy
abbrev mRest:Mk DRest:=mkStr (mkBool (mkSl mI (mkSl mI (mkNil))))
theorem cL_markRestS (V:Know) (s:SlV) (l:List DRest) (f:List Nat) (k:Int) (h:LR rRest V s l f) (hnd:f.Nodup) (hw:Wr V f) (hk0:0≤k) (hk1:k+cntE mRest l≤4611686018427387904) :
  CallX Tryz.prog V 88 [Sc.val .l s,.int .i64 k] (fun V' r=>LeBut f V V'∧Wr V' f∧r=.int .i64 (k+cntE mRest l)∧∃ l',LR rRest V' s l' f∧okE mRest k l'∧cntE mRest l'=cntE mRest l):=by
 refine CallX.of_fits Tryz.mix (fL_markRestS _ _) fun _=>?_
 simp only [tL_markRestS]
 refine mark_lp rRest mRest h hnd hw hk0 hk1 ?_ fun V1 l' h1 h2 h3 h4 h5=>⟨h1,h2,rfl,l',h3,h4,h5⟩
 rintro N V1 j k b o A R tt ⟨c0,c1,c2,c3,cu⟩ ⟨x0,x1,x2,x3,xu⟩ w a1 hA hj h63 hk hkc hv hR hnd hw hnext
 replace hA:A.length=o+j*4:=hA
 obtain⟨⟨ec0,zc0⟩,hR⟩:=hR
 replace ec0:c0=x0:=ec0
 subst ec0
 replace zc0:c0.size≤9223372036854775807:=zc0
 obtain⟨ec1,hR⟩:=hR
 replace ec1:c1=x1:=ec1
 subst ec1
 obtain⟨w2,wr2,ec2,sc2,hR⟩:=hR
 subst ec2
 replace sc2:LR rI _ c2 x2 w2:=sc2
 obtain⟨w3,wr3,ec3,sc3,hR⟩:=hR
 subst ec3
 replace sc3:LR rI _ c3 x3 w3:=sc3
 replace hR:_=[]:=hR
 subst hR
 replace hkc:k+(((1+(1+(cntE mI x2+(cntE mI x3+0)))):Nat):Int)≤4611686018427387904:=hkc
 replace hv:V1 b=some (A++([.string c0]++([.bool c1]++([.slice c2.a c2.n c2.c]++([.slice c3.a c3.n c3.c]++R)))),(tt,((0,0):Nat × Nat))):=hv
 have hb2:b ∉ w2:=fun hm=>(List.nodup_cons.1 hnd).1 (by simp [hm])
 have hn2:w2.Nodup:=(List.nodup_append.1 (List.nodup_cons.1 hnd).2).1
 have hW2:Wr V1 w2:=fun y hy=>hw y (by simp [hy])
 have d2x3:∀ y∈w2,y ∉ w3:=fun y h1 h2=>(List.nodup_append.1 (List.nodup_cons.1 hnd).2).2.2 y h1 y (by simp [h2]) rfl
 have d3x2:∀ y∈w3,y ∉ w2:=fun y h1 h2=>d2x3 y h2 h1
 have hb3:b ∉ w3:=fun hm=>(List.nodup_cons.1 hnd).1 (by simp [hm])
 have hn3:w3.Nodup:=(List.nodup_append.1 (List.nodup_append.1 (List.nodup_cons.1 hnd).2).2.1).1
 have hW3:Wr V1 w3:=fun y hy=>hw y (by simp [hy])
 have hB:LeBut (b :: ((w2++(w3++[])))) V1 V1:=LeBut.refl
 refine(cL_markText V1 k (by omega)).mono ?_
 rintro V2 _ ⟨hle2,rfl,zc0⟩
 refine⟨nofun,_,rfl,?_⟩
 replace hv:=hle2 _ _ hv
 replace hB:=hB.trans (LeBut.of_le hle2)
 replace sc2:=sc2.le hle2
 replace hW2:=hW2.le hle2
 replace sc3:=sc3.le hle2
 replace hW3:=hW3.le hle2
 refine wp_el a1 (Int.natCast_nonneg j) (by omega:(j:Int)<(s.n:Int)) ?_
 refine wp_st1 (v:=(.string (mtext k))) hv (by simp only [addr_add_eq,Int.toNat_natCast]; exact addr_at (by first | omega | (simp only [List.length_append,List.length_cons,List.length_nil]; omega))) rfl ?_
 clear hv
 intro V3 hv hk3
 replace hB:LeBut (b :: ((w2++(w3++[])))) V1 V3:=fun y z hy hz=>by rw [hk3 y fun e=>hy (by simp [e])]; exact hB y z hy hz
 replace sc2:LR rI V3 c2 x2 w2:=sc2.loc fun y hy=>hk3 y fun e=>hb2 (e ▸ hy)
 replace hW2:Wr V3 w2:=fun y hy=>by obtain⟨q1,q2,q3⟩:=hW2 y hy; exact⟨q1,q2,by rw [hk3 y fun e=>hb2 (e ▸ hy)]; exact q3⟩
 replace sc3:LR rI V3 c3 x3 w3:=sc3.loc fun y hy=>hk3 y fun e=>hb3 (e ▸ hy)
 replace hW3:Wr V3 w3:=fun y hy=>by obtain⟨q1,q2,q3⟩:=hW3 y hy; exact⟨q1,q2,by rw [hk3 y fun e=>hb3 (e ▸ hy)]; exact q3⟩
 have q1_1:IntKind.i64.wrap (k+1)=k+1:=wrap_i64 (by omega)
 refine⟨by decide,?_⟩
 refine wp_el a1 (Int.natCast_nonneg j) (by omega:(j:Int)<(s.n:Int)) ?_
 refine wp_st1 (v:=(.bool (Int.tmod (k+1) 3 == 0))) hv (by simp only [addr_add_eq,Int.toNat_natCast]; exact addr_at (by first | omega | (simp only [List.length_append,List.length_cons,List.length_nil]; omega))) (congrArg (fun z=>[Value.bool (Int.tmod z 3 == 0)]) q1_1) ?_
 clear hv
 intro V4 hv hk4
 replace hB:LeBut (b :: ((w2++(w3++[])))) V1 V4:=fun y z hy hz=>by rw [hk4 y fun e=>hy (by simp [e])]; exact hB y z hy hz
 replace sc2:LR rI V4 c2 x2 w2:=sc2.loc fun y hy=>hk4 y fun e=>hb2 (e ▸ hy)
 replace hW2:Wr V4 w2:=fun y hy=>by obtain⟨q1,q2,q3⟩:=hW2 y hy; exact⟨q1,q2,by rw [hk4 y fun e=>hb2 (e ▸ hy)]; exact q3⟩
 replace sc3:LR rI V4 c3 x3 w3:=sc3.loc fun y hy=>hk4 y fun e=>hb3 (e ▸ hy)
 replace hW3:Wr V4 w3:=fun y hy=>by obtain⟨q1,q2,q3⟩:=hW3 y hy; exact⟨q1,q2,by rw [hk4 y fun e=>hb3 (e ▸ hy)]; exact q3⟩
 have q1_2:IntKind.i64.wrap (IntKind.i64.wrap (k+1)+1)=k+2:=by rw [q1_1,wrap_i64 (by omega)]; omega
 refine wp_el a1 (Int.natCast_nonneg j) (by omega:(j:Int)<(s.n:Int)) ?_
 refine wp_ld1 (s:=c2) hv (by simp only [addr_add_eq,Int.toNat_natCast]; exact addr_at (by first | omega | (simp only [List.length_append,List.length_cons,List.length_nil]; omega))) ?_
 refine wp_arg (congrArg (fun z=>[Sc.val .l c2,Value.int .i64 z]) q1_2) ?_
 refine(cL_markIntS' V4 c2 x2 w2 (k+2) sc2 hn2 hW2 (by omega) (by omega)).mono ?_
 rintro V5 _ ⟨hb5x,hW2,rfl,y2,sc2,ok2,ce2⟩
 refine⟨nofun,_,rfl,?_⟩
 replace hv:=hb5x b _ hb2 hv
 rw [← List.append_assoc] at hv
 replace hB:=hB.trans (hb5x.sub (g:=(b :: ((w2++(w3++[]))))) fun y hy=>by simp [hy])
 replace sc3:LR rI V5 c3 x3 w3:=sc3.but d3x2 hb5x
 replace hW3:Wr V5 w3:=fun y hy=>by obtain⟨q1,q2,q3⟩:=hW3 y hy; exact⟨q1,q2,hb5x y _ (d3x2 y hy) q3⟩
 refine wp_el a1 (Int.natCast_nonneg j) (by omega:(j:Int)<(s.n:Int)) ?_
 refine wp_ld1 (s:=c3) hv (by simp only [addr_add_eq,Int.toNat_natCast]; exact addr_at (by first | omega | (simp only [List.length_append,List.length_cons,List.length_nil]; omega))) ?_
 refine(cL_markIntS' V5 c3 x3 w3 ((k+2)+((cntE mI x2:Nat):Int)) sc3 hn3 hW3 (by omega) (by omega)).mono ?_
 rintro V6 _ ⟨hb6x,hW3,rfl,y3,sc3,ok3,ce3⟩
 refine⟨nofun,_,rfl,?_⟩
 replace hv:=hb6x b _ hb3 hv
 rw [← List.append_assoc] at hv
 replace hB:=hB.trans (hb6x.sub (g:=(b :: ((w2++(w3++[]))))) fun y hy=>by simp [hy])
 replace sc2:LR rI V6 c2 y2 w2:=sc2.but d2x3 hb6x
 replace hW2:Wr V6 w2:=fun y hy=>by obtain⟨q1,q2,q3⟩:=hW2 y hy; exact⟨q1,q2,hb6x y _ (d2x3 y hy) q3⟩
 refine⟨_,rfl,?_⟩
 have ecnt:mRest.cnt (c0,c1,x2,x3,())=(1+(1+(cntE mI x2+(cntE mI x3+0)))):=rfl
 have eend:(((k+2)+((cntE mI x2:Nat):Int))+((cntE mI x3:Nat):Int))=k+((mRest.cnt (c0,c1,x2,x3,()):Nat):Int):=by
  rw [ecnt]
  omega
 have hrow:rRest.R V6 (mtext k,(Int.tmod (k+1) 3 == 0),c2,c3,()) (mtext k,(Int.tmod (k+1) 3 == 0),y2,y3,()) ((w2++(w3++[]))):=(rStr.mk zc0 (rBool.mk (rSl.mk sc2 (rSl.mk sc3 rNil.mk))))
 have hN:=hnext V6 (mtext k,(Int.tmod (k+1) 3 == 0),c2,c3,()) (mtext k,(Int.tmod (k+1) 3 == 0),y2,y3,()) (by show V6 b=some (A++([.string (mtext k),.bool (Int.tmod (k+1) 3 == 0),.slice c2.a c2.n c2.c,.slice c3.a c3.n c3.c]++R),(tt,((0,0):Nat × Nat))); rw [hv]; simp) hrow ?_ hB ⟨rfl,⟨rfl,⟨(by show okE mI ((k+1)+1) y2; rw [show((k+1)+1)=(k+2) by omega]; exact ok2),⟨(by show okE mI (((k+1)+1)+((cntE mI y2:Nat):Int)) y3; rw [show(((k+1)+1)+((cntE mI y2:Nat):Int))=((k+2)+((cntE mI x2:Nat):Int)) by omega]; exact ok3),trivial⟩⟩⟩⟩ (by show(1+(1+(cntE mI y2+(cntE mI y3+0))))=(1+(1+(cntE mI x2+(cntE mI x3+0)))); omega)
 ·show N [.v (.int .i64 ((((k+2)+((cntE mI x2:Nat):Int))+((cntE mI x3:Nat):Int)))),.v (.int .i64 (IntKind.i64.wrap ((j:Int)+1)))] V6
  rw [eend,nxt hj h63]
  exact hN
 ·intro y hy
  simp only [List.mem_append,List.not_mem_nil,or_false] at hy
  rcases hy with hy | hy
  ·exact hW2 y hy
  ·exact hW3 y hy
abbrev mRate:Mk DRate:=mkStr (mkStr (mkBool (mkSl mI (mkInt (mkNil)))))
theorem cL_markRateS (V:Know) (s:SlV) (l:List DRate) (f:List Nat) (k:Int) (h:LR rRate V s l f) (hnd:f.Nodup) (hw:Wr V f) (hk0:0≤k) (hk1:k+cntE mRate l≤4611686018427387904) :
  CallX Tryz.prog V 143 [Sc.val .l s,.int .i64 k] (fun V' r=>LeBut f V V'∧Wr V' f∧r=.int .i64 (k+cntE mRate l)∧∃ l',LR rRate V' s l' f∧okE mRate k l'∧cntE mRate l'=cntE mRate l):=by
 refine CallX.of_fits Tryz.mix (fL_markRateS _ _) fun _=>?_
 simp only [tL_markRateS]
 refine mark_lp rRate mRate h hnd hw hk0 hk1 ?_ fun V1 l' h1 h2 h3 h4 h5=>⟨h1,h2,rfl,l',h3,h4,h5⟩
 rintro N V1 j k b o A R tt ⟨c0,c1,c2,c3,c4,cu⟩ ⟨x0,x1,x2,x3,x4,xu⟩ w a1 hA hj h63 hk hkc hv hR hnd hw hnext
 replace hA:A.length=o+j*5:=hA
 obtain⟨⟨ec0,zc0⟩,hR⟩:=hR
 replace ec0:c0=x0:=ec0
 subst ec0
 replace zc0:c0.size≤9223372036854775807:=zc0
 obtain⟨⟨ec1,zc1⟩,hR⟩:=hR
 replace ec1:c1=x1:=ec1
 subst ec1
 replace zc1:c1.size≤9223372036854775807:=zc1
 obtain⟨ec2,hR⟩:=hR
 replace ec2:c2=x2:=ec2
 subst ec2
 obtain⟨w3,wr3,ec3,sc3,hR⟩:=hR
 subst ec3
 replace sc3:LR rI _ c3 x3 w3:=sc3
 obtain⟨ec4,hR⟩:=hR
 replace ec4:c4=x4:=ec4
 subst ec4
 replace hR:_=[]:=hR
 subst hR
 replace hkc:k+(((1+(1+(1+(cntE mI x3+(1+0))))):Nat):Int)≤4611686018427387904:=hkc
 replace hv:V1 b=some (A++([.string c0]++([.string c1]++([.bool c2]++([.slice c3.a c3.n c3.c]++([.int .i64 c4]++R))))),(tt,((0,0):Nat × Nat))):=hv
 have hb3:b ∉ w3:=fun hm=>(List.nodup_cons.1 hnd).1 (by simp [hm])
 have hn3:w3.Nodup:=(List.nodup_append.1 (List.nodup_cons.1 hnd).2).1
 have hW3:Wr V1 w3:=fun y hy=>hw y (by simp [hy])
 have hB:LeBut (b :: ((w3++[]))) V1 V1:=LeBut.refl
 refine(cL_markText V1 k (by omega)).mono ?_
 rintro V2 _ ⟨hle2,rfl,zc0⟩
 refine⟨nofun,_,rfl,?_⟩
 replace hv:=hle2 _ _ hv
 replace hB:=hB.trans (LeBut.of_le hle2)
 replace sc3:=sc3.le hle2
 replace hW3:=hW3.le hle2
 refine wp_el a1 (Int.natCast_nonneg j) (by omega:(j:Int)<(s.n:Int)) ?_
 refine wp_st1 (v:=(.string (mtext k))) hv (by simp only [addr_add_eq,Int.toNat_natCast]; exact addr_at (by first | omega | (simp only [List.length_append,List.length_cons,List.length_nil]; omega))) rfl ?_
 clear hv
 intro V3 hv hk3
 replace hB:LeBut (b :: ((w3++[]))) V1 V3:=fun y z hy hz=>by rw [hk3 y fun e=>hy (by simp [e])]; exact hB y z hy hz
 replace sc3:LR rI V3 c3 x3 w3:=sc3.loc fun y hy=>hk3 y fun e=>hb3 (e ▸ hy)
 replace hW3:Wr V3 w3:=fun y hy=>by obtain⟨q1,q2,q3⟩:=hW3 y hy; exact⟨q1,q2,by rw [hk3 y fun e=>hb3 (e ▸ hy)]; exact q3⟩
 have q1_1:IntKind.i64.wrap (k+1)=k+1:=wrap_i64 (by omega)
 refine wp_arg (congrArg (fun z=>[Value.int .i64 z]) q1_1) ?_
 refine(cL_markText V3 (k+1) (by omega)).mono ?_
 rintro V4 _ ⟨hle4,rfl,zc1⟩
 refine⟨nofun,_,rfl,?_⟩
 replace hv:=hle4 _ _ hv
 replace hB:=hB.trans (LeBut.of_le hle4)
 replace sc3:=sc3.le hle4
 replace hW3:=hW3.le hle4
 refine wp_el a1 (Int.natCast_nonneg j) (by omega:(j:Int)<(s.n:Int)) ?_
 refine wp_st1 (v:=(.string (mtext (k+1)))) hv (by simp only [addr_add_eq,Int.toNat_natCast]; exact addr_at (by first | omega | (simp only [List.length_append,List.length_cons,List.length_nil]; omega))) rfl ?_
 clear hv
 intro V5 hv hk5
 replace hB:LeBut (b :: ((w3++[]))) V1 V5:=fun y z hy hz=>by rw [hk5 y fun e=>hy (by simp [e])]; exact hB y z hy hz
 replace sc3:LR rI V5 c3 x3 w3:=sc3.loc fun y hy=>hk5 y fun e=>hb3 (e ▸ hy)
 replace hW3:Wr V5 w3:=fun y hy=>by obtain⟨q1,q2,q3⟩:=hW3 y hy; exact⟨q1,q2,by rw [hk5 y fun e=>hb3 (e ▸ hy)]; exact q3⟩
 have q1_2:IntKind.i64.wrap (IntKind.i64.wrap (k+1)+1)=k+2:=by rw [q1_1,wrap_i64 (by omega)]; omega
 refine⟨by decide,?_⟩
 refine wp_el a1 (Int.natCast_nonneg j) (by omega:(j:Int)<(s.n:Int)) ?_
 refine wp_st1 (v:=(.bool (Int.tmod (k+2) 3 == 0))) hv (by simp only [addr_add_eq,Int.toNat_natCast]; exact addr_at (by first | omega | (simp only [List.length_append,List.length_cons,List.length_nil]; omega))) (congrArg (fun z=>[Value.bool (Int.tmod z 3 == 0)]) q1_2) ?_
 clear hv
 intro V6 hv hk6
 replace hB:LeBut (b :: ((w3++[]))) V1 V6:=fun y z hy hz=>by rw [hk6 y fun e=>hy (by simp [e])]; exact hB y z hy hz
 replace sc3:LR rI V6 c3 x3 w3:=sc3.loc fun y hy=>hk6 y fun e=>hb3 (e ▸ hy)
 replace hW3:Wr V6 w3:=fun y hy=>by obtain⟨q1,q2,q3⟩:=hW3 y hy; exact⟨q1,q2,by rw [hk6 y fun e=>hb3 (e ▸ hy)]; exact q3⟩
 have q1_3:IntKind.i64.wrap (IntKind.i64.wrap (IntKind.i64.wrap (k+1)+1)+1)=k+3:=by rw [q1_2,wrap_i64 (by omega)]; omega
 refine wp_el a1 (Int.natCast_nonneg j) (by omega:(j:Int)<(s.n:Int)) ?_
 refine wp_ld1 (s:=c3) hv (by simp only [addr_add_eq,Int.toNat_natCast]; exact addr_at (by first | omega | (simp only [List.length_append,List.length_cons,List.length_nil]; omega))) ?_
 refine wp_arg (congrArg (fun z=>[Sc.val .l c3,Value.int .i64 z]) q1_3) ?_
 refine(cL_markIntS' V6 c3 x3 w3 (k+3) sc3 hn3 hW3 (by omega) (by omega)).mono ?_
 rintro V7 _ ⟨hb7x,hW3,rfl,y3,sc3,ok3,ce3⟩
 refine⟨nofun,_,rfl,?_⟩
 replace hv:=hb7x b _ hb3 hv
 rw [← List.append_assoc] at hv
 replace hB:=hB.trans (hb7x.sub (g:=(b :: ((w3++[])))) fun y hy=>by simp [hy])
 refine wp_el a1 (Int.natCast_nonneg j) (by omega:(j:Int)<(s.n:Int)) ?_
 refine wp_st1 (v:=(.int .i64 ((k+3)+((cntE mI x3:Nat):Int)))) hv (by simp only [addr_add_eq,Int.toNat_natCast]; exact addr_at (by first | omega | (simp only [List.length_append,List.length_cons,List.length_nil]; omega))) rfl ?_
 clear hv
 intro V8 hv hk8
 replace hB:LeBut (b :: ((w3++[]))) V1 V8:=fun y z hy hz=>by rw [hk8 y fun e=>hy (by simp [e])]; exact hB y z hy hz
 replace sc3:LR rI V8 c3 y3 w3:=sc3.loc fun y hy=>hk8 y fun e=>hb3 (e ▸ hy)
 replace hW3:Wr V8 w3:=fun y hy=>by obtain⟨q1,q2,q3⟩:=hW3 y hy; exact⟨q1,q2,by rw [hk8 y fun e=>hb3 (e ▸ hy)]; exact q3⟩
 have q2_1:IntKind.i64.wrap (((k+3)+((cntE mI x3:Nat):Int))+1)=((k+3)+((cntE mI x3:Nat):Int))+1:=wrap_i64 (by omega)
 refine⟨_,rfl,?_⟩
 have ecnt:mRate.cnt (c0,c1,c2,x3,c4,())=(1+(1+(1+(cntE mI x3+(1+0))))):=rfl
 have eend:IntKind.i64.wrap (((k+3)+((cntE mI x3:Nat):Int))+1)=k+((mRate.cnt (c0,c1,c2,x3,c4,()):Nat):Int):=by
  rw [ecnt]
  rw [q2_1]
  omega
 have hrow:rRate.R V8 (mtext k,mtext (k+1),(Int.tmod (k+2) 3 == 0),c3,((k+3)+((cntE mI x3:Nat):Int)),()) (mtext k,mtext (k+1),(Int.tmod (k+2) 3 == 0),y3,((k+3)+((cntE mI x3:Nat):Int)),()) ((w3++[])):=(rStr.mk zc0 (rStr.mk zc1 (rBool.mk (rSl.mk sc3 (rInt.mk rNil.mk)))))
 have hN:=hnext V8 (mtext k,mtext (k+1),(Int.tmod (k+2) 3 == 0),c3,((k+3)+((cntE mI x3:Nat):Int)),()) (mtext k,mtext (k+1),(Int.tmod (k+2) 3 == 0),y3,((k+3)+((cntE mI x3:Nat):Int)),()) (by show V8 b=some (A++([.string (mtext k),.string (mtext (k+1)),.bool (Int.tmod (k+2) 3 == 0),.slice c3.a c3.n c3.c,.int .i64 ((k+3)+((cntE mI x3:Nat):Int))]++R),(tt,((0,0):Nat × Nat))); rw [hv]; simp) hrow ?_ hB ⟨rfl,⟨rfl,⟨(by show(Int.tmod (k+2) 3 == 0)=(Int.tmod ((k+1)+1) 3 == 0); rw [show((k+1)+1)=(k+2) by omega]),⟨(by show okE mI (((k+1)+1)+1) y3; rw [show(((k+1)+1)+1)=(k+3) by omega]; exact ok3),⟨(by show((k+3)+((cntE mI x3:Nat):Int))=((((k+1)+1)+1)+((cntE mI y3:Nat):Int)); rw [show((((k+1)+1)+1)+((cntE mI y3:Nat):Int))=((k+3)+((cntE mI x3:Nat):Int)) by omega]),trivial⟩⟩⟩⟩⟩ (by show(1+(1+(1+(cntE mI y3+(1+0)))))=(1+(1+(1+(cntE mI x3+(1+0))))); omega)
 ·show N [.v (.int .i64 (IntKind.i64.wrap (((k+3)+((cntE mI x3:Nat):Int))+1))),.v (.int .i64 (IntKind.i64.wrap ((j:Int)+1)))] V8
  rw [eend,nxt hj h63]
  exact hN
 ·intro y hy
  simp only [List.mem_append,List.not_mem_nil,or_false] at hy
  exact hW3 y hy
abbrev mString:Mk DString:=mkStr (mkNil)
theorem cL_markStringS (V:Know) (s:SlV) (l:List DString) (f:List Nat) (k:Int) (h:LR rString V s l f) (hnd:f.Nodup) (hw:Wr V f) (hk0:0≤k) (hk1:k+cntE mString l≤4611686018427387904) :
  CallX Tryz.prog V 36 [Sc.val .l s,.int .i64 k] (fun V' r=>LeBut f V V'∧Wr V' f∧r=.int .i64 (k+cntE mString l)∧∃ l',LR rString V' s l' f∧okE mString k l'∧cntE mString l'=cntE mString l):=by
 refine CallX.of_fits Tryz.mix (fL_markStringS _ _) fun _=>?_
 simp only [tL_markStringS]
 refine mark_lp rString mString h hnd hw hk0 hk1 ?_ fun V1 l' h1 h2 h3 h4 h5=>⟨h1,h2,rfl,l',h3,h4,h5⟩
 rintro N V1 j k b o A R tt ⟨c0,cu⟩ ⟨x0,xu⟩ w a1 hA hj h63 hk hkc hv hR hnd hw hnext
 replace hA:A.length=o+j*1:=hA
 obtain⟨⟨ec0,zc0⟩,hR⟩:=hR
 replace ec0:c0=x0:=ec0
 subst ec0
 replace zc0:c0.size≤9223372036854775807:=zc0
 replace hR:_=[]:=hR
 subst hR
 replace hkc:k+(((1+0):Nat):Int)≤4611686018427387904:=hkc
 replace hv:V1 b=some (A++([.string c0]++R),(tt,((0,0):Nat × Nat))):=hv
 have hB:LeBut (b :: ([])) V1 V1:=LeBut.refl
 refine(cL_markText V1 k (by omega)).mono ?_
 rintro V2 _ ⟨hle2,rfl,zc0⟩
 refine⟨nofun,_,rfl,?_⟩
 replace hv:=hle2 _ _ hv
 replace hB:=hB.trans (LeBut.of_le hle2)
 refine wp_el a1 (Int.natCast_nonneg j) (by omega:(j:Int)<(s.n:Int)) ?_
 refine wp_st1 (v:=(.string (mtext k))) hv (by simp only [addr_add_eq,Int.toNat_natCast]; exact addr_at (by first | omega | (simp only [List.length_append,List.length_cons,List.length_nil]; omega))) rfl ?_
 clear hv
 intro V3 hv hk3
 replace hB:LeBut (b :: ([])) V1 V3:=fun y z hy hz=>by rw [hk3 y fun e=>hy (by simp [e])]; exact hB y z hy hz
 have q1_1:IntKind.i64.wrap (k+1)=k+1:=wrap_i64 (by omega)
 refine⟨_,rfl,?_⟩
 have ecnt:mString.cnt (c0,())=(1+0):=rfl
 have eend:IntKind.i64.wrap (k+1)=k+((mString.cnt (c0,()):Nat):Int):=by
  rw [ecnt]
  rw [q1_1]
  omega
 have hrow:rString.R V3 (mtext k,()) (mtext k,()) ([]):=(rStr.mk zc0 rNil.mk)
 have hN:=hnext V3 (mtext k,()) (mtext k,()) (by show V3 b=some (A++([.string (mtext k)]++R),(tt,((0,0):Nat × Nat))); rw [hv]; simp) hrow ?_ hB ⟨rfl,trivial⟩ (by show(1+0)=(1+0); omega)
 ·show N [.v (.int .i64 (IntKind.i64.wrap (k+1))),.v (.int .i64 (IntKind.i64.wrap ((j:Int)+1)))] V3
  rw [eend,nxt hj h63]
  exact hN
 ·intro y hy; cases hy
theorem cL_markSigned (V:Know) (c0:Bool) (c1:SlV) (x1:List Lim) (w1:List Nat) (k:Int) (s1:LR rI V c1 x1 w1) (hn1:w1.Nodup) (hW1:Wr V w1) (hk0:0≤k) (hk1:(k+((cntE mI x1:Nat):Int))≤4611686018427387904) :
  CallX Tryz.prog V 91 [qv0 (c0,c1,()),.int .i64 k] (fun V' r=>LeBut (w1++[]) V V'∧r=.int .i64 (k+((cntE mI x1:Nat):Int))∧∃ (y1:List Lim),(LR rI V' c1 y1 w1∧Wr V' w1∧okE mI k y1∧cntE mI y1=cntE mI x1)):=by
 refine CallX.of_fits Tryz.mix (fL_markSigned _ _) fun _=>?_
 simp only [tL_markSigned,T.wp]
 have hB:LeBut (w1++[]) V V:=LeBut.refl
 refine(cL_markIntS' V c1 x1 w1 k s1 hn1 hW1 (by omega) (by omega)).mono ?_
 rintro V1 _ ⟨hb1,hW1,rfl,y1,s1,ok1,ce1⟩
 refine⟨nofun,_,rfl,?_⟩
 replace hB:=hB.trans (hb1.sub (g:=(w1++[])) fun y hy=>by simp at hy ⊢; simp [hy])
 exact⟨hB,rfl,y1,⟨s1,hW1,ok1,ce1⟩⟩
theorem cL_markMoney (V:Know) (c0:ByteArray) (c1:Bool) (c2:SlV) (x2:List Lim) (w2:List Nat) (k:Int) (s2:LR rI V c2 x2 w2) (hn2:w2.Nodup) (hW2:Wr V w2) (hk0:0≤k) (hk1:(k+((cntE mI x2:Nat):Int))≤4611686018427387904) :
  CallX Tryz.prog V 38 [qv2 (c0,c1,c2,()),.int .i64 k] (fun V' r=>LeBut (w2++[]) V V'∧r=.int .i64 (k+((cntE mI x2:Nat):Int))∧∃ (y2:List Lim),(LR rI V' c2 y2 w2∧Wr V' w2∧okE mI k y2∧cntE mI y2=cntE mI x2)):=by
 refine CallX.of_fits Tryz.mix (fL_markMoney _ _) fun _=>?_
 simp only [tL_markMoney,T.wp]
 have hB:LeBut (w2++[]) V V:=LeBut.refl
 refine(cL_markSigned V c1 c2 x2 w2 k s2 hn2 hW2 (by omega) (by omega)).mono ?_
 rintro V1 _ ⟨hb1,rfl,y2,⟨s2,hW2,ok2,ce2⟩⟩
 refine⟨nofun,_,rfl,?_⟩
 replace hB:=hB.trans (hb1.sub (g:=(w2++[])) fun y hy=>by simp at hy ⊢; simp [hy])
 exact⟨hB,rfl,y2,⟨s2,hW2,ok2,ce2⟩⟩
theorem cL_markBook (V:Know) (c0:SlV) (x0:List DAcct) (w0:List Nat) (k:Int) (s0:LR rAcct V c0 x0 w0) (hn0:w0.Nodup) (hW0:Wr V w0) (hk0:0≤k) (hk1:(k+((cntE mAcct x0:Nat):Int))≤4611686018427387904) :
  CallX Tryz.prog V 87 [qv4 (c0,()),.int .i64 k] (fun V' r=>LeBut (w0++[]) V V'∧r=.int .i64 (k+((cntE mAcct x0:Nat):Int))∧∃ (y0:List DAcct),(LR rAcct V' c0 y0 w0∧Wr V' w0∧okE mAcct k y0∧cntE mAcct y0=cntE mAcct x0)):=by
 refine CallX.of_fits Tryz.mix (fL_markBook _ _) fun _=>?_
 simp only [tL_markBook,T.wp]
 have hB:LeBut (w0++[]) V V:=LeBut.refl
 refine(cL_markAcctS V c0 x0 w0 k s0 hn0 hW0 (by omega) (by omega)).mono ?_
 rintro V1 _ ⟨hb1,hW0,rfl,y0,s0,ok0,ce0⟩
 refine⟨nofun,_,rfl,?_⟩
 replace hB:=hB.trans (hb1.sub (g:=(w0++[])) fun y hy=>by simp at hy ⊢; simp [hy])
 exact⟨hB,rfl,y0,⟨s0,hW0,ok0,ce0⟩⟩
theorem cL_markRates (V:Know) (c0:ByteArray) (c1:SlV) (x1:List DRate) (w1:List Nat) (k:Int) (s1:LR rRate V c1 x1 w1) (hn1:w1.Nodup) (hW1:Wr V w1) (hk0:0≤k) (hk1:(k+((cntE mRate x1:Nat):Int))≤4611686018427387904) :
  CallX Tryz.prog V 89 [qv5 (c0,c1,()),.int .i64 k] (fun V' r=>LeBut (w1++[]) V V'∧r=.int .i64 (k+((cntE mRate x1:Nat):Int))∧∃ (y1:List DRate),(LR rRate V' c1 y1 w1∧Wr V' w1∧okE mRate k y1∧cntE mRate y1=cntE mRate x1)):=by
 refine CallX.of_fits Tryz.mix (fL_markRates _ _) fun _=>?_
 simp only [tL_markRates,T.wp]
 have hB:LeBut (w1++[]) V V:=LeBut.refl
 refine(cL_markRateS V c1 x1 w1 k s1 hn1 hW1 (by omega) (by omega)).mono ?_
 rintro V1 _ ⟨hb1,hW1,rfl,y1,s1,ok1,ce1⟩
 refine⟨nofun,_,rfl,?_⟩
 replace hB:=hB.trans (hb1.sub (g:=(w1++[])) fun y hy=>by simp at hy ⊢; simp [hy])
 exact⟨hB,rfl,y1,⟨s1,hW1,ok1,ce1⟩⟩
theorem cL_markLedger (V:Know) (c0:SlV) (c1:SlV) (c2:ByteArray) (c3:SlV) (x0:List DAcct) (x1:List DRest) (x3:List DRate) (w0:List Nat) (w1:List Nat) (w3:List Nat) (k:Int) (s0:LR rAcct V c0 x0 w0) (s1:LR rRest V c1 x1 w1) (s3:LR rRate V c3 x3 w3) (hn0:w0.Nodup) (hW0:Wr V w0) (hn1:w1.Nodup) (hW1:Wr V w1) (hn3:w3.Nodup) (hW3:Wr V w3) (d0x1:∀ y∈w0,y ∉ w1) (d0x3:∀ y∈w0,y ∉ w3) (d1x3:∀ y∈w1,y ∉ w3) (hk0:0≤k) (hk1:(((k+((cntE mAcct x0:Nat):Int))+((cntE mRest x1:Nat):Int))+((cntE mRate x3:Nat):Int))≤4611686018427387904) :
  CallX Tryz.prog V 35 [qv3 (c0,c1,c2,c3,()),.int .i64 k] (fun V' r=>LeBut (w0++(w1++(w3++[]))) V V'∧r=.int .i64 (((k+((cntE mAcct x0:Nat):Int))+((cntE mRest x1:Nat):Int))+((cntE mRate x3:Nat):Int))∧∃ (y0:List DAcct) (y1:List DRest) (y3:List DRate),(LR rAcct V' c0 y0 w0∧Wr V' w0∧okE mAcct k y0∧cntE mAcct y0=cntE mAcct x0)∧(LR rRest V' c1 y1 w1∧Wr V' w1∧okE mRest (k+((cntE mAcct x0:Nat):Int)) y1∧cntE mRest y1=cntE mRest x1)∧(LR rRate V' c3 y3 w3∧Wr V' w3∧okE mRate ((k+((cntE mAcct x0:Nat):Int))+((cntE mRest x1:Nat):Int)) y3∧cntE mRate y3=cntE mRate x3)):=by
 refine CallX.of_fits Tryz.mix (fL_markLedger _ _) fun _=>?_
 simp only [tL_markLedger,T.wp]
 have d1x0:∀ y∈w1,y ∉ w0:=fun y h1 h2=>d0x1 y h2 h1
 have d3x0:∀ y∈w3,y ∉ w0:=fun y h1 h2=>d0x3 y h2 h1
 have d3x1:∀ y∈w3,y ∉ w1:=fun y h1 h2=>d1x3 y h2 h1
 have hB:LeBut (w0++(w1++(w3++[]))) V V:=LeBut.refl
 refine(cL_markBook V c0 x0 w0 k s0 hn0 hW0 (by omega) (by omega)).mono ?_
 rintro V1 _ ⟨hb1,rfl,y0,⟨s0,hW0,ok0,ce0⟩⟩
 refine⟨nofun,_,rfl,?_⟩
 replace hB:=hB.trans (hb1.sub (g:=(w0++(w1++(w3++[])))) fun y hy=>by simp only [List.mem_append,List.not_mem_nil,or_false] at hy ⊢; simp [hy])
 have dq1:∀ y∈w1,y ∉ (w0++[]):=fun y hy hm=>by
  simp only [List.mem_append,List.not_mem_nil,or_false] at hm
  exact d1x0 y hy hm
 replace s1:LR rRest V1 c1 x1 w1:=s1.but dq1 hb1
 replace hW1:Wr V1 w1:=fun y hy=>by obtain⟨q1,q2,q3⟩:=hW1 y hy; exact⟨q1,q2,hb1 y _ (dq1 y hy) q3⟩
 have dq3:∀ y∈w3,y ∉ (w0++[]):=fun y hy hm=>by
  simp only [List.mem_append,List.not_mem_nil,or_false] at hm
  exact d3x0 y hy hm
 replace s3:LR rRate V1 c3 x3 w3:=s3.but dq3 hb1
 replace hW3:Wr V1 w3:=fun y hy=>by obtain⟨q1,q2,q3⟩:=hW3 y hy; exact⟨q1,q2,hb1 y _ (dq3 y hy) q3⟩
 refine(cL_markRestS V1 c1 x1 w1 (k+((cntE mAcct x0:Nat):Int)) s1 hn1 hW1 (by omega) (by omega)).mono ?_
 rintro V2 _ ⟨hb2,hW1,rfl,y1,s1,ok1,ce1⟩
 refine⟨nofun,_,rfl,?_⟩
 replace hB:=hB.trans (hb2.sub (g:=(w0++(w1++(w3++[])))) fun y hy=>by simp only [List.mem_append,List.not_mem_nil,or_false] at hy ⊢; simp [hy])
 have dq0:∀ y∈w0,y ∉ w1:=d0x1
 replace s0:LR rAcct V2 c0 y0 w0:=s0.but dq0 hb2
 replace hW0:Wr V2 w0:=fun y hy=>by obtain⟨q1,q2,q3⟩:=hW0 y hy; exact⟨q1,q2,hb2 y _ (dq0 y hy) q3⟩
 have dq3:∀ y∈w3,y ∉ w1:=d3x1
 replace s3:LR rRate V2 c3 x3 w3:=s3.but dq3 hb2
 replace hW3:Wr V2 w3:=fun y hy=>by obtain⟨q1,q2,q3⟩:=hW3 y hy; exact⟨q1,q2,hb2 y _ (dq3 y hy) q3⟩
 refine(cL_markRates V2 c2 c3 x3 w3 ((k+((cntE mAcct x0:Nat):Int))+((cntE mRest x1:Nat):Int)) s3 hn3 hW3 (by omega) (by omega)).mono ?_
 rintro V3 _ ⟨hb3,rfl,y3,⟨s3,hW3,ok3,ce3⟩⟩
 refine⟨nofun,_,rfl,?_⟩
 replace hB:=hB.trans (hb3.sub (g:=(w0++(w1++(w3++[])))) fun y hy=>by simp only [List.mem_append,List.not_mem_nil,or_false] at hy ⊢; simp [hy])
 have dq0:∀ y∈w0,y ∉ (w3++[]):=fun y hy hm=>by
  simp only [List.mem_append,List.not_mem_nil,or_false] at hm
  exact d0x3 y hy hm
 replace s0:LR rAcct V3 c0 y0 w0:=s0.but dq0 hb3
 replace hW0:Wr V3 w0:=fun y hy=>by obtain⟨q1,q2,q3⟩:=hW0 y hy; exact⟨q1,q2,hb3 y _ (dq0 y hy) q3⟩
 have dq1:∀ y∈w1,y ∉ (w3++[]):=fun y hy hm=>by
  simp only [List.mem_append,List.not_mem_nil,or_false] at hm
  exact d1x3 y hy hm
 replace s1:LR rRest V3 c1 y1 w1:=s1.but dq1 hb3
 replace hW1:Wr V3 w1:=fun y hy=>by obtain⟨q1,q2,q3⟩:=hW1 y hy; exact⟨q1,q2,hb3 y _ (dq1 y hy) q3⟩
 exact⟨hB,rfl,y0,y1,y3,⟨s0,hW0,ok0,ce0⟩,⟨s1,hW1,ok1,ce1⟩,⟨s3,hW3,ok3,ce3⟩⟩
end Go.Proofs.YtfiakghfncempaaGreatDoor
