/-
  The laws' marks on lists of rows. The laws' marks, told alike for all types.
-/
import Derived.Test.YtagjmmpiglgmhaaGreatDoorMkB
import Derived.Test.YtagjmmpiglgmhaaGreatDoorStr
namespace Go.Proofs.YtagjmmpiglgmhaaGreatDoor
open Sx
set_option maxRecDepth 100000
abbrev mMoney:Mk DMoney:=mkStr (mkBool (mkSl mI (mkNil)))
theorem cL_markMoneyS (V:Know) (s:SlV) (l:List DMoney) (f:List Nat) (k:Int) (h:LR rMoney V s l f) (hnd:f.Nodup) (hw:Wr V f) (hk0:0≤k) (hk1:k+cntE mMoney l≤4611686018427387904) :
  CallX Tryz.prog V gL_markMoneyS [Sc.val .l s,.int .i64 k] (fun V' r=>LeBut f V V'∧Wr V' f∧r=.int .i64 (k+cntE mMoney l)∧∃ l',LR rMoney V' s l' f∧okE mMoney k l'∧cntE mMoney l'=cntE mMoney l):=by
 refine CallX.of_fits Tryz.mix (fL_markMoneyS _ _) fun _=>?_
 simp only [tL_markMoneyS]
 refine mark_lp rMoney mMoney h hnd hw hk0 hk1 ?_ fun V1 l' h1 h2 h3 h4 h5=>⟨h1,h2,rfl,l',h3,h4,h5⟩
 rintro N V1 j k b o A R tt ⟨c0,c1,c2,cu⟩ ⟨x0,x1,x2,xu⟩ w a1 hA hj h63 hk hkc hv hR hnd hw hnext
 replace hA:A.length=o+j*3:=hA
 obtain⟨⟨ec0,zc0⟩,hR⟩:=hR
 replace ec0:c0=x0:=ec0
 subst ec0
 replace zc0:c0.size≤9223372036854775807:=zc0
 obtain⟨ec1,hR⟩:=hR
 replace ec1:c1=x1:=ec1
 subst ec1
 obtain⟨w2,wr2,ec2,sc2,hR⟩:=hR
 subst ec2
 replace sc2:LR rI _ c2 x2 w2:=sc2
 replace hR:_=[]:=hR
 subst hR
 replace hkc:k+(((1+(1+(cntE mI x2+0))):Nat):Int)≤4611686018427387904:=hkc
 replace hv:V1 b=some (A++([.string c0]++([.bool c1]++([.slice c2.a c2.n c2.c]++R))),(tt,((0,0):Nat × Nat))):=hv
 have hb2:b ∉ w2:=fun hm=>(List.nodup_cons.1 hnd).1 (by simp [hm])
 have hn2:w2.Nodup:=(List.nodup_append.1 (List.nodup_cons.1 hnd).2).1
 have hW2:Wr V1 w2:=fun y hy=>hw y (by simp [hy])
 have hB:LeBut (b :: ((w2++[]))) V1 V1:=LeBut.refl
 refine(cL_markText V1 k (by omega)).mono ?_
 rintro V2 _ ⟨hle2,rfl,zc0⟩
 refine⟨nofun,_,rfl,?_⟩
 replace hv:=hle2 _ _ hv
 replace hB:=hB.trans (LeBut.of_le hle2)
 replace sc2:=sc2.le hle2
 replace hW2:=hW2.le hle2
 refine wp_el a1 (Int.natCast_nonneg j) (by omega:(j:Int)<(s.n:Int)) ?_
 refine wp_st1 (v:=(.string (mtext k))) hv (by simp only [addr_add_eq,Int.toNat_natCast]; exact addr_at (by first | omega | (simp only [List.length_append,List.length_cons,List.length_nil]; omega))) rfl ?_
 clear hv
 intro V3 hv hk3
 replace hB:LeBut (b :: ((w2++[]))) V1 V3:=fun y z hy hz=>by rw [hk3 y fun e=>hy (by simp [e])]; exact hB y z hy hz
 replace sc2:LR rI V3 c2 x2 w2:=sc2.loc fun y hy=>hk3 y fun e=>hb2 (e ▸ hy)
 replace hW2:Wr V3 w2:=fun y hy=>by obtain⟨q1,q2,q3⟩:=hW2 y hy; exact⟨q1,q2,by rw [hk3 y fun e=>hb2 (e ▸ hy)]; exact q3⟩
 have q1_1:IntKind.i64.wrap (k+1)=k+1:=wrap_i64 (by omega)
 refine⟨by decide,?_⟩
 refine wp_el a1 (Int.natCast_nonneg j) (by omega:(j:Int)<(s.n:Int)) ?_
 refine wp_st1 (v:=(.bool (Int.tmod (k+1) 3 == 0))) hv (by simp only [addr_add_eq,Int.toNat_natCast]; exact addr_at (by first | omega | (simp only [List.length_append,List.length_cons,List.length_nil]; omega))) (congrArg (fun z=>[Value.bool (Int.tmod z 3 == 0)]) q1_1) ?_
 clear hv
 intro V4 hv hk4
 replace hB:LeBut (b :: ((w2++[]))) V1 V4:=fun y z hy hz=>by rw [hk4 y fun e=>hy (by simp [e])]; exact hB y z hy hz
 replace sc2:LR rI V4 c2 x2 w2:=sc2.loc fun y hy=>hk4 y fun e=>hb2 (e ▸ hy)
 replace hW2:Wr V4 w2:=fun y hy=>by obtain⟨q1,q2,q3⟩:=hW2 y hy; exact⟨q1,q2,by rw [hk4 y fun e=>hb2 (e ▸ hy)]; exact q3⟩
 have q1_2:IntKind.i64.wrap (IntKind.i64.wrap (k+1)+1)=k+2:=by rw [q1_1,wrap_i64 (by omega)]; omega
 refine wp_el a1 (Int.natCast_nonneg j) (by omega:(j:Int)<(s.n:Int)) ?_
 refine wp_ld1 (s:=c2) hv (by simp only [addr_add_eq,Int.toNat_natCast]; exact addr_at (by first | omega | (simp only [List.length_append,List.length_cons,List.length_nil]; omega))) ?_
 refine wp_arg (congrArg (fun z=>[Sc.val .l c2,Value.int .i64 z]) q1_2) ?_
 refine(cL_markIntS' V4 c2 x2 w2 (k+2) sc2 hn2 hW2 (by omega) (by omega)).mono ?_
 rintro V5 _ ⟨hb5x,hW2,rfl,y2,sc2,ok2,ce2⟩
 refine⟨nofun,_,rfl,?_⟩
 replace hv:=hb5x b _ hb2 hv
 rw [← List.append_assoc] at hv
 replace hB:=hB.trans (hb5x.sub (g:=(b :: ((w2++[])))) fun y hy=>by simp [hy])
 refine⟨_,rfl,?_⟩
 have ecnt:mMoney.cnt (c0,c1,x2,())=(1+(1+(cntE mI x2+0))):=rfl
 have eend:((k+2)+((cntE mI x2:Nat):Int))=k+((mMoney.cnt (c0,c1,x2,()):Nat):Int):=by
  rw [ecnt]
  omega
 have hrow:rMoney.R V5 (mtext k,(Int.tmod (k+1) 3 == 0),c2,()) (mtext k,(Int.tmod (k+1) 3 == 0),y2,()) ((w2++[])):=(rStr.mk zc0 (rBool.mk (rSl.mk sc2 rNil.mk)))
 have hN:=hnext V5 (mtext k,(Int.tmod (k+1) 3 == 0),c2,()) (mtext k,(Int.tmod (k+1) 3 == 0),y2,()) (by show V5 b=some (A++([.string (mtext k),.bool (Int.tmod (k+1) 3 == 0),.slice c2.a c2.n c2.c]++R),(tt,((0,0):Nat × Nat))); rw [hv]; simp) hrow ?_ hB ⟨rfl,⟨rfl,⟨(by show okE mI ((k+1)+1) y2; rw [show((k+1)+1)=(k+2) by omega]; exact ok2),trivial⟩⟩⟩ (by show(1+(1+(cntE mI y2+0)))=(1+(1+(cntE mI x2+0))); omega)
 ·show N [.v (.int .i64 (((k+2)+((cntE mI x2:Nat):Int)))),.v (.int .i64 (IntKind.i64.wrap ((j:Int)+1)))] V5
  rw [eend,nxt hj h63]
  exact hN
 ·intro y hy
  simp only [List.mem_append,List.not_mem_nil,or_false] at hy
  exact hW2 y hy
theorem cL_markMoney (V:Know) (c0:ByteArray) (c1:Bool) (c2:SlV) (x2:List Lim) (w2:List Nat) (k:Int) (s2:LR rI V c2 x2 w2) (hn2:w2.Nodup) (hW2:Wr V w2) (hk0:0≤k) (hk1:(k+((cntE mI x2:Nat):Int))≤4611686018427387904) :
  CallX Tryz.prog V gL_markMoney [Sh1.val (.g [.s,.b,.l]) (c0,c1,c2,()),.int .i64 k] (fun V' r=>LeBut (w2++[]) V V'∧r=.int .i64 (k+((cntE mI x2:Nat):Int))∧∃ (y2:List Lim),(LR rI V' c2 y2 w2∧Wr V' w2∧okE mI k y2∧cntE mI y2=cntE mI x2)):=by
 refine CallX.of_fits Tryz.mix (fL_markMoney _ _) fun _=>?_
 simp only [tL_markMoney,T.wp]
 have hB:LeBut (w2++[]) V V:=LeBut.refl
 refine(cL_markSigned V c1 c2 x2 w2 k s2 hn2 hW2 (by omega) (by omega)).mono ?_
 rintro V1 _ ⟨hb1,rfl,y2,⟨s2,hW2,ok2,ce2⟩⟩
 refine⟨nofun,_,rfl,?_⟩
 replace hB:=hB.trans (hb1.sub (g:=(w2++[])) fun y hy=>by simp at hy ⊢; simp [hy])
 exact⟨hB,rfl,y2,⟨s2,hW2,ok2,ce2⟩⟩
theorem cL_heldMoney (V:Know) (c0:ByteArray) (c1:Bool) (c2:SlV) (x2:List Lim) (w2:List Nat) (k:Int) (s2:LR rI V c2 x2 w2) (hk0:0≤k) (hk1:(k+((cntE mI x2:Nat):Int))≤4611686018427387904) (ok2:okE mI k x2) :
  CallX Tryz.prog V gL_heldMoney [Sh1.val (.g [.s,.b,.l]) (c0,c1,c2,()),.int .i64 k] (fun V' r=>V'=V∧r=.int .i64 (k+((cntE mI x2:Nat):Int))):=by
 refine CallX.of_fits Tryz.mix (fL_heldMoney _ _) fun _=>?_
 simp only [tL_heldMoney,T.wp]
 refine(cL_heldSigned V c1 c2 x2 w2 k s2 (by omega) (by omega) ok2).mono ?_
 rintro V1 _ ⟨rfl,rfl⟩
 have hneg1:¬ (k+((cntE mI x2:Nat):Int))<0:=by omega
 refine⟨nofun,_,rfl,fun hneg=>absurd (of_decide_eq_true hneg) hneg1,fun _=>?_⟩
 exact⟨by trivial,rfl⟩
def MkC {sh:List Sc} {α:Type} (P:Program) (g:Nat) (r:Rp sh α):Prop:=∀ (V:Know) (c:Scs sh) (x:α) (f:List Nat) (k:Int),r.R V c x f→f.Nodup→Wr V f→r.tot x≤1048576→0≤k→k≤1152921504606846976 →
 CallX P V g [Sh1.val (.g sh) c,.int .i64 k] (fun V' v=>LeBut f V V'∧∃ n:Int,v=.int .i64 (k+n)∧0≤n∧n≤67108864)
def MkCS {sh:List Sc} {α:Type} (P:Program) (g:Nat) (r:Rp sh α):Prop:=∀ (V:Know) (s:SlV) (l:List α) (f:List Nat) (k:Int),LR r V s l f→f.Nodup→Wr V f→l.length+totE r l≤1048576→0≤k→k≤1152921504606846976 →
 CallX P V g [Sc.val .l s,.int .i64 k] (fun V' v=>LeBut f V V'∧∃ n:Int,v=.int .i64 (k+n)∧0≤n∧n≤67108864)
def MkH {sh:List Sc} {α:Type} (P:Program) (g gh:Nat) (r:Rp sh α):Prop:=∀ (V:Know) (c:Scs sh) (x:α) (f:List Nat) (k:Int),r.R V c x f→f.Nodup→Wr V f→r.tot x≤1048576→0≤k→k≤1152921504606846976 →
 CallX P V g [Sh1.val (.g sh) c,.int .i64 k] (fun V' v=>LeBut f V V'∧Wr V' f∧∃ n:Int,v=.int .i64 (k+n)∧0≤n∧n≤67108864 ∧
  ∀ V2,(∀ b∈f,V2 b=V' b)→CallX P V2 gh [Sh1.val (.g sh) c,.int .i64 k] (fun V3 v=>V3=V2∧v=.int .i64 (k+n)))
theorem Wr.but {V V':Know} {f g:List Nat} (h:Wr V f) (d:∀ b∈f,b ∉ g) (B:LeBut g V V'):Wr V' f:=fun b hb=>by obtain⟨q1,q2,q3⟩:=h b hb; exact⟨q1,q2,B b _ (d b hb) q3⟩
theorem ke_le {V V1 V':Know} {f:List Nat} (W:Wr V1 f) (ke:∀ b∈f,V b=V1 b) (le:V.le V'):∀ b∈f,V' b=V1 b:=fun b hb=>by obtain⟨q1,q2,q3⟩:=W b hb; rw [le _ _ ((ke b hb).trans q3),q3]
theorem ke_but {V V1 V':Know} {f g:List Nat} (W:Wr V1 f) (ke:∀ b∈f,V b=V1 b) (d:∀ b∈f,b ∉ g) (B:LeBut g V V'):∀ b∈f,V' b=V1 b:=fun b hb=>by obtain⟨q1,q2,q3⟩:=W b hb; rw [B b _ (d b hb) ((ke b hb).trans q3),q3]
theorem cntE_le {sh:List Sc} {α:Type} {r:Rp sh α} {m:Mk α} {K:Nat} (hK:∀ x,m.cnt x≤K*(1+r.tot x)):∀ l,cntE m l≤K*(l.length+totE r l)
 | []=>by simp [cntE]
 | x :: l=>by
  have ih:=cntE_le hK l
  have h1:=hK x
  simp only [cntE,totE,List.length_cons]
  have e:K*(l.length+1+(r.tot x+totE r l))=K*(1+r.tot x)+K*(l.length+totE r l):=by rw [← Nat.mul_add]; congr 1; omega
  omega
theorem cnt_Rate (x:DRate):mRate.cnt x≤6*(1+rRate.tot x):=by
 have e:mRate.cnt x=(1+(1+(1+(cntE mI x.2.2.2.1+(1+0))))):=rfl
 have e2:rRate.tot x=(x.1.size+(x.2.1.size+(x.2.2.2.1.length+totE rI x.2.2.2.1+0))):=rfl
 rw [e,e2]
 have q3:=cntE_int x.2.2.2.1
 omega
theorem cnt_Money (x:DMoney):mMoney.cnt x≤6*(1+rMoney.tot x):=by
 have e:mMoney.cnt x=(1+(1+(cntE mI x.2.2.1+0))):=rfl
 have e2:rMoney.tot x=(x.1.size+(x.2.2.1.length+totE rI x.2.2.1+0)):=rfl
 rw [e,e2]
 have q2:=cntE_int x.2.2.1
 omega
theorem cnt_Acct (x:DAcct):mAcct.cnt x≤6*(1+rAcct.tot x):=by
 have e:mAcct.cnt x=(1+(1+(1+(cntE mI x.2.2.2.1+0)))):=rfl
 have e2:rAcct.tot x=(x.1.size+(x.2.1.size+(x.2.2.2.1.length+totE rI x.2.2.2.1+0))):=rfl
 rw [e,e2]
 have q3:=cntE_int x.2.2.2.1
 omega
theorem cnt_Rest (x:DRest):mRest.cnt x≤6*(1+rRest.tot x):=by
 have e:mRest.cnt x=(1+(1+(cntE mI x.2.2.1+(cntE mI x.2.2.2.1+0)))):=rfl
 have e2:rRest.tot x=(x.1.size+(x.2.2.1.length+totE rI x.2.2.1+(x.2.2.2.1.length+totE rI x.2.2.2.1+0))):=rfl
 rw [e,e2]
 have q2:=cntE_int x.2.2.1
 have q3:=cntE_int x.2.2.2.1
 omega
theorem mkC_Rates:MkC Tryz.prog gL_markRates rRates:=by
 rintro V ⟨c0,c1,cu⟩ ⟨x0,x1,xu⟩ f k hx nd hw ht k0 k1
 obtain⟨⟨e0,_⟩,hx⟩:=hx
 replace e0:c0=x0:=e0
 subst e0
 obtain⟨w1,z1,rfl,s1,hx⟩:=hx
 replace s1:LR rRate V c1 x1 w1:=s1
 replace hx:_=[]:=hx
 subst hx
 have et:rRates.tot (c0,x1,xu)=(c0.size+(x1.length+totE rRate x1+0)):=rfl
 rw [et] at ht
 have q1:=cntE_le cnt_Rate x1
 have n1:=List.nodup_append.1 nd
 refine(cL_markRates V c0 c1 x1 w1 k s1 n1.1 (fun y hy=>hw y (by simp [hy])) k0 (by omega)).mono ?_
 rintro V1 _ ⟨hb,rfl,y1,M1,W1,k1k,n1n⟩
 exact⟨hb,((cntE mRate x1:Nat):Int),congrArg (Value.int .i64) (by omega),by omega,by omega⟩
theorem mkC_Money:MkC Tryz.prog gL_markMoney rMoney:=by
 rintro V ⟨c0,c1,c2,cu⟩ ⟨x0,x1,x2,xu⟩ f k hx nd hw ht k0 k1
 obtain⟨⟨e0,_⟩,hx⟩:=hx
 replace e0:c0=x0:=e0
 subst e0
 obtain⟨e1,hx⟩:=hx
 replace e1:c1=x1:=e1
 subst e1
 obtain⟨w2,z2,rfl,s2,hx⟩:=hx
 replace s2:LR rI V c2 x2 w2:=s2
 replace hx:_=[]:=hx
 subst hx
 have et:rMoney.tot (c0,c1,x2,xu)=(c0.size+(x2.length+totE rI x2+0)):=rfl
 rw [et] at ht
 have q2:=cntE_int x2
 have n2:=List.nodup_append.1 nd
 refine(cL_markMoney V c0 c1 c2 x2 w2 k s2 n2.1 (fun y hy=>hw y (by simp [hy])) k0 (by omega)).mono ?_
 rintro V1 _ ⟨hb,rfl,y2,M2,W2,k2k,n2n⟩
 exact⟨hb,((cntE mI x2:Nat):Int),congrArg (Value.int .i64) (by omega),by omega,by omega⟩
theorem mkCS_Money:MkCS Tryz.prog gL_markMoneyS rMoney:=by
 rintro V s l f k h nd hw ht k0 k1
 have q:=cntE_le cnt_Money l
 refine(cL_markMoneyS V s l f k h nd hw k0 (by omega)).mono ?_
 rintro V1 _ ⟨hb,_,rfl,_⟩
 exact⟨hb,((cntE mMoney l:Nat):Int),rfl,by omega,by omega⟩
theorem mkC_Ledger:MkC Tryz.prog gL_markLedger rLedger:=by
 rintro V ⟨c0,c1,c2,c3,cu⟩ ⟨x0,x1,x2,x3,xu⟩ f k hx nd hw ht k0 k1
 obtain⟨w0,z0,rfl,s0,hx⟩:=hx
 replace s0:LR rAcct V c0 x0 w0:=s0
 obtain⟨w1,z1,rfl,s1,hx⟩:=hx
 replace s1:LR rRest V c1 x1 w1:=s1
 obtain⟨⟨e2,_⟩,hx⟩:=hx
 replace e2:c2=x2:=e2
 subst e2
 obtain⟨w3,z3,rfl,s3,hx⟩:=hx
 replace s3:LR rRate V c3 x3 w3:=s3
 replace hx:_=[]:=hx
 subst hx
 have et:rLedger.tot (x0,x1,c2,x3,xu)=(x0.length+totE rAcct x0+(x1.length+totE rRest x1+(c2.size+(x3.length+totE rRate x3+0)))):=rfl
 rw [et] at ht
 have q0:=cntE_le cnt_Acct x0
 have q1:=cntE_le cnt_Rest x1
 have q3:=cntE_le cnt_Rate x3
 have n0:=List.nodup_append.1 nd
 have n1:=List.nodup_append.1 n0.2.1
 have n3:=List.nodup_append.1 n1.2.1
 refine(cL_markLedger V c0 c1 c2 c3 x0 x1 x3 w0 w1 w3 k s0 s1 s3 n0.1 (fun y hy=>hw y (by simp [hy])) n1.1 (fun y hy=>hw y (by simp [hy])) n3.1 (fun y hy=>hw y (by simp [hy])) (fun y hy hm=>n0.2.2 y hy y (by simp [hm]) rfl) (fun y hy hm=>n0.2.2 y hy y (by simp [hm]) rfl) (fun y hy hm=>n1.2.2 y hy y (by simp [hm]) rfl) k0 (by omega)).mono ?_
 rintro V1 _ ⟨hb,rfl,y0,y1,y3,⟨M0,W0,k0k,n0n⟩,⟨M1,W1,k1k,n1n⟩,⟨M3,W3,k3k,n3n⟩⟩
 exact⟨hb,((cntE mAcct x0:Nat):Int)+((cntE mRest x1:Nat):Int)+((cntE mRate x3:Nat):Int),congrArg (Value.int .i64) (by omega),by omega,by omega⟩
theorem mkH_Money:MkH Tryz.prog gL_markMoney gL_heldMoney rMoney:=by
 rintro V ⟨c0,c1,c2,cu⟩ ⟨x0,x1,x2,xu⟩ f k hx nd hw ht k0 k1
 obtain⟨⟨e0,_⟩,hx⟩:=hx
 replace e0:c0=x0:=e0
 subst e0
 obtain⟨e1,hx⟩:=hx
 replace e1:c1=x1:=e1
 subst e1
 obtain⟨w2,z2,rfl,s2,hx⟩:=hx
 replace s2:LR rI V c2 x2 w2:=s2
 replace hx:_=[]:=hx
 subst hx
 have et:rMoney.tot (c0,c1,x2,xu)=(c0.size+(x2.length+totE rI x2+0)):=rfl
 rw [et] at ht
 have q2:=cntE_int x2
 have n2:=List.nodup_append.1 nd
 refine(cL_markMoney V c0 c1 c2 x2 w2 k s2 n2.1 (fun y hy=>hw y (by simp [hy])) k0 (by omega)).mono ?_
 rintro V1 _ ⟨hb,rfl,y2,M2,W2,k2k,n2n⟩
 refine⟨hb,fun y hy=>?_,((cntE mI x2:Nat):Int),congrArg (Value.int .i64) (by omega),by omega,by omega,fun V2 he=>?_⟩
 ·simp only [List.mem_append,List.not_mem_nil,or_false] at hy
  exact W2 y hy
 have key:=cL_heldMoney V2 c0 c1 c2 y2 w2 k (M2.loc fun y hy=>he y (by simp [hy])) k0 (by rw [n2n]; omega) k2k
 rw [n2n] at key
 refine key.mono ?_
 rintro V3 _ ⟨rfl,rfl⟩
 exact⟨rfl,congrArg (Value.int .i64) (by omega)⟩
theorem mkH_Rat:MkH Tryz.prog gL_markRat gL_heldRat rRat:=by
 rintro V ⟨c0,c1,c2,cu⟩ ⟨x0,x1,x2,xu⟩ f k hx nd hw ht k0 k1
 obtain⟨e0,hx⟩:=hx
 replace e0:c0=x0:=e0
 subst e0
 obtain⟨w1,z1,rfl,s1,hx⟩:=hx
 replace s1:LR rI V c1 x1 w1:=s1
 obtain⟨w2,z2,rfl,s2,hx⟩:=hx
 replace s2:LR rI V c2 x2 w2:=s2
 replace hx:_=[]:=hx
 subst hx
 have et:rRat.tot (c0,x1,x2,xu)=(x1.length+totE rI x1+(x2.length+totE rI x2+0)):=rfl
 rw [et] at ht
 have q1:=cntE_int x1
 have q2:=cntE_int x2
 have n1:=List.nodup_append.1 nd
 have n2:=List.nodup_append.1 n1.2.1
 refine(cL_markRat V c0 c1 c2 x1 x2 w1 w2 k s1 s2 n1.1 (fun y hy=>hw y (by simp [hy])) n2.1 (fun y hy=>hw y (by simp [hy])) (fun y hy hm=>n1.2.2 y hy y (by simp [hm]) rfl) k0 (by omega)).mono ?_
 rintro V1 _ ⟨hb,rfl,y1,y2,⟨M1,W1,k1k,n1n⟩,⟨M2,W2,k2k,n2n⟩⟩
 refine⟨hb,fun y hy=>?_,((cntE mI x1:Nat):Int)+((cntE mI x2:Nat):Int),congrArg (Value.int .i64) (by omega),by omega,by omega,fun V2 he=>?_⟩
 ·simp only [List.mem_append,List.not_mem_nil,or_false] at hy
  rcases hy with hy | hy
  ·exact W1 y hy
  exact W2 y hy
 rw [← n1n] at k2k
 have key:=cL_heldRat V2 c0 c1 c2 y1 y2 w1 w2 k (M1.loc fun y hy=>he y (by simp [hy])) (M2.loc fun y hy=>he y (by simp [hy])) k0 (by rw [n1n,n2n]; omega) k1k k2k
 rw [n1n,n2n] at key
 refine key.mono ?_
 rintro V3 _ ⟨rfl,rfl⟩
 exact⟨rfl,congrArg (Value.int .i64) (by omega)⟩
end Go.Proofs.YtagjmmpiglgmhaaGreatDoor
