/-
  The walk of the law: the program's ConvertSum returns what the reference's returns.
-/
import Derived.Test.YtagjmmpiglgmhaaGreatDoorCw
import Derived.Test.YtagjmmpiglgmhaaGreatDoorMkY
namespace Go.Proofs.YtagjmmpiglgmhaaGreatDoor
open Sx
set_option maxRecDepth 100000
theorem law_ConvertSum {V:Know} (hV:HeI V) {c0:Scs [.s,.l]} {x0:DRates} {f0:List Nat} (h0:rRates.R V c0 x0 f0) {c1:SlV} {x1:List DMoney} {f1:List Nat} (h1:LR rMoney V c1 x1 f1) (a2:ByteArray) (a3:Int) :
  CallX Tryz.prog V gL_FnExactConvertSum [Sh1.val (.g [.s,.l]) c0,Sc.val .l c1,.string a2,.int .i64 a3] (fun V' r=>V.le V'∧r=.bool true):=by
 refine CallX.of_fits Tryz.mix (fL_FnExactConvertSum _ _ _ _) fun _=>?_
 simp only [tL_FnExactConvertSum,T.wp]
 refine⟨fun _=>⟨(Know.le.refl _),rfl⟩,fun hs2=>?_⟩
 have sz2:a2.size≤1048576:=by
  have:=of_decide_eq_false hs2
  omega
 refine(cL_szRates _ _ _ _ 1048576 h0 (by omega) (by omega)).mono ?_
 rintro V1 _ ⟨rfl,rfl⟩
 refine⟨nofun,_,rfl,fun _=>⟨Know.le.refl _,rfl⟩,fun hz0=>?_⟩
 have hp0:((rRates.tot x0:Nat):Int)≤1048576:=Decidable.not_not.1 fun k=>(of_decide_eq_false hz0) (szr_lt.2 k)
 rw [szr_ge hp0]
 refine(cL_szMoneyS _ _ _ _ (1048576-((rRates.tot x0:Nat):Int)) h1 (by omega) (by omega)).mono ?_
 rintro V2 _ ⟨rfl,rfl⟩
 refine⟨nofun,_,rfl,fun _=>⟨Know.le.refl _,rfl⟩,fun hz1=>?_⟩
 have hp1:(((x1.length+totE rMoney x1):Nat):Int)≤(1048576-((rRates.tot x0:Nat):Int)):=Decidable.not_not.1 fun k=>(of_decide_eq_false hz1) (szr_lt.2 k)
 have tx0:rRates.tot x0≤1048576:=by omega
 have tx1:(x1.length+totE rMoney x1)≤1048576:=by omega
 refine(cL_toRates _ _ _ _ h0 tx0).mono ?_
 rintro V3 _ ⟨le3,d3,g3,rfl,H3,O3⟩
 refine⟨fun _=>le3,_,rfl,?_⟩
 have l3:=le3
 refine(cL_toMoneyS _ _ _ _ (h1.le l3) tx1).mono ?_
 rintro V4 _ ⟨le4,d4,g4,rfl,H4,O4⟩
 refine⟨fun _=>le4,_,rfl,?_⟩
 have l4:=l3.trans le4
 replace H3:=(rRates.le H3 le4)
 refine(uS_ConvertSum trivial _ _ _ H3 _ _ _ H4 a2 a3).mono ?_
 rintro V5 _ ⟨le5,wc0,wx0,wf0,wc1,wx1,wf1,wz2,rfl,Rw0,Rw1,Ow,hw⟩
 refine⟨fun _=>le5,(wc0,wc1,wz2,()),rfl,?_⟩
 have l5:=l4.trans le5
 refine(cL_toRates _ _ _ _ (rRates.le h0 l5) tx0).mono ?_
 rintro V6 _ ⟨le6,d6,g6,rfl,H6,O6⟩
 refine⟨fun _=>le6,_,rfl,?_⟩
 have nX0:∀ b∈g6,V2 b=none:=fun b hb=>none_of_le l5 (O6.2.1 b hb)
 have mX0:∀ b∈g6,V5 b=none:=fun b hb=>none_of_le (Know.le.refl _) (O6.2.1 b hb)
 have l6:=l5.trans le6
 have lw6:=le6
 have X0:=H6
 have wX0:=O6.2.2
 have ndX0:=O6.1
 obtain⟨fX0,eX0⟩:∃ fX,fX=g6:=⟨_,rfl⟩
 rw [← eX0] at X0 wX0 ndX0 nX0 mX0
 refine(cL_toMoneyS _ _ _ _ (h1.le l6) tx1).mono ?_
 rintro V7 _ ⟨le7,d7,g7,rfl,H7,O7⟩
 refine⟨fun _=>le7,_,rfl,?_⟩
 have nX1:∀ b∈g7,V2 b=none:=fun b hb=>none_of_le l6 (O7.2.1 b hb)
 have mX1:∀ b∈g7,V5 b=none:=fun b hb=>none_of_le lw6 (O7.2.1 b hb)
 have d1x0:∀ b∈g7,b ∉ fX0:=fun b h1 h2=>by
  obtain⟨z,hz⟩:=rRates.kn X0 b h2
  rw [O7.2.1 b h1] at hz; cases hz
 have d0x1:∀ b∈fX0,b ∉ g7:=fun b h1 h2=>d1x0 b h2 h1
 have l7:=l6.trans le7
 have lw7:=lw6.trans le7
 replace X0:=(rRates.le X0 le7)
 replace wX0:=wX0.le le7
 have X1:=H7
 have wX1:=O7.2.2
 have ndX1:=O7.1
 obtain⟨fX1,eX1⟩:∃ fX,fX=g7:=⟨_,rfl⟩
 rw [← eX1] at X1 wX1 ndX1 nX1 mX1 d1x0 d0x1
 refine(uI_ConvertSum (HeI.le hV l7) _ _ _ X0 _ _ _ X1 a2 a3).mono ?_
 rintro V8 _ ⟨le8,gc0,gx0,gf0,gc1,gx1,gf1,gz2,rfl,Rg0,Rg1,Og,hg⟩
 refine⟨fun _=>le8,(gc0,gc1,gz2,()),rfl,?_⟩
 have nG0:∀ b∈gf0,V2 b=none:=fun b hb=>none_of_le l7 (Og.2.1 b (by simp [hb]))
 have mG0:∀ b∈gf0,V5 b=none:=fun b hb=>none_of_le lw7 (Og.2.1 b (by simp [hb]))
 have dG0x0:∀ b∈gf0,b ∉ fX0:=fun b hb hx=>by
  obtain⟨z,hz⟩:=rRates.kn X0 b hx
  rw [Og.2.1 b (by simp [hb])] at hz; cases hz
 have dX0g0:∀ b∈fX0,b ∉ gf0:=fun b h1 h2=>dG0x0 b h2 h1
 have dG0x1:∀ b∈gf0,b ∉ fX1:=fun b hb hx=>by
  obtain⟨z,hz⟩:=X1.kn b hx
  rw [Og.2.1 b (by simp [hb])] at hz; cases hz
 have dX1g0:∀ b∈fX1,b ∉ gf0:=fun b h1 h2=>dG0x1 b h2 h1
 have nG1:∀ b∈gf1,V2 b=none:=fun b hb=>none_of_le l7 (Og.2.1 b (by simp [hb]))
 have mG1:∀ b∈gf1,V5 b=none:=fun b hb=>none_of_le lw7 (Og.2.1 b (by simp [hb]))
 have dG1x0:∀ b∈gf1,b ∉ fX0:=fun b hb hx=>by
  obtain⟨z,hz⟩:=rRates.kn X0 b hx
  rw [Og.2.1 b (by simp [hb])] at hz; cases hz
 have dX0g1:∀ b∈fX0,b ∉ gf1:=fun b h1 h2=>dG1x0 b h2 h1
 have dG1x1:∀ b∈gf1,b ∉ fX1:=fun b hb hx=>by
  obtain⟨z,hz⟩:=X1.kn b hx
  rw [Og.2.1 b (by simp [hb])] at hz; cases hz
 have dX1g1:∀ b∈fX1,b ∉ gf1:=fun b h1 h2=>dG1x1 b h2 h1
 have l8:=l7.trans le8
 have lw8:=lw7.trans le8
 replace X0:=(rRates.le X0 le8)
 replace wX0:=wX0.le le8
 replace X1:=(X1.le le8)
 replace wX1:=wX1.le le8
 obtain⟨eg0,eg1,eg2⟩:=convP_inj hw hg
 subst eg0
 subst eg1
 subst eg2
 have G0:=Rg0
 have wG0:Wr _ gf0:=fun b hb=>Og.2.2 b (by simp [hb])
 have G1:=Rg1
 have wG1:Wr _ gf1:=fun b hb=>Og.2.2 b (by simp [hb])
 have nn0:=List.nodup_append.1 Og.1
 have ndG0:=nn0.1
 have dG0g1:∀ b∈gf0,b ∉ gf1:=fun b h1 h2=>nn0.2.2 b h1 b (by simp [h2]) rfl
 have dG1g0:∀ b∈gf1,b ∉ gf0:=fun b h1 h2=>dG0g1 b h2 h1
 have ndG1:=nn0.2.1
 have tg0:rMoney.tot wx0≤1048576:=convP_known hw
 have tg1:rRat.tot wx1≤1048576:=convP_tot1 hw
 refine(cL_eqMoney _ _ _ _ _ _ _ G0 (rMoney.le Rw0 lw8)).mono ?_
 rintro V9 _ ⟨rfl,b9,rfl,hb9⟩
 refine⟨fun _=>Know.le.refl _,b9,rfl,(fun h=>by simp [hb9.2 rfl] at h),fun _=>?_⟩
 refine(cL_eqRat _ _ _ _ _ _ _ G1 (rRat.le Rw1 lw8)).mono ?_
 rintro V10 _ ⟨rfl,b10,rfl,hb10⟩
 refine⟨fun _=>Know.le.refl _,b10,rfl,(fun h=>by simp [hb10.2 rfl] at h),fun _=>?_⟩
 refine⟨(fun h=>by simp at h),fun _=>?_⟩
 refine(cL_toRates _ _ _ _ (rRates.le h0 l8) tx0).mono ?_
 rintro V11 _ ⟨le11,d11,g11,rfl,H11,O11⟩
 refine⟨fun _=>le11,_,rfl,?_⟩
 have l11:=l8.trans le11
 have lw11:=lw8.trans le11
 replace X0:=(rRates.le X0 le11)
 replace wX0:=wX0.le le11
 replace X1:=(X1.le le11)
 replace wX1:=wX1.le le11
 replace G0:=(rMoney.le G0 le11)
 replace wG0:=wG0.le le11
 replace G1:=(rRat.le G1 le11)
 replace wG1:=wG1.le le11
 refine(cL_eqRates _ _ _ _ _ _ _ X0 H11).mono ?_
 rintro V12 _ ⟨rfl,b12,rfl,hb12⟩
 refine⟨fun _=>Know.le.refl _,b12,rfl,(fun h=>by simp [hb12.2 rfl] at h),fun _=>?_⟩
 refine(cL_toMoneyS _ _ _ _ (h1.le l11) tx1).mono ?_
 rintro V13 _ ⟨le13,d13,g13,rfl,H13,O13⟩
 refine⟨fun _=>le13,_,rfl,?_⟩
 have l13:=l11.trans le13
 have lw13:=lw11.trans le13
 replace X0:=(rRates.le X0 le13)
 replace wX0:=wX0.le le13
 replace X1:=(X1.le le13)
 replace wX1:=wX1.le le13
 replace G0:=(rMoney.le G0 le13)
 replace wG0:=wG0.le le13
 replace G1:=(rRat.le G1 le13)
 replace wG1:=wG1.le le13
 refine(cL_eqMoneyS _ _ _ _ _ _ _ X1 H13).mono ?_
 rintro V14 _ ⟨rfl,b14,rfl,hb14⟩
 refine⟨fun _=>Know.le.refl _,b14,rfl,(fun h=>by simp [hb14.2 rfl] at h),fun _=>?_⟩
 refine(mkC_Rates _ _ _ _ 1 X0 ndX0 wX0 tx0 (by omega) (by omega)).mono ?_
 rintro V15 _ ⟨B15,k15,rfl,p15,q15⟩
 refine⟨nofun,_,rfl,?_⟩
 have l15:=le_but l13 nX0 B15
 have lw15:=le_but lw13 mX0 B15
 replace X1:=(X1.but d1x0 B15)
 replace wX1:=wX1.but d1x0 B15
 replace G0:=(rMoney.but G0 dG0x0 B15)
 replace wG0:=wG0.but dG0x0 B15
 replace G1:=(rRat.but G1 dG1x0 B15)
 replace wG1:=wG1.but dG1x0 B15
 refine(mkCS_Money _ _ _ _ (1+k15) X1 ndX1 wX1 tx1 (by omega) (by omega)).mono ?_
 rintro V16 _ ⟨B16,k16,rfl,p16,q16⟩
 refine⟨nofun,_,rfl,?_⟩
 have l16:=le_but l15 nX1 B16
 have lw16:=le_but lw15 mX1 B16
 replace G0:=(rMoney.but G0 dG0x1 B16)
 replace wG0:=wG0.but dG0x1 B16
 replace G1:=(rRat.but G1 dG1x1 B16)
 replace wG1:=wG1.but dG1x1 B16
 have hk:¬ ((1+k15)+k16)<0:=by omega
 refine⟨fun h=>absurd (of_decide_eq_true h) hk,fun _=>?_⟩
 refine(cL_eqMoney _ _ _ _ _ _ _ G0 (rMoney.le Rw0 lw16)).mono ?_
 rintro V17 _ ⟨rfl,b17,rfl,hb17⟩
 refine⟨fun _=>Know.le.refl _,b17,rfl,(fun h=>by simp [hb17.2 rfl] at h),fun _=>?_⟩
 refine(cL_eqRat _ _ _ _ _ _ _ G1 (rRat.le Rw1 lw16)).mono ?_
 rintro V18 _ ⟨rfl,b18,rfl,hb18⟩
 refine⟨fun _=>Know.le.refl _,b18,rfl,(fun h=>by simp [hb18.2 rfl] at h),fun _=>?_⟩
 refine⟨(fun h=>by simp at h),fun _=>?_⟩
 refine(mkH_Money _ _ _ _ 1 G0 ndG0 wG0 tg0 (by omega) (by omega)).mono ?_
 rintro V19 _ ⟨B19,WG0,m0,rfl,p19,q19,held0⟩
 refine⟨nofun,_,rfl,?_⟩
 have l19:=le_but l16 nG0 B19
 have lw19:=le_but lw16 mG0 B19
 replace G1:=(rRat.but G1 dG1g0 B19)
 replace wG1:=wG1.but dG1g0 B19
 have ke0:∀ b∈gf0,V19 b=V19 b:=fun _ _=>rfl
 obtain⟨kV0,ek0⟩:∃ U,U=V19:=⟨_,rfl⟩
 rw [← ek0] at WG0 held0
 replace ke0:∀ b∈gf0,V19 b=kV0 b:=fun b hb=>by rw [ek0]
 refine(mkH_Rat _ _ _ _ (1+m0) G1 ndG1 wG1 tg1 (by omega) (by omega)).mono ?_
 rintro V20 _ ⟨B20,WG1,m1,rfl,p20,q20,held1⟩
 refine⟨nofun,_,rfl,?_⟩
 have l20:=le_but l19 nG1 B20
 have lw20:=le_but lw19 mG1 B20
 replace ke0:=ke_but WG0 ke0 dG0g1 B20
 have ke1:∀ b∈gf1,V20 b=V20 b:=fun _ _=>rfl
 obtain⟨kV1,ek1⟩:∃ U,U=V20:=⟨_,rfl⟩
 rw [← ek1] at WG1 held1
 replace ke1:∀ b∈gf1,V20 b=kV1 b:=fun b hb=>by rw [ek1]
 refine(held0 _ ke0).mono ?_
 rintro V21 _ ⟨rfl,rfl⟩
 have hn21:¬ (1+m0)<0:=by omega
 refine⟨nofun,_,rfl,fun h=>absurd (of_decide_eq_true h) hn21,fun _=>?_⟩
 refine(held1 _ ke1).mono ?_
 rintro V22 _ ⟨rfl,rfl⟩
 have hn22:¬ ((1+m0)+m1)<0:=by omega
 refine⟨nofun,_,rfl,fun h=>absurd (of_decide_eq_true h) hn22,fun _=>?_⟩
 refine⟨(fun h=>by simp at h),fun _=>?_⟩
 refine(cL_toRates _ _ _ _ (rRates.le h0 l20) tx0).mono ?_
 rintro V23 _ ⟨le23,d23,g23,rfl,H23,O23⟩
 refine⟨fun _=>le23,_,rfl,?_⟩
 have l23:=l20.trans le23
 have lw23:=lw20.trans le23
 replace ke0:=ke_le WG0 ke0 le23
 replace ke1:=ke_le WG1 ke1 le23
 refine(cL_toMoneyS _ _ _ _ (h1.le l23) tx1).mono ?_
 rintro V24 _ ⟨le24,d24,g24,rfl,H24,O24⟩
 refine⟨fun _=>le24,_,rfl,?_⟩
 have l24:=l23.trans le24
 have lw24:=lw23.trans le24
 replace ke0:=ke_le WG0 ke0 le24
 replace ke1:=ke_le WG1 ke1 le24
 replace H23:=(rRates.le H23 le24)
 refine(uI_ConvertSum (HeI.le hV l24) _ _ _ H23 _ _ _ H24 a2 a3).mono ?_
 rintro V25 _ ⟨le25,qc0,qx0,qf0,qc1,qx1,qf1,qz2,rfl,Rq0,Rq1,Oq,hq⟩
 refine⟨fun _=>le25,(qc0,qc1,qz2,()),rfl,?_⟩
 have l25:=l24.trans le25
 have lw25:=lw24.trans le25
 replace ke0:=ke_le WG0 ke0 le25
 replace ke1:=ke_le WG1 ke1 le25
 obtain⟨eq0,eq1,eq2⟩:=convP_inj hw hq
 subst eq0
 subst eq1
 subst eq2
 refine(cL_eqMoney _ _ _ _ _ _ _ Rq0 (rMoney.le Rw0 lw25)).mono ?_
 rintro V26 _ ⟨rfl,b26,rfl,hb26⟩
 refine⟨fun _=>Know.le.refl _,b26,rfl,(fun h=>by simp [hb26.2 rfl] at h),fun _=>?_⟩
 refine(cL_eqRat _ _ _ _ _ _ _ Rq1 (rRat.le Rw1 lw25)).mono ?_
 rintro V27 _ ⟨rfl,b27,rfl,hb27⟩
 refine⟨fun _=>Know.le.refl _,b27,rfl,(fun h=>by simp [hb27.2 rfl] at h),fun _=>?_⟩
 refine⟨(fun h=>by simp at h),fun _=>?_⟩
 refine(held0 _ ke0).mono ?_
 rintro V28 _ ⟨rfl,rfl⟩
 have hn28:¬ (1+m0)<0:=by omega
 refine⟨nofun,_,rfl,fun h=>absurd (of_decide_eq_true h) hn28,fun _=>?_⟩
 refine(held1 _ ke1).mono ?_
 rintro V29 _ ⟨rfl,rfl⟩
 have hn29:¬ ((1+m0)+m1)<0:=by omega
 refine⟨nofun,_,rfl,fun h=>absurd (of_decide_eq_true h) hn29,fun _=>?_⟩
 refine⟨(fun h=>by simp at h),fun _=>?_⟩
 exact⟨l25,rfl⟩
end Go.Proofs.YtagjmmpiglgmhaaGreatDoor
