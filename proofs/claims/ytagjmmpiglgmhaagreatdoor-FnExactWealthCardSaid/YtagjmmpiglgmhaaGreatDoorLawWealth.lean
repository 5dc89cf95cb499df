/-
  The walk of the law: the program's Wealth returns what the reference's returns.
-/
import Derived.Test.YtagjmmpiglgmhaaGreatDoorCw
import Derived.Test.YtagjmmpiglgmhaaGreatDoorMkY
namespace Go.Proofs.YtagjmmpiglgmhaaGreatDoor
open Sx
set_option maxRecDepth 100000
theorem law_Wealth {V:Know} (hV:HeI V) {c0:Scs [.l,.l,.s,.l]} {x0:DLedger} {f0:List Nat} (h0:rLedger.R V c0 x0 f0) (a1:ByteArray) (a2:Int) :
  CallX Tryz.prog V gL_FnExactWealth [Sh1.val (.g [.l,.l,.s,.l]) c0,.string a1,.int .i64 a2] (fun V' r=>V.le V'∧r=.bool true):=by
 refine CallX.of_fits Tryz.mix (fL_FnExactWealth _ _ _) fun _=>?_
 simp only [tL_FnExactWealth,T.wp]
 refine⟨fun _=>⟨(Know.le.refl _),rfl⟩,fun hs1=>?_⟩
 have sz1:a1.size≤1048576:=by
  have:=of_decide_eq_false hs1
  omega
 refine(cL_szLedger _ _ _ _ 1048576 h0 (by omega) (by omega)).mono ?_
 rintro V1 _ ⟨rfl,rfl⟩
 refine⟨nofun,_,rfl,fun _=>⟨Know.le.refl _,rfl⟩,fun hz0=>?_⟩
 have hp0:((rLedger.tot x0:Nat):Int)≤1048576:=Decidable.not_not.1 fun k=>(of_decide_eq_false hz0) (szr_lt.2 k)
 have tx0:rLedger.tot x0≤1048576:=by omega
 refine(cL_toLedger _ _ _ _ h0 tx0).mono ?_
 rintro V2 _ ⟨le2,d2,g2,rfl,H2,O2⟩
 refine⟨fun _=>le2,_,rfl,?_⟩
 have l2:=le2
 refine(cS_Wealth trivial _ _ _ H2 a1 a2).mono ?_
 rintro V3 _ ⟨le3,wc0,wx0,wf0,wc1,wx1,wf1,wz2,rfl,Rw0,Rw1,Ow,hw⟩
 refine⟨fun _=>le3,(wc0,wc1,wz2,()),rfl,?_⟩
 have l3:=l2.trans le3
 refine(cL_toLedger _ _ _ _ (rLedger.le h0 l3) tx0).mono ?_
 rintro V4 _ ⟨le4,d4,g4,rfl,H4,O4⟩
 refine⟨fun _=>le4,_,rfl,?_⟩
 have nX0:∀ b∈g4,V1 b=none:=fun b hb=>none_of_le l3 (O4.2.1 b hb)
 have mX0:∀ b∈g4,V3 b=none:=fun b hb=>none_of_le (Know.le.refl _) (O4.2.1 b hb)
 have l4:=l3.trans le4
 have lw4:=le4
 have X0:=H4
 have wX0:=O4.2.2
 have ndX0:=O4.1
 obtain⟨fX0,eX0⟩:∃ fX,fX=g4:=⟨_,rfl⟩
 rw [← eX0] at X0 wX0 ndX0 nX0 mX0
 refine(cI_Wealth (HeI.le hV l4) _ _ _ X0 a1 a2).mono ?_
 rintro V5 _ ⟨le5,gc0,gx0,gf0,gc1,gx1,gf1,gz2,rfl,Rg0,Rg1,Og,hg⟩
 refine⟨fun _=>le5,(gc0,gc1,gz2,()),rfl,?_⟩
 have nG0:∀ b∈gf0,V1 b=none:=fun b hb=>none_of_le l4 (Og.2.1 b (by simp [hb]))
 have mG0:∀ b∈gf0,V3 b=none:=fun b hb=>none_of_le lw4 (Og.2.1 b (by simp [hb]))
 have dG0x0:∀ b∈gf0,b ∉ fX0:=fun b hb hx=>by
  obtain⟨z,hz⟩:=rLedger.kn X0 b hx
  rw [Og.2.1 b (by simp [hb])] at hz; cases hz
 have dX0g0:∀ b∈fX0,b ∉ gf0:=fun b h1 h2=>dG0x0 b h2 h1
 have nG1:∀ b∈gf1,V1 b=none:=fun b hb=>none_of_le l4 (Og.2.1 b (by simp [hb]))
 have mG1:∀ b∈gf1,V3 b=none:=fun b hb=>none_of_le lw4 (Og.2.1 b (by simp [hb]))
 have dG1x0:∀ b∈gf1,b ∉ fX0:=fun b hb hx=>by
  obtain⟨z,hz⟩:=rLedger.kn X0 b hx
  rw [Og.2.1 b (by simp [hb])] at hz; cases hz
 have dX0g1:∀ b∈fX0,b ∉ gf1:=fun b h1 h2=>dG1x0 b h2 h1
 have l5:=l4.trans le5
 have lw5:=lw4.trans le5
 replace X0:=(rLedger.le X0 le5)
 replace wX0:=wX0.le le5
 obtain⟨eg0,eg1,eg2⟩:=wlP_inj hw hg
 subst eg0
 subst eg1
 subst eg2
 have G0:=Rg0
 have wG0:Wr _ gf0:=fun b hb=>Og.2.2 b (by simp [hb])
 have G1:=Rg1
 have wG1:Wr _ gf1:=fun b hb=>Og.2.2 b (by simp [hb])
 have nn0:=List.nodup_append.1 Og.1
 have ndG0:=nn0.1
 have dG0g1:∀ b∈gf0,b ∉ gf1:=fun b h1 h2=>nn0.2.2 b h1 b (by simp [h2]) rfl
 have dG1g0:∀ b∈gf1,b ∉ gf0:=fun b h1 h2=>dG0g1 b h2 h1
 have ndG1:=nn0.2.1
 have tg0:rMoney.tot wx0≤1048576:=wlP_tot0 hw
 have tg1:rRat.tot wx1≤1048576:=wlP_tot1 hw
 refine(cL_eqMoney _ _ _ _ _ _ _ G0 (rMoney.le Rw0 lw5)).mono ?_
 rintro V6 _ ⟨rfl,b6,rfl,hb6⟩
 refine⟨fun _=>Know.le.refl _,b6,rfl,(fun h=>by simp [hb6.2 rfl] at h),fun _=>?_⟩
 refine(cL_eqRat _ _ _ _ _ _ _ G1 (rRat.le Rw1 lw5)).mono ?_
 rintro V7 _ ⟨rfl,b7,rfl,hb7⟩
 refine⟨fun _=>Know.le.refl _,b7,rfl,(fun h=>by simp [hb7.2 rfl] at h),fun _=>?_⟩
 refine⟨(fun h=>by simp at h),fun _=>?_⟩
 refine(cL_toLedger _ _ _ _ (rLedger.le h0 l5) tx0).mono ?_
 rintro V8 _ ⟨le8,d8,g8,rfl,H8,O8⟩
 refine⟨fun _=>le8,_,rfl,?_⟩
 have l8:=l5.trans le8
 have lw8:=lw5.trans le8
 replace X0:=(rLedger.le X0 le8)
 replace wX0:=wX0.le le8
 replace G0:=(rMoney.le G0 le8)
 replace wG0:=wG0.le le8
 replace G1:=(rRat.le G1 le8)
 replace wG1:=wG1.le le8
 refine(cL_eqLedger _ _ _ _ _ _ _ X0 H8).mono ?_
 rintro V9 _ ⟨rfl,b9,rfl,hb9⟩
 refine⟨fun _=>Know.le.refl _,b9,rfl,(fun h=>by simp [hb9.2 rfl] at h),fun _=>?_⟩
 refine(mkC_Ledger _ _ _ _ 1 X0 ndX0 wX0 tx0 (by omega) (by omega)).mono ?_
 rintro V10 _ ⟨B10,k10,rfl,p10,q10⟩
 refine⟨nofun,_,rfl,?_⟩
 have l10:=le_but l8 nX0 B10
 have lw10:=le_but lw8 mX0 B10
 replace G0:=(rMoney.but G0 dG0x0 B10)
 replace wG0:=wG0.but dG0x0 B10
 replace G1:=(rRat.but G1 dG1x0 B10)
 replace wG1:=wG1.but dG1x0 B10
 have hk:¬ (1+k10)<0:=by omega
 refine⟨fun h=>absurd (of_decide_eq_true h) hk,fun _=>?_⟩
 refine(cL_eqMoney _ _ _ _ _ _ _ G0 (rMoney.le Rw0 lw10)).mono ?_
 rintro V11 _ ⟨rfl,b11,rfl,hb11⟩
 refine⟨fun _=>Know.le.refl _,b11,rfl,(fun h=>by simp [hb11.2 rfl] at h),fun _=>?_⟩
 refine(cL_eqRat _ _ _ _ _ _ _ G1 (rRat.le Rw1 lw10)).mono ?_
 rintro V12 _ ⟨rfl,b12,rfl,hb12⟩
 refine⟨fun _=>Know.le.refl _,b12,rfl,(fun h=>by simp [hb12.2 rfl] at h),fun _=>?_⟩
 refine⟨(fun h=>by simp at h),fun _=>?_⟩
 refine(mkH_Money _ _ _ _ 1 G0 ndG0 wG0 tg0 (by omega) (by omega)).mono ?_
 rintro V13 _ ⟨B13,WG0,m0,rfl,p13,q13,held0⟩
 refine⟨nofun,_,rfl,?_⟩
 have l13:=le_but l10 nG0 B13
 have lw13:=le_but lw10 mG0 B13
 replace G1:=(rRat.but G1 dG1g0 B13)
 replace wG1:=wG1.but dG1g0 B13
 have ke0:∀ b∈gf0,V13 b=V13 b:=fun _ _=>rfl
 obtain⟨kV0,ek0⟩:∃ U,U=V13:=⟨_,rfl⟩
 rw [← ek0] at WG0 held0
 replace ke0:∀ b∈gf0,V13 b=kV0 b:=fun b hb=>by rw [ek0]
 refine(mkH_Rat _ _ _ _ (1+m0) G1 ndG1 wG1 tg1 (by omega) (by omega)).mono ?_
 rintro V14 _ ⟨B14,WG1,m1,rfl,p14,q14,held1⟩
 refine⟨nofun,_,rfl,?_⟩
 have l14:=le_but l13 nG1 B14
 have lw14:=le_but lw13 mG1 B14
 replace ke0:=ke_but WG0 ke0 dG0g1 B14
 have ke1:∀ b∈gf1,V14 b=V14 b:=fun _ _=>rfl
 obtain⟨kV1,ek1⟩:∃ U,U=V14:=⟨_,rfl⟩
 rw [← ek1] at WG1 held1
 replace ke1:∀ b∈gf1,V14 b=kV1 b:=fun b hb=>by rw [ek1]
 refine(held0 _ ke0).mono ?_
 rintro V15 _ ⟨rfl,rfl⟩
 have hn15:¬ (1+m0)<0:=by omega
 refine⟨nofun,_,rfl,fun h=>absurd (of_decide_eq_true h) hn15,fun _=>?_⟩
 refine(held1 _ ke1).mono ?_
 rintro V16 _ ⟨rfl,rfl⟩
 have hn16:¬ ((1+m0)+m1)<0:=by omega
 refine⟨nofun,_,rfl,fun h=>absurd (of_decide_eq_true h) hn16,fun _=>?_⟩
 refine⟨(fun h=>by simp at h),fun _=>?_⟩
 refine(cL_toLedger _ _ _ _ (rLedger.le h0 l14) tx0).mono ?_
 rintro V17 _ ⟨le17,d17,g17,rfl,H17,O17⟩
 refine⟨fun _=>le17,_,rfl,?_⟩
 have l17:=l14.trans le17
 have lw17:=lw14.trans le17
 replace ke0:=ke_le WG0 ke0 le17
 replace ke1:=ke_le WG1 ke1 le17
 refine(cI_Wealth (HeI.le hV l17) _ _ _ H17 a1 a2).mono ?_
 rintro V18 _ ⟨le18,qc0,qx0,qf0,qc1,qx1,qf1,qz2,rfl,Rq0,Rq1,Oq,hq⟩
 refine⟨fun _=>le18,(qc0,qc1,qz2,()),rfl,?_⟩
 have l18:=l17.trans le18
 have lw18:=lw17.trans le18
 replace ke0:=ke_le WG0 ke0 le18
 replace ke1:=ke_le WG1 ke1 le18
 obtain⟨eq0,eq1,eq2⟩:=wlP_inj hw hq
 subst eq0
 subst eq1
 subst eq2
 refine(cL_eqMoney _ _ _ _ _ _ _ Rq0 (rMoney.le Rw0 lw18)).mono ?_
 rintro V19 _ ⟨rfl,b19,rfl,hb19⟩
 refine⟨fun _=>Know.le.refl _,b19,rfl,(fun h=>by simp [hb19.2 rfl] at h),fun _=>?_⟩
 refine(cL_eqRat _ _ _ _ _ _ _ Rq1 (rRat.le Rw1 lw18)).mono ?_
 rintro V20 _ ⟨rfl,b20,rfl,hb20⟩
 refine⟨fun _=>Know.le.refl _,b20,rfl,(fun h=>by simp [hb20.2 rfl] at h),fun _=>?_⟩
 refine⟨(fun h=>by simp at h),fun _=>?_⟩
 refine(held0 _ ke0).mono ?_
 rintro V21 _ ⟨rfl,rfl⟩
 have hn21:¬ (1+m0)<0:=by omega
 refine⟨nofun,_,rfl,fun h=>absurd (of_decide_eq_true h) hn21,fun _=>?_⟩
 refine(held1 _ ke1).mono ?_
 rintro V22 _ ⟨rfl,rfl⟩
 have hn22:¬ ((1+m0)+m1)<0:=by omega
 refine⟨nofun,_,rfl,fun h=>absurd (of_decide_eq_true h) hn22,fun _=>?_⟩
 refine⟨(fun h=>by simp at h),fun _=>?_⟩
 exact⟨l18,rfl⟩
end Go.Proofs.YtagjmmpiglgmhaaGreatDoor
