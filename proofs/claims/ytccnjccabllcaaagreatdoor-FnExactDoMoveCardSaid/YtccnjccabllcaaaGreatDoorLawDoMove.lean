/-
  The walk of the law: the program's DoMove returns what the reference's returns.
-/
import Derived.Test.YtccnjccabllcaaaGreatDoorDoL
import Derived.Test.YtccnjccabllcaaaGreatDoorMkZ
namespace Go.Proofs.YtccnjccabllcaaaGreatDoor
open Sx
set_option maxRecDepth 100000
theorem law_DoMove {V:Know} (hV:HcI V) {c0:Scs [.l,.l,.s,.l]} {x0:DLedger} {f0:List Nat} (h0:rLedger.R V c0 x0 f0) (a1:ByteArray) (a2:ByteArray) {c3:Scs [.s,.b,.l]} {x3:DMoney} {f3:List Nat} (h3:rMoney.R V c3 x3 f3) :
  CallX Tryz.prog V gL_FnExactDoMove [Sh1.val (.g [.l,.l,.s,.l]) c0,.string a1,.string a2,Sh1.val (.g [.s,.b,.l]) c3] (fun V' r=>V.le V'∧r=.bool true):=by
 refine CallX.of_fits Tryz.mix (fL_FnExactDoMove _ _ _ _) fun _=>?_
 simp only [tL_FnExactDoMove,T.wp]
 refine⟨fun _=>⟨(Know.le.refl _),rfl⟩,fun hs1=>?_⟩
 have sz1:a1.size≤1048576:=by
  have:=of_decide_eq_false hs1
  omega
 refine⟨fun _=>⟨(Know.le.refl _),rfl⟩,fun hs2=>?_⟩
 have sz2:a2.size≤1048576:=by
  have:=of_decide_eq_false hs2
  omega
 refine(cL_szLedger _ _ _ _ 1048576 h0 (by omega) (by omega)).mono ?_
 rintro V1 _ ⟨rfl,rfl⟩
 refine⟨nofun,_,rfl,fun _=>⟨Know.le.refl _,rfl⟩,fun hz0=>?_⟩
 have hp0:((rLedger.tot x0:Nat):Int)≤1048576:=Decidable.not_not.1 fun k=>(of_decide_eq_false hz0) (szr_lt.2 k)
 rw [szr_ge hp0]
 refine(cL_szMoney _ _ _ _ (1048576-((rLedger.tot x0:Nat):Int)) h3 (by omega) (by omega)).mono ?_
 rintro V2 _ ⟨rfl,rfl⟩
 refine⟨nofun,_,rfl,fun _=>⟨Know.le.refl _,rfl⟩,fun hz3=>?_⟩
 have hp3:((rMoney.tot x3:Nat):Int)≤(1048576-((rLedger.tot x0:Nat):Int)):=Decidable.not_not.1 fun k=>(of_decide_eq_false hz3) (szr_lt.2 k)
 have tx0:rLedger.tot x0≤1048576:=by omega
 have tx3:rMoney.tot x3≤1048576:=by omega
 refine(cL_toLedger _ _ _ _ h0 tx0).mono ?_
 rintro V3 _ ⟨le3,d3,g3,rfl,H3,O3⟩
 refine⟨fun _=>le3,_,rfl,?_⟩
 have l3:=le3
 refine(cL_toMoney _ _ _ _ (rMoney.le h3 l3) tx3).mono ?_
 rintro V4 _ ⟨le4,d4,g4,rfl,H4,O4⟩
 refine⟨fun _=>le4,_,rfl,?_⟩
 have l4:=l3.trans le4
 replace H3:=(rLedger.le H3 le4)
 refine(uS_DoMove trivial _ _ _ H3 tx0 a1 sz1 a2 sz2 _ _ _ H4 tx3).mono ?_
 rintro V5 _ ⟨le5,wc0,wx0,wf0,wz1,rfl,Rw0,Ow,hw⟩
 refine⟨fun _=>le5,(wc0,wz1,()),rfl,?_⟩
 have l5:=l4.trans le5
 refine(cL_toLedger _ _ _ _ (rLedger.le h0 l5) tx0).mono ?_
 rintro V6 _ ⟨le6,d6,g6,rfl,H6,O6⟩
 refine⟨fun _=>le6,_,rfl,?_⟩
 have nX0:∀ b∈g6,V2 b=none:=fun b hb=>none_of_le l5 (O6.2.1 b hb)
 have mX0:∀ b∈g6,V5 b=none:=fun b hb=>none_of_le (Know.le.refl _) (O6.2.1 b hb)
 have l6:=l5.trans le6
 have lw6:=le6
 have X0:=H6
 have wX0:=O6.2.2
 have ndX0:=O6.1
 obtain⟨fX0,eX0⟩:∃ fX,fX=g6:=⟨_,rfl⟩
 rw [← eX0] at X0 wX0 ndX0 nX0 mX0
 refine(cL_toMoney _ _ _ _ (rMoney.le h3 l6) tx3).mono ?_
 rintro V7 _ ⟨le7,d7,g7,rfl,H7,O7⟩
 refine⟨fun _=>le7,_,rfl,?_⟩
 have nX3:∀ b∈g7,V2 b=none:=fun b hb=>none_of_le l6 (O7.2.1 b hb)
 have mX3:∀ b∈g7,V5 b=none:=fun b hb=>none_of_le lw6 (O7.2.1 b hb)
 have d3x0:∀ b∈g7,b ∉ fX0:=fun b h1 h2=>by
  obtain⟨z,hz⟩:=rLedger.kn X0 b h2
  rw [O7.2.1 b h1] at hz; cases hz
 have d0x3:∀ b∈fX0,b ∉ g7:=fun b h1 h2=>d3x0 b h2 h1
 have l7:=l6.trans le7
 have lw7:=lw6.trans le7
 replace X0:=(rLedger.le X0 le7)
 replace wX0:=wX0.le le7
 have X3:=H7
 have wX3:=O7.2.2
 have ndX3:=O7.1
 obtain⟨fX3,eX3⟩:∃ fX,fX=g7:=⟨_,rfl⟩
 rw [← eX3] at X3 wX3 ndX3 nX3 mX3 d3x0 d0x3
 refine(uI_DoMove (HcI.le hV l7) _ _ _ X0 tx0 a1 sz1 a2 sz2 _ _ _ X3 tx3).mono ?_
 rintro V8 _ ⟨le8,gc0,gx0,gf0,gz1,rfl,Rg0,Og,hg⟩
 refine⟨fun _=>le8,(gc0,gz1,()),rfl,?_⟩
 have nG0:∀ b∈gf0,V2 b=none:=fun b hb=>none_of_le l7 (Og.2.1 b hb)
 have mG0:∀ b∈gf0,V5 b=none:=fun b hb=>none_of_le lw7 (Og.2.1 b hb)
 have dG0x0:∀ b∈gf0,b ∉ fX0:=fun b hb hx=>by
  obtain⟨z,hz⟩:=rLedger.kn X0 b hx
  rw [Og.2.1 b hb] at hz; cases hz
 have dX0g0:∀ b∈fX0,b ∉ gf0:=fun b h1 h2=>dG0x0 b h2 h1
 have dG0x3:∀ b∈gf0,b ∉ fX3:=fun b hb hx=>by
  obtain⟨z,hz⟩:=rMoney.kn X3 b hx
  rw [Og.2.1 b hb] at hz; cases hz
 have dX3g0:∀ b∈fX3,b ∉ gf0:=fun b h1 h2=>dG0x3 b h2 h1
 have l8:=l7.trans le8
 have lw8:=lw7.trans le8
 replace X0:=(rLedger.le X0 le8)
 replace wX0:=wX0.le le8
 replace X3:=(rMoney.le X3 le8)
 replace wX3:=wX3.le le8
 obtain⟨eg0,eg1⟩:=do_inj hw hg
 subst eg0
 subst eg1
 have G0:=Rg0
 have wG0:=Og.2.2
 have ndG0:=Og.1
 have tg0:rLedger.tot wx0≤1048576:=ans_tot (ans_perf moveRun_ans) hw
 refine(cL_eqLedger _ _ _ _ _ _ _ G0 (rLedger.le Rw0 lw8)).mono ?_
 rintro V9 _ ⟨rfl,b9,rfl,hb9⟩
 refine⟨fun _=>Know.le.refl _,b9,rfl,(fun h=>by simp [hb9.2 rfl] at h),fun _=>?_⟩
 refine⟨(fun h=>by simp at h),fun _=>?_⟩
 refine(cL_toLedger _ _ _ _ (rLedger.le h0 l8) tx0).mono ?_
 rintro V10 _ ⟨le10,d10,g10,rfl,H10,O10⟩
 refine⟨fun _=>le10,_,rfl,?_⟩
 have l10:=l8.trans le10
 have lw10:=lw8.trans le10
 replace X0:=(rLedger.le X0 le10)
 replace wX0:=wX0.le le10
 replace X3:=(rMoney.le X3 le10)
 replace wX3:=wX3.le le10
 replace G0:=(rLedger.le G0 le10)
 replace wG0:=wG0.le le10
 refine(cL_eqLedger _ _ _ _ _ _ _ X0 H10).mono ?_
 rintro V11 _ ⟨rfl,b11,rfl,hb11⟩
 refine⟨fun _=>Know.le.refl _,b11,rfl,(fun h=>by simp [hb11.2 rfl] at h),fun _=>?_⟩
 refine(cL_toMoney _ _ _ _ (rMoney.le h3 l10) tx3).mono ?_
 rintro V12 _ ⟨le12,d12,g12,rfl,H12,O12⟩
 refine⟨fun _=>le12,_,rfl,?_⟩
 have l12:=l10.trans le12
 have lw12:=lw10.trans le12
 replace X0:=(rLedger.le X0 le12)
 replace wX0:=wX0.le le12
 replace X3:=(rMoney.le X3 le12)
 replace wX3:=wX3.le le12
 replace G0:=(rLedger.le G0 le12)
 replace wG0:=wG0.le le12
 refine(cL_eqMoney _ _ _ _ _ _ _ X3 H12).mono ?_
 rintro V13 _ ⟨rfl,b13,rfl,hb13⟩
 refine⟨fun _=>Know.le.refl _,b13,rfl,(fun h=>by simp [hb13.2 rfl] at h),fun _=>?_⟩
 refine(mkC_Ledger _ _ _ _ 1 X0 ndX0 wX0 tx0 (by omega) (by omega)).mono ?_
 rintro V14 _ ⟨B14,k14,rfl,p14,q14⟩
 refine⟨nofun,_,rfl,?_⟩
 have l14:=le_but l12 nX0 B14
 have lw14:=le_but lw12 mX0 B14
 replace X3:=(rMoney.but X3 d3x0 B14)
 replace wX3:=wX3.but d3x0 B14
 replace G0:=(rLedger.but G0 dG0x0 B14)
 replace wG0:=wG0.but dG0x0 B14
 refine(mkC_Money _ _ _ _ (1+k14) X3 ndX3 wX3 tx3 (by omega) (by omega)).mono ?_
 rintro V15 _ ⟨B15,k15,rfl,p15,q15⟩
 refine⟨nofun,_,rfl,?_⟩
 have l15:=le_but l14 nX3 B15
 have lw15:=le_but lw14 mX3 B15
 replace G0:=(rLedger.but G0 dG0x3 B15)
 replace wG0:=wG0.but dG0x3 B15
 have hk:¬ ((1+k14)+k15)<0:=by omega
 refine⟨fun h=>absurd (of_decide_eq_true h) hk,fun _=>?_⟩
 refine(cL_eqLedger _ _ _ _ _ _ _ G0 (rLedger.le Rw0 lw15)).mono ?_
 rintro V16 _ ⟨rfl,b16,rfl,hb16⟩
 refine⟨fun _=>Know.le.refl _,b16,rfl,(fun h=>by simp [hb16.2 rfl] at h),fun _=>?_⟩
 refine⟨(fun h=>by simp at h),fun _=>?_⟩
 refine(mkH_Ledger _ _ _ _ 1 G0 ndG0 wG0 tg0 (by omega) (by omega)).mono ?_
 rintro V17 _ ⟨B17,WG0,m0,rfl,p17,q17,held0⟩
 refine⟨nofun,_,rfl,?_⟩
 have l17:=le_but l15 nG0 B17
 have lw17:=le_but lw15 mG0 B17
 have ke0:∀ b∈gf0,V17 b=V17 b:=fun _ _=>rfl
 obtain⟨kV0,ek0⟩:∃ U,U=V17:=⟨_,rfl⟩
 rw [← ek0] at WG0 held0
 replace ke0:∀ b∈gf0,V17 b=kV0 b:=fun b hb=>by rw [ek0]
 refine(held0 _ ke0).mono ?_
 rintro V18 _ ⟨le18,rfl⟩
 have hn18:¬ (1+m0)<0:=by omega
 refine⟨nofun,_,rfl,fun h=>absurd (of_decide_eq_true h) hn18,fun _=>?_⟩
 have l18:=l17.trans le18
 have lw18:=lw17.trans le18
 replace ke0:=ke_le WG0 ke0 le18
 refine⟨(fun h=>by simp at h),fun _=>?_⟩
 refine(cL_toLedger _ _ _ _ (rLedger.le h0 l18) tx0).mono ?_
 rintro V19 _ ⟨le19,d19,g19,rfl,H19,O19⟩
 refine⟨fun _=>le19,_,rfl,?_⟩
 have l19:=l18.trans le19
 have lw19:=lw18.trans le19
 replace ke0:=ke_le WG0 ke0 le19
 refine(cL_toMoney _ _ _ _ (rMoney.le h3 l19) tx3).mono ?_
 rintro V20 _ ⟨le20,d20,g20,rfl,H20,O20⟩
 refine⟨fun _=>le20,_,rfl,?_⟩
 have l20:=l19.trans le20
 have lw20:=lw19.trans le20
 replace ke0:=ke_le WG0 ke0 le20
 replace H19:=(rLedger.le H19 le20)
 refine(uI_DoMove (HcI.le hV l20) _ _ _ H19 tx0 a1 sz1 a2 sz2 _ _ _ H20 tx3).mono ?_
 rintro V21 _ ⟨le21,qc0,qx0,qf0,qz1,rfl,Rq0,Oq,hq⟩
 refine⟨fun _=>le21,(qc0,qz1,()),rfl,?_⟩
 have l21:=l20.trans le21
 have lw21:=lw20.trans le21
 replace ke0:=ke_le WG0 ke0 le21
 obtain⟨eq0,eq1⟩:=do_inj hw hq
 subst eq0
 subst eq1
 refine(cL_eqLedger _ _ _ _ _ _ _ Rq0 (rLedger.le Rw0 lw21)).mono ?_
 rintro V22 _ ⟨rfl,b22,rfl,hb22⟩
 refine⟨fun _=>Know.le.refl _,b22,rfl,(fun h=>by simp [hb22.2 rfl] at h),fun _=>?_⟩
 refine⟨(fun h=>by simp at h),fun _=>?_⟩
 refine(held0 _ ke0).mono ?_
 rintro V23 _ ⟨le23,rfl⟩
 have hn23:¬ (1+m0)<0:=by omega
 refine⟨nofun,_,rfl,fun h=>absurd (of_decide_eq_true h) hn23,fun _=>?_⟩
 have l23:=l21.trans le23
 have lw23:=lw21.trans le23
 replace ke0:=ke_le WG0 ke0 le23
 refine⟨(fun h=>by simp at h),fun _=>?_⟩
 exact⟨l23,rfl⟩
end Go.Proofs.YtccnjccabllcaaaGreatDoor
