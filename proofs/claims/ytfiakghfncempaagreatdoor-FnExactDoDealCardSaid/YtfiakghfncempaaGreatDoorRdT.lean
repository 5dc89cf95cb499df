/-
  The arguments of the laws, read as rows.
-/
import Derived.Test.YtfiakghfncempaaGreatDoorMkA
import Derived.Test.YtfiakghfncempaaGreatDoorMkZ
import Derived.Test.YtfiakghfncempaaGreatDoorMath
import Derived.Test.YtfiakghfncempaaGreatDoorChecked
import Derived.ChangeArms
import Derived.Lib.LaidTab
import Derived.Test.YtfiakghfncempaaGreatDoorStr
import Derived.KernelRfl
namespace Go.Proofs.YtfiakghfncempaaGreatDoor
open Sx
set_option maxRecDepth 100000
theorem law_DoDeal {V:Know} (hV:HcI V) {c0:Scs [.l,.l,.s,.l]} {x0:DLedger} {f0:List Nat} (h0:rLedger.R V c0 x0 f0) (a1:ByteArray) {c2:SlV} {x2:List DString} {f2:List Nat} (h2:LR rString V c2 x2 f2) {c3:SlV} {x3:List Lim} {f3:List Nat} (h3:LR rI V c3 x3 f3) {c4:Scs [.s,.b,.l]} {x4:DMoney} {f4:List Nat} (h4:rMoney.R V c4 x4 f4) :
  CallX Tryz.prog V 4 [qv3 c0,.string a1,Sc.val .l c2,Sc.val .l c3,qv2 c4] (fun V' r=>V.le V'∧r=.bool true):=by
 refine CallX.of_fits Tryz.mix (fL_FnExactDoDeal _ _ _ _ _) fun _=>?_
 simp only [tL_FnExactDoDeal,T.wp]
 refine⟨fun _=>⟨(Know.le.refl _),rfl⟩,fun hs1=>?_⟩
 have sz1:a1.size≤1048576:=by
  have:=of_decide_eq_false hs1
  omega
 refine⟨fun _=>⟨(Know.le.refl _),rfl⟩,fun hs3=>?_⟩
 have tx3:x3.length+totE rI x3≤1048576:=by
  have h1:=of_decide_eq_false hs3
  have h2:=h3.1
  have h3:=totE_rI x3
  omega
 refine(cL_szLedger _ _ _ _ 1048576 h0 (by omega) (by omega)).mono ?_
 rintro V1 _ ⟨rfl,rfl⟩
 refine⟨nofun,_,rfl,fun _=>⟨Know.le.refl _,rfl⟩,fun hz0=>?_⟩
 have hp0:((rLedger.tot x0:Nat):Int)≤1048576:=Decidable.not_not.1 fun k=>(of_decide_eq_false hz0) (szr_lt.2 k)
 rw [szr_ge hp0]
 refine(cL_szStringS _ _ _ _ (1048576-((rLedger.tot x0:Nat):Int)) h2 (by omega) (by omega)).mono ?_
 rintro V2 _ ⟨rfl,rfl⟩
 refine⟨nofun,_,rfl,fun _=>⟨Know.le.refl _,rfl⟩,fun hz2=>?_⟩
 have hp2:(((x2.length+totE rString x2):Nat):Int)≤(1048576-((rLedger.tot x0:Nat):Int)):=Decidable.not_not.1 fun k=>(of_decide_eq_false hz2) (szr_lt.2 k)
 rw [szr_ge hp2]
 refine(cL_szMoney _ _ _ _ ((1048576-((rLedger.tot x0:Nat):Int))-(((x2.length+totE rString x2):Nat):Int)) h4 (by omega) (by omega)).mono ?_
 rintro V3 _ ⟨rfl,rfl⟩
 refine⟨nofun,_,rfl,fun _=>⟨Know.le.refl _,rfl⟩,fun hz4=>?_⟩
 have hp4:((rMoney.tot x4:Nat):Int)≤((1048576-((rLedger.tot x0:Nat):Int))-(((x2.length+totE rString x2):Nat):Int)):=Decidable.not_not.1 fun k=>(of_decide_eq_false hz4) (szr_lt.2 k)
 have tx0:rLedger.tot x0≤1048576:=by omega
 have tx2:(x2.length+totE rString x2)≤1048576:=by omega
 have tx4:rMoney.tot x4≤1048576:=by omega
 refine(cL_toLedger _ _ _ _ h0 tx0).mono ?_
 rintro V4 _ ⟨le4,d4,g4,rfl,H4,O4⟩
 refine⟨fun _=>le4,_,rfl,?_⟩
 have l4:=le4
 refine(cL_toStringS _ _ _ _ (h2.le l4) tx2).mono ?_
 rintro V5 _ ⟨le5,d5,g5,rfl,H5,O5⟩
 refine⟨fun _=>le5,_,rfl,?_⟩
 have l5:=l4.trans le5
 replace H4:=(rLedger.le H4 le5)
 refine(cL_toIntS _ _ _ _ (h3.le l5) tx3).mono ?_
 rintro V6 _ ⟨le6,d6,g6,rfl,H6,O6⟩
 refine⟨fun _=>le6,_,rfl,?_⟩
 have l6:=l5.trans le6
 replace H4:=(rLedger.le H4 le6)
 replace H5:=(H5.le le6)
 refine(cL_toMoney _ _ _ _ (rMoney.le h4 l6) tx4).mono ?_
 rintro V7 _ ⟨le7,d7,g7,rfl,H7,O7⟩
 refine⟨fun _=>le7,_,rfl,?_⟩
 have l7:=l6.trans le7
 replace H4:=(rLedger.le H4 le7)
 replace H5:=(H5.le le7)
 replace H6:=(H6.le le7)
 refine(uS_DoDeal trivial _ _ _ H4 tx0 a1 sz1 _ _ _ H5 tx2 _ _ _ H6 tx3 _ _ _ H7 tx4).mono ?_
 rintro V8 _ ⟨le8,wc0,wx0,wf0,wz1,rfl,Rw0,Ow,hw⟩
 refine⟨fun _=>le8,(wc0,wz1,()),rfl,?_⟩
 have l8:=l7.trans le8
 refine(cL_toLedger _ _ _ _ (rLedger.le h0 l8) tx0).mono ?_
 rintro V9 _ ⟨le9,d9,g9,rfl,H9,O9⟩
 refine⟨fun _=>le9,_,rfl,?_⟩
 have nX0:∀ b∈g9,V3 b=none:=fun b hb=>none_of_le l8 (O9.2.1 b hb)
 have mX0:∀ b∈g9,V8 b=none:=fun b hb=>none_of_le (Know.le.refl _) (O9.2.1 b hb)
 have l9:=l8.trans le9
 have lw9:=le9
 have X0:=H9
 have wX0:=O9.2.2
 have ndX0:=O9.1
 obtain⟨fX0,eX0⟩:∃ fX,fX=g9:=⟨_,rfl⟩
 rw [← eX0] at X0 wX0 ndX0 nX0 mX0
 refine(cL_toStringS _ _ _ _ (h2.le l9) tx2).mono ?_
 rintro V10 _ ⟨le10,d10,g10,rfl,H10,O10⟩
 refine⟨fun _=>le10,_,rfl,?_⟩
 have nX2:∀ b∈g10,V3 b=none:=fun b hb=>none_of_le l9 (O10.2.1 b hb)
 have mX2:∀ b∈g10,V8 b=none:=fun b hb=>none_of_le lw9 (O10.2.1 b hb)
 have d2x0:∀ b∈g10,b ∉ fX0:=fun b h1 h2=>by
  obtain⟨z,hz⟩:=rLedger.kn X0 b h2
  rw [O10.2.1 b h1] at hz; cases hz
 have d0x2:∀ b∈fX0,b ∉ g10:=fun b h1 h2=>d2x0 b h2 h1
 have l10:=l9.trans le10
 have lw10:=lw9.trans le10
 replace X0:=(rLedger.le X0 le10)
 replace wX0:=wX0.le le10
 have X2:=H10
 have wX2:=O10.2.2
 have ndX2:=O10.1
 obtain⟨fX2,eX2⟩:∃ fX,fX=g10:=⟨_,rfl⟩
 rw [← eX2] at X2 wX2 ndX2 nX2 mX2 d2x0 d0x2
 refine(cL_toIntS _ _ _ _ (h3.le l10) tx3).mono ?_
 rintro V11 _ ⟨le11,d11,g11,rfl,H11,O11⟩
 refine⟨fun _=>le11,_,rfl,?_⟩
 have nX3:∀ b∈g11,V3 b=none:=fun b hb=>none_of_le l10 (O11.2.1 b hb)
 have mX3:∀ b∈g11,V8 b=none:=fun b hb=>none_of_le lw10 (O11.2.1 b hb)
 have d3x0:∀ b∈g11,b ∉ fX0:=fun b h1 h2=>by
  obtain⟨z,hz⟩:=rLedger.kn X0 b h2
  rw [O11.2.1 b h1] at hz; cases hz
 have d0x3:∀ b∈fX0,b ∉ g11:=fun b h1 h2=>d3x0 b h2 h1
 have d3x2:∀ b∈g11,b ∉ fX2:=fun b h1 h2=>by
  obtain⟨z,hz⟩:=X2.kn b h2
  rw [O11.2.1 b h1] at hz; cases hz
 have d2x3:∀ b∈fX2,b ∉ g11:=fun b h1 h2=>d3x2 b h2 h1
 have l11:=l10.trans le11
 have lw11:=lw10.trans le11
 replace X0:=(rLedger.le X0 le11)
 replace wX0:=wX0.le le11
 replace X2:=(X2.le le11)
 replace wX2:=wX2.le le11
 have X3:=H11
 have wX3:=O11.2.2
 have ndX3:=O11.1
 obtain⟨fX3,eX3⟩:∃ fX,fX=g11:=⟨_,rfl⟩
 rw [← eX3] at X3 wX3 ndX3 nX3 mX3 d3x0 d0x3 d3x2 d2x3
 refine(cL_toMoney _ _ _ _ (rMoney.le h4 l11) tx4).mono ?_
 rintro V12 _ ⟨le12,d12,g12,rfl,H12,O12⟩
 refine⟨fun _=>le12,_,rfl,?_⟩
 have nX4:∀ b∈g12,V3 b=none:=fun b hb=>none_of_le l11 (O12.2.1 b hb)
 have mX4:∀ b∈g12,V8 b=none:=fun b hb=>none_of_le lw11 (O12.2.1 b hb)
 have d4x0:∀ b∈g12,b ∉ fX0:=fun b h1 h2=>by
  obtain⟨z,hz⟩:=rLedger.kn X0 b h2
  rw [O12.2.1 b h1] at hz; cases hz
 have d0x4:∀ b∈fX0,b ∉ g12:=fun b h1 h2=>d4x0 b h2 h1
 have d4x2:∀ b∈g12,b ∉ fX2:=fun b h1 h2=>by
  obtain⟨z,hz⟩:=X2.kn b h2
  rw [O12.2.1 b h1] at hz; cases hz
 have d2x4:∀ b∈fX2,b ∉ g12:=fun b h1 h2=>d4x2 b h2 h1
 have d4x3:∀ b∈g12,b ∉ fX3:=fun b h1 h2=>by
  obtain⟨z,hz⟩:=X3.kn b h2
  rw [O12.2.1 b h1] at hz; cases hz
 have d3x4:∀ b∈fX3,b ∉ g12:=fun b h1 h2=>d4x3 b h2 h1
 have l12:=l11.trans le12
 have lw12:=lw11.trans le12
 replace X0:=(rLedger.le X0 le12)
 replace wX0:=wX0.le le12
 replace X2:=(X2.le le12)
 replace wX2:=wX2.le le12
 replace X3:=(X3.le le12)
 replace wX3:=wX3.le le12
 have X4:=H12
 have wX4:=O12.2.2
 have ndX4:=O12.1
 obtain⟨fX4,eX4⟩:∃ fX,fX=g12:=⟨_,rfl⟩
 rw [← eX4] at X4 wX4 ndX4 nX4 mX4 d4x0 d0x4 d4x2 d2x4 d4x3 d3x4
 refine(uI_DoDeal (HcI.le hV l12) _ _ _ X0 tx0 a1 sz1 _ _ _ X2 tx2 _ _ _ X3 tx3 _ _ _ X4 tx4).mono ?_
 rintro V13 _ ⟨le13,gc0,gx0,gf0,gz1,rfl,Rg0,Og,hg⟩
 refine⟨fun _=>le13,(gc0,gz1,()),rfl,?_⟩
 have nG0:∀ b∈gf0,V3 b=none:=fun b hb=>none_of_le l12 (Og.2.1 b hb)
 have mG0:∀ b∈gf0,V8 b=none:=fun b hb=>none_of_le lw12 (Og.2.1 b hb)
 have dG0x0:∀ b∈gf0,b ∉ fX0:=fun b hb hx=>by
  obtain⟨z,hz⟩:=rLedger.kn X0 b hx
  rw [Og.2.1 b hb] at hz; cases hz
 have dX0g0:∀ b∈fX0,b ∉ gf0:=fun b h1 h2=>dG0x0 b h2 h1
 have dG0x2:∀ b∈gf0,b ∉ fX2:=fun b hb hx=>by
  obtain⟨z,hz⟩:=X2.kn b hx
  rw [Og.2.1 b hb] at hz; cases hz
 have dX2g0:∀ b∈fX2,b ∉ gf0:=fun b h1 h2=>dG0x2 b h2 h1
 have dG0x3:∀ b∈gf0,b ∉ fX3:=fun b hb hx=>by
  obtain⟨z,hz⟩:=X3.kn b hx
  rw [Og.2.1 b hb] at hz; cases hz
 have dX3g0:∀ b∈fX3,b ∉ gf0:=fun b h1 h2=>dG0x3 b h2 h1
 have dG0x4:∀ b∈gf0,b ∉ fX4:=fun b hb hx=>by
  obtain⟨z,hz⟩:=rMoney.kn X4 b hx
  rw [Og.2.1 b hb] at hz; cases hz
 have dX4g0:∀ b∈fX4,b ∉ gf0:=fun b h1 h2=>dG0x4 b h2 h1
 have l13:=l12.trans le13
 have lw13:=lw12.trans le13
 replace X0:=(rLedger.le X0 le13)
 replace wX0:=wX0.le le13
 replace X2:=(X2.le le13)
 replace wX2:=wX2.le le13
 replace X3:=(X3.le le13)
 replace wX3:=wX3.le le13
 replace X4:=(rMoney.le X4 le13)
 replace wX4:=wX4.le le13
 obtain⟨eg0,eg1⟩:=do_inj hw hg
 subst eg0
 subst eg1
 have G0:=Rg0
 have wG0:=Og.2.2
 have ndG0:=Og.1
 have tg0:rLedger.tot wx0≤1048576:=ans_tot (ans_perf dealRun_Ans) hw
 refine(cL_eqLedger _ _ _ _ _ _ _ G0 (rLedger.le Rw0 lw13)).mono ?_
 rintro V14 _ ⟨rfl,b14,rfl,hb14⟩
 refine⟨fun _=>Know.le.refl _,b14,rfl,(fun h=>by simp [hb14.2 rfl] at h),fun _=>?_⟩
 refine⟨(fun h=>by simp at h),fun _=>?_⟩
 refine(cL_toLedger _ _ _ _ (rLedger.le h0 l13) tx0).mono ?_
 rintro V15 _ ⟨le15,d15,g15,rfl,H15,O15⟩
 refine⟨fun _=>le15,_,rfl,?_⟩
 have l15:=l13.trans le15
 have lw15:=lw13.trans le15
 replace X0:=(rLedger.le X0 le15)
 replace wX0:=wX0.le le15
 replace X2:=(X2.le le15)
 replace wX2:=wX2.le le15
 replace X3:=(X3.le le15)
 replace wX3:=wX3.le le15
 replace X4:=(rMoney.le X4 le15)
 replace wX4:=wX4.le le15
 replace G0:=(rLedger.le G0 le15)
 replace wG0:=wG0.le le15
 refine(cL_eqLedger _ _ _ _ _ _ _ X0 H15).mono ?_
 rintro V16 _ ⟨rfl,b16,rfl,hb16⟩
 refine⟨fun _=>Know.le.refl _,b16,rfl,(fun h=>by simp [hb16.2 rfl] at h),fun _=>?_⟩
 refine(cL_toStringS _ _ _ _ (h2.le l15) tx2).mono ?_
 rintro V17 _ ⟨le17,d17,g17,rfl,H17,O17⟩
 refine⟨fun _=>le17,_,rfl,?_⟩
 have l17:=l15.trans le17
 have lw17:=lw15.trans le17
 replace X0:=(rLedger.le X0 le17)
 replace wX0:=wX0.le le17
 replace X2:=(X2.le le17)
 replace wX2:=wX2.le le17
 replace X3:=(X3.le le17)
 replace wX3:=wX3.le le17
 replace X4:=(rMoney.le X4 le17)
 replace wX4:=wX4.le le17
 replace G0:=(rLedger.le G0 le17)
 replace wG0:=wG0.le le17
 refine(cL_eqStringS _ _ _ _ _ _ _ X2 H17).mono ?_
 rintro V18 _ ⟨rfl,b18,rfl,hb18⟩
 refine⟨fun _=>Know.le.refl _,b18,rfl,(fun h=>by simp [hb18.2 rfl] at h),fun _=>?_⟩
 refine(cL_toIntS _ _ _ _ (h3.le l17) tx3).mono ?_
 rintro V19 _ ⟨le19,d19,g19,rfl,H19,O19⟩
 refine⟨fun _=>le19,_,rfl,?_⟩
 have l19:=l17.trans le19
 have lw19:=lw17.trans le19
 replace X0:=(rLedger.le X0 le19)
 replace wX0:=wX0.le le19
 replace X2:=(X2.le le19)
 replace wX2:=wX2.le le19
 replace X3:=(X3.le le19)
 replace wX3:=wX3.le le19
 replace X4:=(rMoney.le X4 le19)
 replace wX4:=wX4.le le19
 replace G0:=(rLedger.le G0 le19)
 replace wG0:=wG0.le le19
 refine(cL_eqIntS _ _ _ _ _ _ _ X3 H19).mono ?_
 rintro V20 _ ⟨rfl,b20,rfl,hb20⟩
 refine⟨fun _=>Know.le.refl _,b20,rfl,(fun h=>by simp [hb20.2 rfl] at h),fun _=>?_⟩
 refine(cL_toMoney _ _ _ _ (rMoney.le h4 l19) tx4).mono ?_
 rintro V21 _ ⟨le21,d21,g21,rfl,H21,O21⟩
 refine⟨fun _=>le21,_,rfl,?_⟩
 have l21:=l19.trans le21
 have lw21:=lw19.trans le21
 replace X0:=(rLedger.le X0 le21)
 replace wX0:=wX0.le le21
 replace X2:=(X2.le le21)
 replace wX2:=wX2.le le21
 replace X3:=(X3.le le21)
 replace wX3:=wX3.le le21
 replace X4:=(rMoney.le X4 le21)
 replace wX4:=wX4.le le21
 replace G0:=(rLedger.le G0 le21)
 replace wG0:=wG0.le le21
 refine(cL_eqMoney _ _ _ _ _ _ _ X4 H21).mono ?_
 rintro V22 _ ⟨rfl,b22,rfl,hb22⟩
 refine⟨fun _=>Know.le.refl _,b22,rfl,(fun h=>by simp [hb22.2 rfl] at h),fun _=>?_⟩
 refine(mkC_Ledger _ _ _ _ 1 X0 ndX0 wX0 tx0 (by omega) (by omega)).mono ?_
 rintro V23 _ ⟨B23,k23,rfl,p23,q23⟩
 refine⟨nofun,_,rfl,?_⟩
 have l23:=le_but l21 nX0 B23
 have lw23:=le_but lw21 mX0 B23
 replace X2:=(X2.but d2x0 B23)
 replace wX2:=wX2.but d2x0 B23
 replace X3:=(X3.but d3x0 B23)
 replace wX3:=wX3.but d3x0 B23
 replace X4:=(rMoney.but X4 d4x0 B23)
 replace wX4:=wX4.but d4x0 B23
 replace G0:=(rLedger.but G0 dG0x0 B23)
 replace wG0:=wG0.but dG0x0 B23
 refine(mkCS_String _ _ _ _ (1+k23) X2 ndX2 wX2 tx2 (by omega) (by omega)).mono ?_
 rintro V24 _ ⟨B24,k24,rfl,p24,q24⟩
 refine⟨nofun,_,rfl,?_⟩
 have l24:=le_but l23 nX2 B24
 have lw24:=le_but lw23 mX2 B24
 replace X3:=(X3.but d3x2 B24)
 replace wX3:=wX3.but d3x2 B24
 replace X4:=(rMoney.but X4 d4x2 B24)
 replace wX4:=wX4.but d4x2 B24
 replace G0:=(rLedger.but G0 dG0x2 B24)
 replace wG0:=wG0.but dG0x2 B24
 refine(mkCS_Int _ _ _ _ ((1+k23)+k24) X3 ndX3 wX3 tx3 (by omega) (by omega)).mono ?_
 rintro V25 _ ⟨B25,k25,rfl,p25,q25⟩
 refine⟨nofun,_,rfl,?_⟩
 have l25:=le_but l24 nX3 B25
 have lw25:=le_but lw24 mX3 B25
 replace X4:=(rMoney.but X4 d4x3 B25)
 replace wX4:=wX4.but d4x3 B25
 replace G0:=(rLedger.but G0 dG0x3 B25)
 replace wG0:=wG0.but dG0x3 B25
 refine(mkC_Money _ _ _ _ (((1+k23)+k24)+k25) X4 ndX4 wX4 tx4 (by omega) (by omega)).mono ?_
 rintro V26 _ ⟨B26,k26,rfl,p26,q26⟩
 refine⟨nofun,_,rfl,?_⟩
 have l26:=le_but l25 nX4 B26
 have lw26:=le_but lw25 mX4 B26
 replace G0:=(rLedger.but G0 dG0x4 B26)
 replace wG0:=wG0.but dG0x4 B26
 have hk:¬ ((((1+k23)+k24)+k25)+k26)<0:=by omega
 refine⟨fun h=>absurd (of_decide_eq_true h) hk,fun _=>?_⟩
 refine(cL_eqLedger _ _ _ _ _ _ _ G0 (rLedger.le Rw0 lw26)).mono ?_
 rintro V27 _ ⟨rfl,b27,rfl,hb27⟩
 refine⟨fun _=>Know.le.refl _,b27,rfl,(fun h=>by simp [hb27.2 rfl] at h),fun _=>?_⟩
 refine⟨(fun h=>by simp at h),fun _=>?_⟩
 refine(mkH_Ledger _ _ _ _ 1 G0 ndG0 wG0 tg0 (by omega) (by omega)).mono ?_
 rintro V28 _ ⟨B28,WG0,m0,rfl,p28,q28,held0⟩
 refine⟨nofun,_,rfl,?_⟩
 have l28:=le_but l26 nG0 B28
 have lw28:=le_but lw26 mG0 B28
 have ke0:∀ b∈gf0,V28 b=V28 b:=fun _ _=>rfl
 obtain⟨kV0,ek0⟩:∃ U,U=V28:=⟨_,rfl⟩
 rw [← ek0] at WG0 held0
 replace ke0:∀ b∈gf0,V28 b=kV0 b:=fun b hb=>by rw [ek0]
 refine(held0 _ ke0).mono ?_
 rintro V29 _ ⟨le29,rfl⟩
 have hn29:¬ (1+m0)<0:=by omega
 refine⟨nofun,_,rfl,fun h=>absurd (of_decide_eq_true h) hn29,fun _=>?_⟩
 have l29:=l28.trans le29
 have lw29:=lw28.trans le29
 replace ke0:=ke_le WG0 ke0 le29
 refine⟨(fun h=>by simp at h),fun _=>?_⟩
 refine(cL_toLedger _ _ _ _ (rLedger.le h0 l29) tx0).mono ?_
 rintro V30 _ ⟨le30,d30,g30,rfl,H30,O30⟩
 refine⟨fun _=>le30,_,rfl,?_⟩
 have l30:=l29.trans le30
 have lw30:=lw29.trans le30
 replace ke0:=ke_le WG0 ke0 le30
 refine(cL_toStringS _ _ _ _ (h2.le l30) tx2).mono ?_
 rintro V31 _ ⟨le31,d31,g31,rfl,H31,O31⟩
 refine⟨fun _=>le31,_,rfl,?_⟩
 have l31:=l30.trans le31
 have lw31:=lw30.trans le31
 replace ke0:=ke_le WG0 ke0 le31
 replace H30:=(rLedger.le H30 le31)
 refine(cL_toIntS _ _ _ _ (h3.le l31) tx3).mono ?_
 rintro V32 _ ⟨le32,d32,g32,rfl,H32,O32⟩
 refine⟨fun _=>le32,_,rfl,?_⟩
 have l32:=l31.trans le32
 have lw32:=lw31.trans le32
 replace ke0:=ke_le WG0 ke0 le32
 replace H30:=(rLedger.le H30 le32)
 replace H31:=(H31.le le32)
 refine(cL_toMoney _ _ _ _ (rMoney.le h4 l32) tx4).mono ?_
 rintro V33 _ ⟨le33,d33,g33,rfl,H33,O33⟩
 refine⟨fun _=>le33,_,rfl,?_⟩
 have l33:=l32.trans le33
 have lw33:=lw32.trans le33
 replace ke0:=ke_le WG0 ke0 le33
 replace H30:=(rLedger.le H30 le33)
 replace H31:=(H31.le le33)
 replace H32:=(H32.le le33)
 refine(uI_DoDeal (HcI.le hV l33) _ _ _ H30 tx0 a1 sz1 _ _ _ H31 tx2 _ _ _ H32 tx3 _ _ _ H33 tx4).mono ?_
 rintro V34 _ ⟨le34,qc0,qx0,qf0,qz1,rfl,Rq0,Oq,hq⟩
 refine⟨fun _=>le34,(qc0,qz1,()),rfl,?_⟩
 have l34:=l33.trans le34
 have lw34:=lw33.trans le34
 replace ke0:=ke_le WG0 ke0 le34
 obtain⟨eq0,eq1⟩:=do_inj hw hq
 subst eq0
 subst eq1
 refine(cL_eqLedger _ _ _ _ _ _ _ Rq0 (rLedger.le Rw0 lw34)).mono ?_
 rintro V35 _ ⟨rfl,b35,rfl,hb35⟩
 refine⟨fun _=>Know.le.refl _,b35,rfl,(fun h=>by simp [hb35.2 rfl] at h),fun _=>?_⟩
 refine⟨(fun h=>by simp at h),fun _=>?_⟩
 refine(held0 _ ke0).mono ?_
 rintro V36 _ ⟨le36,rfl⟩
 have hn36:¬ (1+m0)<0:=by omega
 refine⟨nofun,_,rfl,fun h=>absurd (of_decide_eq_true h) hn36,fun _=>?_⟩
 have l36:=l34.trans le36
 have lw36:=lw34.trans le36
 replace ke0:=ke_le WG0 ke0 le36
 refine⟨(fun h=>by simp at h),fun _=>?_⟩
 exact⟨l36,rfl⟩
end Go.Proofs.YtfiakghfncempaaGreatDoor
namespace Go.Proofs.YtfiakghfncempaaGreatDoor
open Sx
def knowOf (W:World):Know:=fun b=>match W.heap[b]? with
 | some (.cells c t fr)=>(match c.toList with | [.tuple _]=>none | l=>some (l,(t,fr)))
 | _=>none
theorem knowOf_on (W:World):(knowOf W).on W:=by
 intro b c t h
 unfold knowOf at h
 split at h
 ·rename_i c' t' fr hh
  split at h
  ·cases h
  ·rename_i hne
   simp only [Option.some.injEq,Prod.mk.injEq] at h
   obtain⟨rfl,rfl⟩:=h
   rw [hh]
   unfold objOf
   split
   ·rename_i es he
    exact(hne es he).elim
   ·rfl
 ·cases h
theorem knowOf_eq {W:World} {b:Nat} {c:Array Value} {t:TypeId} {fr:Nat × Nat} (h:W.heap[b]?=some (.cells c t fr)) (hn:∀ es,c.toList≠[.tuple es]):knowOf W b=some (c.toList,(t,fr)):=by
 unfold knowOf
 rw [h]
 simp only
theorem cut_tuple {l l':List Value} {off n:Nat} (h:cutv l off n=some l') (hn:0<n) (ht:noTup l'=true):∀ es,l≠[.tuple es]:=by
 intro es e
 subst e
 unfold cutv at h
 split at h
 ·rename_i hle
  have h1:off=0∧n=1:=by simp at hle; omega
  obtain⟨rfl,rfl⟩:=h1
  simp at h
  subst h
  simp [noTup] at ht
 ·cases h
def Rd {sh:List Sc} {α:Type} (P:Program) (W:World) (t:TypeId) (r:Rp sh α):Prop :=
 ∀ {H:Type} {enc:TypeId × Value→H} {sp:Nat→Bool} {held:Bool} {fuel:Nat} {cs:List Value} {x:DataW H × List MemPlace},DataW.trod enc P W 0 sp held fuel t cs=some x →
  ∃ c a fp,cs=Scs.vals sh c∧r.R (knowOf W) c a fp
section
variable {H:Type} {enc:TypeId × Value→H} {P:Program} {W:World} {sp:Nat→Bool} {held:Bool} {fuel:Nat} {cs:List Value} {x:DataW H × List MemPlace}
theorem rd_field {t:TypeId} {fs:Array Field} (ht:P.underlying t=some (.struct fs)) (h:DataW.trod enc P W 0 sp held fuel t cs=some x) (i:Nat) (f:Field) (hf:fs[i]?=some f) {ft:TypeId} {off w:Nat}
  (h1:f.type=ft) (h2:f.offset=off) (h3:P.cellsOf ft=w):∃ n y,DataW.trod enc P W 0 sp held n ft ((cs.drop off).take w)=some y:=by
 obtain⟨xs,n,_,_,_,hlen,hfs⟩:=DataW.trod_struct ht h
 have:=hfs i f hf
 rw [h1,h2,h3] at this
 have hi:i<xs.length:=by rw [hlen]; exact(Array.getElem?_eq_some_iff.1 hf).1
 exact⟨n,xs[i],by rw [this]; simp [hi]⟩
theorem rd_len {t:TypeId} {fs:Array Field} (ht:P.underlying t=some (.struct fs)) (h:DataW.trod enc P W 0 sp held fuel t cs=some x) {k:Nat} (hc:P.cellsOf t=k):cs.length=k:=by
 obtain⟨xs,n,_,_,hl,_,_⟩:=DataW.trod_struct ht h
 rw [hl,hc]
theorem cells_cut {b o m:Nat} {c:Array Value} {t:TypeId} {fr:Nat × Nat} {row:List Value} (hm:0<m) (hb:W.heap[b]?=some (.cells c t fr)) (h:W.cells? 0 ⟨b,o,none⟩ m=some row):cutv c.toList o m=some row:=by
 unfold World.cells? at h
 rw [if_pos (Nat.zero_le _)] at h
 have hl:=Go.Lib.mapM_length h
 simp at hl
 have hat:∀ j,j<m→c[o+j]?=row[j]?:=by
  intro j hj
  obtain⟨v,hv,hc⟩:=Go.Lib.mapM_at h j j (by simp [hj])
  rw [addr_add_eq] at hc
  simp only [World.cell?,hb,Option.isSome_none,Bool.false_eq_true,if_false] at hc
  rw [hc,hv]
 unfold cutv
 have hlast:=hat (m-1) (by omega)
 have hlt:o+(m-1)<c.size:=by
  have:(row[m-1]?).isSome=true:=by simp [hl]; omega
  rw [← hlast] at this
  simpa using this
 rw [if_pos (by simp; omega)]
 congr 1
 apply List.ext_getElem?
 intro j
 by_cases hj:j<m
 ·rw [List.getElem?_take_of_lt hj,List.getElem?_drop,Array.getElem?_toList,hat j hj]
 ·rw [List.getElem?_eq_none (by simp; omega),List.getElem?_eq_none (by omega)]
theorem rows_flat {α β:Type} {f:α→List β} {m:Nat} (hf:∀ a,(f a).length=m):∀ {l:List α} {L:List β},(∀ (i:Nat) (h:i<l.length),cutv L (i*m) m=some (f l[i]))→∃ post,L=l.flatMap f++post
 | [],L,_=>⟨L,rfl⟩
 | a :: l,L,h=>by
  have h0:=h 0 (by simp)
  simp only [Nat.zero_mul,List.getElem_cons_zero] at h0
  unfold cutv at h0
  split at h0
  ·rename_i hm
   simp only [List.drop_zero,Option.some.injEq] at h0
   have e:L=f a++L.drop m:=by rw [← h0,List.take_append_drop]
   obtain⟨post,hp⟩:=rows_flat hf (l:=l) (L:=L.drop m) (fun i hi=>by
    have:=h (i+1) (by simpa using hi)
    simp only [List.getElem_cons_succ] at this
    have e2:(i+1)*m=(f a).length+i*m:=by rw [hf,Nat.add_mul,Nat.one_mul,Nat.add_comm]
    rw [e,e2,cutv_skip] at this
    rw [← this])
   exact⟨post,by rw [List.flatMap_cons,List.append_assoc,← hp]; exact e⟩
  ·cases h0
theorem els_of {sh:List Sc} {α:Type} {r:Rp sh α} {V:Know} {Q:Nat→Scs sh→Prop}:∀ (n:Nat),(∀ i,i<n→∃ c a f,Q i c∧r.R V c a f)→∃ cs l fps,List.length l=n∧Els r V cs l fps∧∀ (i:Nat) (h:i<cs.length),Q i cs[i]
 | 0,_=>⟨[],[],[],rfl,rfl,fun i h=>by simp at h⟩
 | n+1,h=>by
  obtain⟨cs,l,fps,h1,h2,h3⟩:=els_of n (fun i hi=>h i (by omega))
  obtain⟨c,a,f,hq,hr⟩:=h n (by omega)
  refine⟨cs++[c],l++[a],fps++f,by simp [h1],h2.snoc hr,fun i hi=>?_⟩
  have hcl:=h2.len
  by_cases hc:i<cs.length
  ·rw [List.getElem_append_left hc]; exact h3 i hc
  ·have:i=n:=by simp at hi; omega
   subst this
   rw [List.getElem_append_right (by omega)]
   simpa using hq
theorem rd_slice {sh:List Sc} {α:Type} {r:Rp sh α} {t e:TypeId} (hr:Rd P W e r) (ht:P.underlying t=some (.slice e)) (hm:P.cellsOf e=sh.length) (hpos:0<sh.length) (h:DataW.trod enc P W 0 sp held fuel t cs=some x) :
  ∃ s l f,cs=[.slice s.a s.n s.c]∧LR r (knowOf W) s l f:=by
 rcases DataW.trod_slice ht h with ⟨rfl,_⟩ | ⟨a,len,cap,elems,rest,n,_,rfl,_,_,hlc,hcap,hel,hall,_⟩
 ·exact⟨⟨none,0,0⟩,[],[],rfl,rfl,Nat.le_refl _,Nat.zero_le _,.inl ⟨rfl,fun _=>rfl,rfl⟩⟩
 ·have hmax:cap≤9223372036854775807:=hcap
  by_cases h0:len=0
  ·subst h0
   exact⟨⟨some a,0,cap⟩,[],[],rfl,rfl,Nat.zero_le _,Nat.zero_le _,.inl ⟨rfl,(fun h=>by cases h),rfl⟩⟩
  rw [hm] at hall
  -- the block
  have hrow:∀ i,i<len→∃ row y,W.cells? 0 (a.add (i*sh.length)) sh.length=some row∧DataW.trod enc P W 0 sp held n e row=some y:=by
   intro i hi
   have:=hall i hi
   have he:elems[i]?=some elems[i]:=by simp [hel,hi]
   rw [he,Option.bind_eq_some_iff] at this
   obtain⟨row,h1,h2⟩:=this
   exact⟨row,_,h1,h2⟩
  obtain⟨row0,y0,hc0,_⟩:=hrow 0 (by omega)
  obtain⟨bk,off,spot⟩:=a
  have hcell:∃ v,W.cell? ⟨bk,off,spot⟩=some v:=by
   unfold World.cells? at hc0
   rw [if_pos (Nat.zero_le _)] at hc0
   obtain⟨v,_,hv⟩:=Go.Lib.mapM_at hc0 0 0 (by simp [hpos])
   refine⟨v,?_⟩
   simpa [Addr.add] using hv
  obtain⟨v,hv⟩:=hcell
  unfold World.cell? at hv
  split at hv
  ·rename_i c ty fr hb
   split at hv
   ·cases hv
   ·rename_i hs
    have hspot:spot=none:=by simpa using hs
    subst hspot
    have hq:∀ i,i<len→∃ (c':Scs sh) (a':α) (f':List Nat),cutv c.toList (off+i*sh.length) sh.length=some (Scs.vals sh c')∧r.R (knowOf W) c' a' f':=by
     intro i hi
     obtain⟨row,y,h1,h2⟩:=hrow i hi
     rw [addr_add_eq] at h1
     obtain⟨c',a',f',rfl,hR⟩:=hr h2
     exact⟨c',a',f',cells_cut hpos hb h1,hR⟩
    obtain⟨cs,l,fps,k1,k2,k3⟩:=els_of (Q:=fun i c'=>cutv c.toList (off+i*sh.length) sh.length=some (Scs.vals sh c')) len hq
    have hoff:off≤c.toList.length:=by
     obtain⟨c',_,_,hc',_⟩:=hq 0 (by omega)
     unfold cutv at hc'
     split at hc'
     ·omega
     ·cases hc'
    have hpre:(c.toList.take off).length=off:=by rw [List.length_take]; omega
    have hflat:∃ post,c.toList.drop off=cs.flatMap (Scs.vals sh)++post:=by
     refine rows_flat (vals_len sh) fun i hi=>?_
     have:=k3 i hi
     rw [← List.take_append_drop off c.toList] at this
     have e2:off+i*sh.length=(c.toList.take off).length+i*sh.length:=by rw [hpre]
     rw [e2,cutv_skip] at this
     exact this
    obtain⟨post,hpost⟩:=hflat
    refine⟨⟨some ⟨bk,off,none⟩,len,cap⟩,l,bk :: fps,rfl,k1.symm,hlc,Nat.le_trans hlc hmax,.inr ⟨bk,c.toList.take off,post,(ty,fr),fps,cs,by rw [hpre],?_,k2,rfl⟩⟩
    obtain⟨c0,_,_,hc0',_⟩:=hq 0 (by omega)
    rw [knowOf_eq hb (cut_tuple hc0' hpos (vals_noTup sh c0)),← hpost,List.take_append_drop]
  ·cases hv
theorem rd_int {t:TypeId} (ht:P.underlying t=some (.int .i64)):Rd P W t rI:=by
 intro H enc sp held fuel cs x h
 obtain⟨n,rfl,_,_⟩:=DataW.trod_int ht h
 exact⟨(n,()),(n,()),[],rfl,rfl,rfl⟩
theorem rd_string {t:TypeId} (ht:P.underlying t=some .string):Rd P W t (rStr rNil):=by
 intro H enc sp held fuel cs x h
 obtain⟨c,rfl,_,z⟩:=DataW.trod_string ht h
 exact⟨(c,()),(c,()),[],rfl,⟨rfl,z⟩,rfl⟩
end
end Go.Proofs.YtfiakghfncempaaGreatDoor
namespace Go.Proofs.YtfiakghfncempaaGreatDoor
open Sx
set_option maxRecDepth 100000
noncomputable def fsSigned:Array Field:=match Tryz.prog.underlying 71 with | some (.struct fs)=>fs | _=>#[]
theorem rd_Signed (W:World):Rd Tryz.prog W 71 rSigned:=by
 intro H enc sp held fuel cs x h
 have ht:Tryz.prog.underlying 71=some (.struct fsSigned):=by kernel_rfl
 have hl:=rd_len ht h (k:=2) (by kernel_rfl)
 match cs,hl with
 | [a0,a1],_ =>
  obtain⟨n0,y0,g0⟩:=rd_field ht h 0 (fsSigned[0]!) (by kernel_rfl) (ft:=4) (off:=0) (w:=1) (by kernel_rfl) (by kernel_rfl) (by kernel_rfl)
  replace g0:DataW.trod enc Tryz.prog W 0 sp held n0 4 [a0]=some y0:=g0
  obtain⟨c0,e0,_⟩:=DataW.trod_bool (show Tryz.prog.underlying 4=some .bool by kernel_rfl) g0
  simp only [List.cons.injEq,and_true] at e0
  subst e0
  obtain⟨n1,y1,g1⟩:=rd_field ht h 1 (fsSigned[1]!) (by kernel_rfl) (ft:=34) (off:=1) (w:=1) (by kernel_rfl) (by kernel_rfl) (by kernel_rfl)
  replace g1:DataW.trod enc Tryz.prog W 0 sp held n1 34 [a1]=some y1:=g1
  obtain⟨c1,x1,f1,e1,sc1⟩:=rd_slice (e:=3) (rd_int (show Tryz.prog.underlying 3=some (.int .i64) by kernel_rfl)) (by kernel_rfl) (by kernel_rfl) (by decide) g1
  simp only [List.cons.injEq,and_true] at e1
  subst e1
  exact⟨(c0,c1,()),(c0,x1,()),_,rfl,(rBool.mk (rSl.mk sc1 rNil.mk))⟩
noncomputable def fsMoney:Array Field:=match Tryz.prog.underlying 73 with | some (.struct fs)=>fs | _=>#[]
theorem rd_Money (W:World):Rd Tryz.prog W 73 rMoney:=by
 intro H enc sp held fuel cs x h
 have ht:Tryz.prog.underlying 73=some (.struct fsMoney):=by kernel_rfl
 have hl:=rd_len ht h (k:=3) (by kernel_rfl)
 match cs,hl with
 | [a0,a1,a2],_ =>
  obtain⟨n0,y0,g0⟩:=rd_field ht h 0 (fsMoney[0]!) (by kernel_rfl) (ft:=9) (off:=0) (w:=1) (by kernel_rfl) (by kernel_rfl) (by kernel_rfl)
  replace g0:DataW.trod enc Tryz.prog W 0 sp held n0 9 [a0]=some y0:=g0
  obtain⟨c0,e0,_,zc0⟩:=DataW.trod_string (show Tryz.prog.underlying 9=some .string by kernel_rfl) g0
  replace zc0:c0.size≤9223372036854775807:=zc0
  simp only [List.cons.injEq,and_true] at e0
  subst e0
  obtain⟨n1,y1,g1⟩:=rd_field ht h 1 (fsMoney[1]!) (by kernel_rfl) (ft:=71) (off:=1) (w:=2) (by kernel_rfl) (by kernel_rfl) (by kernel_rfl)
  replace g1:DataW.trod enc Tryz.prog W 0 sp held n1 71 [a1,a2]=some y1:=g1
  obtain⟨⟨c1,c2,cu1⟩,⟨x1,x2,xu1⟩,f1q,e1,hr1⟩:=rd_Signed W g1
  replace e1:[a1,a2]=[Value.bool c1,Value.slice c2.a c2.n c2.c]:=e1
  simp only [List.cons.injEq,and_true] at e1
  obtain⟨rfl,rfl⟩:=e1
  obtain⟨ec1,hr1⟩:=hr1
  replace ec1:c1=x1:=ec1
  subst ec1
  obtain⟨f2,fr2,ec2,sc2,hr1⟩:=hr1
  subst ec2
  replace sc2:LR rI _ c2 x2 f2:=sc2
  exact⟨(c0,c1,c2,()),(c0,c1,x2,()),_,rfl,(rStr.mk zc0 (rBool.mk (rSl.mk sc2 rNil.mk)))⟩
noncomputable def fsAcct:Array Field:=match Tryz.prog.underlying 220 with | some (.struct fs)=>fs | _=>#[]
theorem rd_Acct (W:World):Rd Tryz.prog W 220 rAcct:=by
 intro H enc sp held fuel cs x h
 have ht:Tryz.prog.underlying 220=some (.struct fsAcct):=by kernel_rfl
 have hl:=rd_len ht h (k:=4) (by kernel_rfl)
 match cs,hl with
 | [a0,a1,a2,a3],_ =>
  obtain⟨n0,y0,g0⟩:=rd_field ht h 0 (fsAcct[0]!) (by kernel_rfl) (ft:=9) (off:=0) (w:=1) (by kernel_rfl) (by kernel_rfl) (by kernel_rfl)
  replace g0:DataW.trod enc Tryz.prog W 0 sp held n0 9 [a0]=some y0:=g0
  obtain⟨c0,e0,_,zc0⟩:=DataW.trod_string (show Tryz.prog.underlying 9=some .string by kernel_rfl) g0
  replace zc0:c0.size≤9223372036854775807:=zc0
  simp only [List.cons.injEq,and_true] at e0
  subst e0
  obtain⟨n1,y1,g1⟩:=rd_field ht h 1 (fsAcct[1]!) (by kernel_rfl) (ft:=73) (off:=1) (w:=3) (by kernel_rfl) (by kernel_rfl) (by kernel_rfl)
  replace g1:DataW.trod enc Tryz.prog W 0 sp held n1 73 [a1,a2,a3]=some y1:=g1
  obtain⟨⟨c1,c2,c3,cu1⟩,⟨x1,x2,x3,xu1⟩,f1q,e1,hr1⟩:=rd_Money W g1
  replace e1:[a1,a2,a3]=[Value.string c1,Value.bool c2,Value.slice c3.a c3.n c3.c]:=e1
  simp only [List.cons.injEq,and_true] at e1
  obtain⟨rfl,rfl,rfl⟩:=e1
  obtain⟨⟨ec1,zc1⟩,hr1⟩:=hr1
  replace ec1:c1=x1:=ec1
  subst ec1
  replace zc1:c1.size≤9223372036854775807:=zc1
  obtain⟨ec2,hr1⟩:=hr1
  replace ec2:c2=x2:=ec2
  subst ec2
  obtain⟨f3,fr3,ec3,sc3,hr1⟩:=hr1
  subst ec3
  replace sc3:LR rI _ c3 x3 f3:=sc3
  exact⟨(c0,c1,c2,c3,()),(c0,c1,c2,x3,()),_,rfl,(rStr.mk zc0 (rStr.mk zc1 (rBool.mk (rSl.mk sc3 rNil.mk))))⟩
noncomputable def fsBook:Array Field:=match Tryz.prog.underlying 63 with | some (.struct fs)=>fs | _=>#[]
theorem rd_Book (W:World):Rd Tryz.prog W 63 rBook:=by
 intro H enc sp held fuel cs x h
 have ht:Tryz.prog.underlying 63=some (.struct fsBook):=by kernel_rfl
 have hl:=rd_len ht h (k:=1) (by kernel_rfl)
 match cs,hl with
 | [a0],_ =>
  obtain⟨n0,y0,g0⟩:=rd_field ht h 0 (fsBook[0]!) (by kernel_rfl) (ft:=61) (off:=0) (w:=1) (by kernel_rfl) (by kernel_rfl) (by kernel_rfl)
  replace g0:DataW.trod enc Tryz.prog W 0 sp held n0 61 [a0]=some y0:=g0
  obtain⟨c0,x0,f0,e0,sc0⟩:=rd_slice (e:=220) (rd_Acct W) (by kernel_rfl) (by kernel_rfl) (by decide) g0
  simp only [List.cons.injEq,and_true] at e0
  subst e0
  exact⟨(c0,()),(x0,()),_,rfl,(rSl.mk sc0 rNil.mk)⟩
noncomputable def fsRat:Array Field:=match Tryz.prog.underlying 176 with | some (.struct fs)=>fs | _=>#[]
theorem rd_Rat (W:World):Rd Tryz.prog W 176 rRat:=by
 intro H enc sp held fuel cs x h
 have ht:Tryz.prog.underlying 176=some (.struct fsRat):=by kernel_rfl
 have hl:=rd_len ht h (k:=3) (by kernel_rfl)
 match cs,hl with
 | [a0,a1,a2],_ =>
  obtain⟨n0,y0,g0⟩:=rd_field ht h 0 (fsRat[0]!) (by kernel_rfl) (ft:=71) (off:=0) (w:=2) (by kernel_rfl) (by kernel_rfl) (by kernel_rfl)
  replace g0:DataW.trod enc Tryz.prog W 0 sp held n0 71 [a0,a1]=some y0:=g0
  obtain⟨⟨c0,c1,cu0⟩,⟨x0,x1,xu0⟩,f0q,e0,hr0⟩:=rd_Signed W g0
  replace e0:[a0,a1]=[Value.bool c0,Value.slice c1.a c1.n c1.c]:=e0
  simp only [List.cons.injEq,and_true] at e0
  obtain⟨rfl,rfl⟩:=e0
  obtain⟨ec0,hr0⟩:=hr0
  replace ec0:c0=x0:=ec0
  subst ec0
  obtain⟨f1,fr1,ec1,sc1,hr0⟩:=hr0
  subst ec1
  replace sc1:LR rI _ c1 x1 f1:=sc1
  obtain⟨n2,y2,g2⟩:=rd_field ht h 1 (fsRat[1]!) (by kernel_rfl) (ft:=34) (off:=2) (w:=1) (by kernel_rfl) (by kernel_rfl) (by kernel_rfl)
  replace g2:DataW.trod enc Tryz.prog W 0 sp held n2 34 [a2]=some y2:=g2
  obtain⟨c2,x2,f2,e2,sc2⟩:=rd_slice (e:=3) (rd_int (show Tryz.prog.underlying 3=some (.int .i64) by kernel_rfl)) (by kernel_rfl) (by kernel_rfl) (by decide) g2
  simp only [List.cons.injEq,and_true] at e2
  subst e2
  exact⟨(c0,c1,c2,()),(c0,x1,x2,()),_,rfl,(rBool.mk (rSl.mk sc1 (rSl.mk sc2 rNil.mk)))⟩
noncomputable def fsRest:Array Field:=match Tryz.prog.underlying 178 with | some (.struct fs)=>fs | _=>#[]
theorem rd_Rest (W:World):Rd Tryz.prog W 178 rRest:=by
 intro H enc sp held fuel cs x h
 have ht:Tryz.prog.underlying 178=some (.struct fsRest):=by kernel_rfl
 have hl:=rd_len ht h (k:=4) (by kernel_rfl)
 match cs,hl with
 | [a0,a1,a2,a3],_ =>
  obtain⟨n0,y0,g0⟩:=rd_field ht h 0 (fsRest[0]!) (by kernel_rfl) (ft:=9) (off:=0) (w:=1) (by kernel_rfl) (by kernel_rfl) (by kernel_rfl)
  replace g0:DataW.trod enc Tryz.prog W 0 sp held n0 9 [a0]=some y0:=g0
  obtain⟨c0,e0,_,zc0⟩:=DataW.trod_string (show Tryz.prog.underlying 9=some .string by kernel_rfl) g0
  replace zc0:c0.size≤9223372036854775807:=zc0
  simp only [List.cons.injEq,and_true] at e0
  subst e0
  obtain⟨n1,y1,g1⟩:=rd_field ht h 1 (fsRest[1]!) (by kernel_rfl) (ft:=176) (off:=1) (w:=3) (by kernel_rfl) (by kernel_rfl) (by kernel_rfl)
  replace g1:DataW.trod enc Tryz.prog W 0 sp held n1 176 [a1,a2,a3]=some y1:=g1
  obtain⟨⟨c1,c2,c3,cu1⟩,⟨x1,x2,x3,xu1⟩,f1q,e1,hr1⟩:=rd_Rat W g1
  replace e1:[a1,a2,a3]=[Value.bool c1,Value.slice c2.a c2.n c2.c,Value.slice c3.a c3.n c3.c]:=e1
  simp only [List.cons.injEq,and_true] at e1
  obtain⟨rfl,rfl,rfl⟩:=e1
  obtain⟨ec1,hr1⟩:=hr1
  replace ec1:c1=x1:=ec1
  subst ec1
  obtain⟨f2,fr2,ec2,sc2,hr1⟩:=hr1
  subst ec2
  replace sc2:LR rI _ c2 x2 f2:=sc2
  obtain⟨f3,fr3,ec3,sc3,hr1⟩:=hr1
  subst ec3
  replace sc3:LR rI _ c3 x3 f3:=sc3
  exact⟨(c0,c1,c2,c3,()),(c0,c1,x2,x3,()),_,rfl,(rStr.mk zc0 (rBool.mk (rSl.mk sc2 (rSl.mk sc3 rNil.mk))))⟩
noncomputable def fsDec:Array Field:=match Tryz.prog.underlying 224 with | some (.struct fs)=>fs | _=>#[]
theorem rd_Dec (W:World):Rd Tryz.prog W 224 rDec:=by
 intro H enc sp held fuel cs x h
 have ht:Tryz.prog.underlying 224=some (.struct fsDec):=by kernel_rfl
 have hl:=rd_len ht h (k:=3) (by kernel_rfl)
 match cs,hl with
 | [a0,a1,a2],_ =>
  obtain⟨n0,y0,g0⟩:=rd_field ht h 0 (fsDec[0]!) (by kernel_rfl) (ft:=71) (off:=0) (w:=2) (by kernel_rfl) (by kernel_rfl) (by kernel_rfl)
  replace g0:DataW.trod enc Tryz.prog W 0 sp held n0 71 [a0,a1]=some y0:=g0
  obtain⟨⟨c0,c1,cu0⟩,⟨x0,x1,xu0⟩,f0q,e0,hr0⟩:=rd_Signed W g0
  replace e0:[a0,a1]=[Value.bool c0,Value.slice c1.a c1.n c1.c]:=e0
  simp only [List.cons.injEq,and_true] at e0
  obtain⟨rfl,rfl⟩:=e0
  obtain⟨ec0,hr0⟩:=hr0
  replace ec0:c0=x0:=ec0
  subst ec0
  obtain⟨f1,fr1,ec1,sc1,hr0⟩:=hr0
  subst ec1
  replace sc1:LR rI _ c1 x1 f1:=sc1
  obtain⟨n2,y2,g2⟩:=rd_field ht h 1 (fsDec[1]!) (by kernel_rfl) (ft:=3) (off:=2) (w:=1) (by kernel_rfl) (by kernel_rfl) (by kernel_rfl)
  replace g2:DataW.trod enc Tryz.prog W 0 sp held n2 3 [a2]=some y2:=g2
  obtain⟨c2,e2,_⟩:=DataW.trod_int (show Tryz.prog.underlying 3=some (.int .i64) by kernel_rfl) g2
  simp only [List.cons.injEq,and_true] at e2
  subst e2
  exact⟨(c0,c1,c2,()),(c0,x1,c2,()),_,rfl,(rBool.mk (rSl.mk sc1 (rInt.mk rNil.mk)))⟩
noncomputable def fsRate:Array Field:=match Tryz.prog.underlying 226 with | some (.struct fs)=>fs | _=>#[]
theorem rd_Rate (W:World):Rd Tryz.prog W 226 rRate:=by
 intro H enc sp held fuel cs x h
 have ht:Tryz.prog.underlying 226=some (.struct fsRate):=by kernel_rfl
 have hl:=rd_len ht h (k:=5) (by kernel_rfl)
 match cs,hl with
 | [a0,a1,a2,a3,a4],_ =>
  obtain⟨n0,y0,g0⟩:=rd_field ht h 0 (fsRate[0]!) (by kernel_rfl) (ft:=9) (off:=0) (w:=1) (by kernel_rfl) (by kernel_rfl) (by kernel_rfl)
  replace g0:DataW.trod enc Tryz.prog W 0 sp held n0 9 [a0]=some y0:=g0
  obtain⟨c0,e0,_,zc0⟩:=DataW.trod_string (show Tryz.prog.underlying 9=some .string by kernel_rfl) g0
  replace zc0:c0.size≤9223372036854775807:=zc0
  simp only [List.cons.injEq,and_true] at e0
  subst e0
  obtain⟨n1,y1,g1⟩:=rd_field ht h 1 (fsRate[1]!) (by kernel_rfl) (ft:=9) (off:=1) (w:=1) (by kernel_rfl) (by kernel_rfl) (by kernel_rfl)
  replace g1:DataW.trod enc Tryz.prog W 0 sp held n1 9 [a1]=some y1:=g1
  obtain⟨c1,e1,_,zc1⟩:=DataW.trod_string (show Tryz.prog.underlying 9=some .string by kernel_rfl) g1
  replace zc1:c1.size≤9223372036854775807:=zc1
  simp only [List.cons.injEq,and_true] at e1
  subst e1
  obtain⟨n2,y2,g2⟩:=rd_field ht h 2 (fsRate[2]!) (by kernel_rfl) (ft:=224) (off:=2) (w:=3) (by kernel_rfl) (by kernel_rfl) (by kernel_rfl)
  replace g2:DataW.trod enc Tryz.prog W 0 sp held n2 224 [a2,a3,a4]=some y2:=g2
  obtain⟨⟨c2,c3,c4,cu2⟩,⟨x2,x3,x4,xu2⟩,f2q,e2,hr2⟩:=rd_Dec W g2
  replace e2:[a2,a3,a4]=[Value.bool c2,Value.slice c3.a c3.n c3.c,Value.int .i64 c4]:=e2
  simp only [List.cons.injEq,and_true] at e2
  obtain⟨rfl,rfl,rfl⟩:=e2
  obtain⟨ec2,hr2⟩:=hr2
  replace ec2:c2=x2:=ec2
  subst ec2
  obtain⟨f3,fr3,ec3,sc3,hr2⟩:=hr2
  subst ec3
  replace sc3:LR rI _ c3 x3 f3:=sc3
  obtain⟨ec4,hr2⟩:=hr2
  replace ec4:c4=x4:=ec4
  subst ec4
  exact⟨(c0,c1,c2,c3,c4,()),(c0,c1,c2,x3,c4,()),_,rfl,(rStr.mk zc0 (rStr.mk zc1 (rBool.mk (rSl.mk sc3 (rInt.mk rNil.mk)))))⟩
noncomputable def fsRates:Array Field:=match Tryz.prog.underlying 67 with | some (.struct fs)=>fs | _=>#[]
theorem rd_Rates (W:World):Rd Tryz.prog W 67 rRates:=by
 intro H enc sp held fuel cs x h
 have ht:Tryz.prog.underlying 67=some (.struct fsRates):=by kernel_rfl
 have hl:=rd_len ht h (k:=2) (by kernel_rfl)
 match cs,hl with
 | [a0,a1],_ =>
  obtain⟨n0,y0,g0⟩:=rd_field ht h 0 (fsRates[0]!) (by kernel_rfl) (ft:=9) (off:=0) (w:=1) (by kernel_rfl) (by kernel_rfl) (by kernel_rfl)
  replace g0:DataW.trod enc Tryz.prog W 0 sp held n0 9 [a0]=some y0:=g0
  obtain⟨c0,e0,_,zc0⟩:=DataW.trod_string (show Tryz.prog.underlying 9=some .string by kernel_rfl) g0
  replace zc0:c0.size≤9223372036854775807:=zc0
  simp only [List.cons.injEq,and_true] at e0
  subst e0
  obtain⟨n1,y1,g1⟩:=rd_field ht h 1 (fsRates[1]!) (by kernel_rfl) (ft:=65) (off:=1) (w:=1) (by kernel_rfl) (by kernel_rfl) (by kernel_rfl)
  replace g1:DataW.trod enc Tryz.prog W 0 sp held n1 65 [a1]=some y1:=g1
  obtain⟨c1,x1,f1,e1,sc1⟩:=rd_slice (e:=226) (rd_Rate W) (by kernel_rfl) (by kernel_rfl) (by decide) g1
  simp only [List.cons.injEq,and_true] at e1
  subst e1
  exact⟨(c0,c1,()),(c0,x1,()),_,rfl,(rStr.mk zc0 (rSl.mk sc1 rNil.mk))⟩
noncomputable def fsLedger:Array Field:=match Tryz.prog.underlying 69 with | some (.struct fs)=>fs | _=>#[]
theorem rd_Ledger (W:World):Rd Tryz.prog W 69 rLedger:=by
 intro H enc sp held fuel cs x h
 have ht:Tryz.prog.underlying 69=some (.struct fsLedger):=by kernel_rfl
 have hl:=rd_len ht h (k:=4) (by kernel_rfl)
 match cs,hl with
 | [a0,a1,a2,a3],_ =>
  obtain⟨n0,y0,g0⟩:=rd_field ht h 0 (fsLedger[0]!) (by kernel_rfl) (ft:=63) (off:=0) (w:=1) (by kernel_rfl) (by kernel_rfl) (by kernel_rfl)
  replace g0:DataW.trod enc Tryz.prog W 0 sp held n0 63 [a0]=some y0:=g0
  obtain⟨⟨c0,cu0⟩,⟨x0,xu0⟩,f0q,e0,hr0⟩:=rd_Book W g0
  replace e0:[a0]=[Value.slice c0.a c0.n c0.c]:=e0
  simp only [List.cons.injEq,and_true] at e0
  subst e0
  obtain⟨f0,fr0,ec0,sc0,hr0⟩:=hr0
  subst ec0
  replace sc0:LR rAcct _ c0 x0 f0:=sc0
  obtain⟨n1,y1,g1⟩:=rd_field ht h 1 (fsLedger[1]!) (by kernel_rfl) (ft:=64) (off:=1) (w:=1) (by kernel_rfl) (by kernel_rfl) (by kernel_rfl)
  replace g1:DataW.trod enc Tryz.prog W 0 sp held n1 64 [a1]=some y1:=g1
  obtain⟨c1,x1,f1,e1,sc1⟩:=rd_slice (e:=178) (rd_Rest W) (by kernel_rfl) (by kernel_rfl) (by decide) g1
  simp only [List.cons.injEq,and_true] at e1
  subst e1
  obtain⟨n2,y2,g2⟩:=rd_field ht h 2 (fsLedger[2]!) (by kernel_rfl) (ft:=67) (off:=2) (w:=2) (by kernel_rfl) (by kernel_rfl) (by kernel_rfl)
  replace g2:DataW.trod enc Tryz.prog W 0 sp held n2 67 [a2,a3]=some y2:=g2
  obtain⟨⟨c2,c3,cu2⟩,⟨x2,x3,xu2⟩,f2q,e2,hr2⟩:=rd_Rates W g2
  replace e2:[a2,a3]=[Value.string c2,Value.slice c3.a c3.n c3.c]:=e2
  simp only [List.cons.injEq,and_true] at e2
  obtain⟨rfl,rfl⟩:=e2
  obtain⟨⟨ec2,zc2⟩,hr2⟩:=hr2
  replace ec2:c2=x2:=ec2
  subst ec2
  replace zc2:c2.size≤9223372036854775807:=zc2
  obtain⟨f3,fr3,ec3,sc3,hr2⟩:=hr2
  subst ec3
  replace sc3:LR rRate _ c3 x3 f3:=sc3
  exact⟨(c0,c1,c2,c3,()),(x0,x1,c2,x3,()),_,rfl,(rSl.mk sc0 (rSl.mk sc1 (rStr.mk zc2 (rSl.mk sc3 rNil.mk))))⟩
end Go.Proofs.YtfiakghfncempaaGreatDoor
