/-
  The walk of the law: the program's DoOpen returns what the reference's returns.
-/
import Derived.Test.YtccnjccabllcaaaGreatDoorOpenB
import Derived.Test.YtccnjccabllcaaaGreatDoorMkZ
namespace Go.Proofs.YtccnjccabllcaaaGreatDoor
open Sx
set_option maxRecDepth 100000
theorem law_DoOpen {V:Know} (hV:HcI V) {c0:Scs [.l,.l,.s,.l]} {x0:DLedger} {f0:List Nat} (h0:rLedger.R V c0 x0 f0) (a1:ByteArray) (a2:ByteArray) :
  CallX Tryz.prog V gL_FnExactDoOpen [Sh1.val (.g [.l,.l,.s,.l]) c0,.string a1,.string a2] (fun V' r=>V.le V'∧r=.bool true):=by
 refine CallX.of_fits Tryz.mix (fL_FnExactDoOpen _ _ _) fun _=>?_
 simp only [tL_FnExactDoOpen,T.wp]
 refine⟨fun _=>⟨(Know.le.refl _),rfl⟩,fun hs1=>?_⟩
 have sz1:a1.size≤1048576:=by
  have:=of_decide_eq_false hs1
  omega
 refine⟨fun _=>⟨(Know.le.refl _),rfl⟩,fun hs2=>?_⟩
 have sz2:a2.size≤1048576:=by
  have:=of_decide_eq_false hs2
  omega
 refine(cL_szLedger _ _ _ _ 1048576 h0 (by omega) (by omega)).mono ?_
 rintro V1 _ ⟨rfl,rfl⟩
 refine⟨nofun,_,rfl,fun _=>⟨Know.le.refl _,rfl⟩,fun hz0=>?_⟩
 have hp0:((rLedger.tot x0:Nat):Int)≤1048576:=Decidable.not_not.1 fun k=>(of_decide_eq_false hz0) (szr_lt.2 k)
 have tx0:rLedger.tot x0≤1048576:=by omega
 refine(cL_toLedger _ _ _ _ h0 tx0).mono ?_
 rintro V2 _ ⟨le2,d2,g2,rfl,H2,O2⟩
 refine⟨fun _=>le2,_,rfl,?_⟩
 have l2:=le2
 refine(uS_DoOpen trivial _ _ _ H2 tx0 a1 sz1 a2 sz2).mono ?_
 rintro V3 _ ⟨le3,wc0,wx0,wf0,wz1,rfl,Rw0,Ow,hw⟩
 refine⟨fun _=>le3,(wc0,wz1,()),rfl,?_⟩
 have l3:=l2.trans le3
 refine(cL_toLedger _ _ _ _ (rLedger.le h0 l3) tx0).mono ?_
 rintro V4 _ ⟨le4,d4,g4,rfl,H4,O4⟩
 refine⟨fun _=>le4,_,rfl,?_⟩
 have nX0:∀ b∈g4,V1 b=none:=fun b hb=>none_of_le l3 (O4.2.1 b hb)
 have mX0:∀ b∈g4,V3 b=none:=fun b hb=>none_of_le (Know.le.refl _) (O4.2.1 b hb)
 have l4:=l3.trans le4
 have lw4:=le4
 have X0:=H4
 have wX0:=O4.2.2
 have ndX0:=O4.1
 obtain⟨fX0,eX0⟩:∃ fX,fX=g4:=⟨_,rfl⟩
 rw [← eX0] at X0 wX0 ndX0 nX0 mX0
 refine(uI_DoOpen (HcI.le hV l4) _ _ _ X0 tx0 a1 sz1 a2 sz2).mono ?_
 rintro V5 _ ⟨le5,gc0,gx0,gf0,gz1,rfl,Rg0,Og,hg⟩
 refine⟨fun _=>le5,(gc0,gz1,()),rfl,?_⟩
 have nG0:∀ b∈gf0,V1 b=none:=fun b hb=>none_of_le l4 (Og.2.1 b hb)
 have mG0:∀ b∈gf0,V3 b=none:=fun b hb=>none_of_le lw4 (Og.2.1 b hb)
 have dG0x0:∀ b∈gf0,b ∉ fX0:=fun b hb hx=>by
  obtain⟨z,hz⟩:=rLedger.kn X0 b hx
  rw [Og.2.1 b hb] at hz; cases hz
 have dX0g0:∀ b∈fX0,b ∉ gf0:=fun b h1 h2=>dG0x0 b h2 h1
 have l5:=l4.trans le5
 have lw5:=lw4.trans le5
 replace X0:=(rLedger.le X0 le5)
 replace wX0:=wX0.le le5
 obtain⟨eg0,eg1⟩:=do_inj hw hg
 subst eg0
 subst eg1
 have G0:=Rg0
 have wG0:=Og.2.2
 have ndG0:=Og.1
 have tg0:rLedger.tot wx0≤1048576:=ans_tot (ans_perf openRun_ans) hw
 refine(cL_eqLedger _ _ _ _ _ _ _ G0 (rLedger.le Rw0 lw5)).mono ?_
 rintro V6 _ ⟨rfl,b6,rfl,hb6⟩
 refine⟨fun _=>Know.le.refl _,b6,rfl,(fun h=>by simp [hb6.2 rfl] at h),fun _=>?_⟩
 refine⟨(fun h=>by simp at h),fun _=>?_⟩
 refine(cL_toLedger _ _ _ _ (rLedger.le h0 l5) tx0).mono ?_
 rintro V7 _ ⟨le7,d7,g7,rfl,H7,O7⟩
 refine⟨fun _=>le7,_,rfl,?_⟩
 have l7:=l5.trans le7
 have lw7:=lw5.trans le7
 replace X0:=(rLedger.le X0 le7)
 replace wX0:=wX0.le le7
 replace G0:=(rLedger.le G0 le7)
 replace wG0:=wG0.le le7
 refine(cL_eqLedger _ _ _ _ _ _ _ X0 H7).mono ?_
 rintro V8 _ ⟨rfl,b8,rfl,hb8⟩
 refine⟨fun _=>Know.le.refl _,b8,rfl,(fun h=>by simp [hb8.2 rfl] at h),fun _=>?_⟩
 refine(mkC_Ledger _ _ _ _ 1 X0 ndX0 wX0 tx0 (by omega) (by omega)).mono ?_
 rintro V9 _ ⟨B9,k9,rfl,p9,q9⟩
 refine⟨nofun,_,rfl,?_⟩
 have l9:=le_but l7 nX0 B9
 have lw9:=le_but lw7 mX0 B9
 replace G0:=(rLedger.but G0 dG0x0 B9)
 replace wG0:=wG0.but dG0x0 B9
 have hk:¬ (1+k9)<0:=by omega
 refine⟨fun h=>absurd (of_decide_eq_true h) hk,fun _=>?_⟩
 refine(cL_eqLedger _ _ _ _ _ _ _ G0 (rLedger.le Rw0 lw9)).mono ?_
 rintro V10 _ ⟨rfl,b10,rfl,hb10⟩
 refine⟨fun _=>Know.le.refl _,b10,rfl,(fun h=>by simp [hb10.2 rfl] at h),fun _=>?_⟩
 refine⟨(fun h=>by simp at h),fun _=>?_⟩
 refine(mkH_Ledger _ _ _ _ 1 G0 ndG0 wG0 tg0 (by omega) (by omega)).mono ?_
 rintro V11 _ ⟨B11,WG0,m0,rfl,p11,q11,held0⟩
 refine⟨nofun,_,rfl,?_⟩
 have l11:=le_but l9 nG0 B11
 have lw11:=le_but lw9 mG0 B11
 have ke0:∀ b∈gf0,V11 b=V11 b:=fun _ _=>rfl
 obtain⟨kV0,ek0⟩:∃ U,U=V11:=⟨_,rfl⟩
 rw [← ek0] at WG0 held0
 replace ke0:∀ b∈gf0,V11 b=kV0 b:=fun b hb=>by rw [ek0]
 refine(held0 _ ke0).mono ?_
 rintro V12 _ ⟨le12,rfl⟩
 have hn12:¬ (1+m0)<0:=by omega
 refine⟨nofun,_,rfl,fun h=>absurd (of_decide_eq_true h) hn12,fun _=>?_⟩
 have l12:=l11.trans le12
 have lw12:=lw11.trans le12
 replace ke0:=ke_le WG0 ke0 le12
 refine⟨(fun h=>by simp at h),fun _=>?_⟩
 refine(cL_toLedger _ _ _ _ (rLedger.le h0 l12) tx0).mono ?_
 rintro V13 _ ⟨le13,d13,g13,rfl,H13,O13⟩
 refine⟨fun _=>le13,_,rfl,?_⟩
 have l13:=l12.trans le13
 have lw13:=lw12.trans le13
 replace ke0:=ke_le WG0 ke0 le13
 refine(uI_DoOpen (HcI.le hV l13) _ _ _ H13 tx0 a1 sz1 a2 sz2).mono ?_
 rintro V14 _ ⟨le14,qc0,qx0,qf0,qz1,rfl,Rq0,Oq,hq⟩
 refine⟨fun _=>le14,(qc0,qz1,()),rfl,?_⟩
 have l14:=l13.trans le14
 have lw14:=lw13.trans le14
 replace ke0:=ke_le WG0 ke0 le14
 obtain⟨eq0,eq1⟩:=do_inj hw hq
 subst eq0
 subst eq1
 refine(cL_eqLedger _ _ _ _ _ _ _ Rq0 (rLedger.le Rw0 lw14)).mono ?_
 rintro V15 _ ⟨rfl,b15,rfl,hb15⟩
 refine⟨fun _=>Know.le.refl _,b15,rfl,(fun h=>by simp [hb15.2 rfl] at h),fun _=>?_⟩
 refine⟨(fun h=>by simp at h),fun _=>?_⟩
 refine(held0 _ ke0).mono ?_
 rintro V16 _ ⟨le16,rfl⟩
 have hn16:¬ (1+m0)<0:=by omega
 refine⟨nofun,_,rfl,fun h=>absurd (of_decide_eq_true h) hn16,fun _=>?_⟩
 have l16:=l14.trans le16
 have lw16:=lw14.trans le16
 replace ke0:=ke_le WG0 ke0 le16
 refine⟨(fun h=>by simp at h),fun _=>?_⟩
 exact⟨l16,rfl⟩
end Go.Proofs.YtccnjccabllcaaaGreatDoor
