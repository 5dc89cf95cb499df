/-
  The law of CmdOk.
-/
import Derived.Test.YtfbnocogljmpdaaGreatDoorCmdC
namespace Go.Proofs.YtfbnocogljmpdaaGreatDoor
open Sx
set_option maxRecDepth 100000

theorem law_CmdOk {V : Know} (hV : hasCur V) {c : Scs [.i .i64, .s, .s, .s, .s, .s, .b, .l, .i .i64, .l, .l, .b, .l, .i .i64, .s, .s, .b, .l, .i .i64]} {x : DCmd} {f : List Nat} (hx : rCmd.R V c x f) :
    CallX Tryz.prog V gL_FnExactCmdOk [Sh1.val (.g [.i .i64, .s, .s, .s, .s, .s, .b, .l, .i .i64, .l, .l, .b, .l, .i .i64, .s, .s, .b, .l, .i .i64]) c] (fun V' r => V.le V' ∧ r = .bool true) := by
  refine CallX.of_fits Tryz.mix (fL_FnExactCmdOk _) fun _ => ?_
  simp only [tL_FnExactCmdOk, T.wp]
  refine (cL_szCmd V c x f 1048576 hx (by omega) (by omega)).mono ?_
  rintro V1 r ⟨rfl, rfl⟩
  refine ⟨nofun, _, rfl, fun _ => ⟨Know.le.refl _, rfl⟩, fun h1 => ?_⟩
  have hp1 : ((rCmd.tot x : Nat) : Int) ≤ 1048576 := Decidable.not_not.1 fun k => (of_decide_eq_false h1) (szr_lt.2 k)
  have tx : rCmd.tot x ≤ 1048576 := by omega
  refine (cL_toCmd _ _ _ _ hx tx).mono ?_
  rintro V2 r ⟨le2, c2, f2, rfl, hr2, _⟩
  refine ⟨nofun, c2, rfl, (cS_CmdOk (V := V2) trivial c2 x f2 hr2 tx).mono ?_⟩
  rintro V3 r ⟨le3, b3, rfl, hb3⟩
  have l3 := le2.trans le3
  refine ⟨nofun, b3, rfl, (cL_toCmd _ _ _ _ (rCmd.le hx l3) tx).mono ?_⟩
  rintro V4 r ⟨le4, c4, f4, rfl, hr4, _⟩
  have l4 := l3.trans le4
  refine ⟨nofun, c4, rfl, (cI_CmdOk (HcI.le hV l4) c4 x f4 hr4).mono ?_⟩
  rintro V5 r ⟨le5, b5, rfl, hb5⟩
  have l5 := l4.trans le5
  have hbb : b5 = b3 := by
    have : b5 = true ↔ b3 = true := hb5.trans ((cmd_iff x).symm.trans hb3.symm)
    cases b5 <;> cases b3 <;> simp_all
  subst hbb
  refine ⟨nofun, b5, rfl, fun h => by simp at h, fun _ => ?_⟩
  refine (cL_toCmd _ _ _ _ (rCmd.le hx l5) tx).mono ?_
  rintro V6 r ⟨le6, c6, f6, rfl, hr6, _⟩
  refine ⟨fun _ => le6, c6, rfl, (cL_eqCmd _ _ _ _ _ _ _ (rCmd.le hr4 (le5.trans le6)) hr6).mono ?_⟩
  rintro V7 r ⟨rfl, b7, rfl, hb7⟩
  exact ⟨fun _ => Know.le.refl _, b7, rfl, (fun h => by simp [hb7.2 rfl] at h), (fun _ => ⟨l5.trans le6, rfl⟩)⟩
end Go.Proofs.YtfbnocogljmpdaaGreatDoor
