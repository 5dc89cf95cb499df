/-
  The laws of CmdText and CmdSame.
-/
import Derived.Test.YtfbnocogljmpdaaGreatDoorCmdV
namespace Go.Proofs.YtfbnocogljmpdaaGreatDoor
open Sx
set_option maxRecDepth 100000

theorem law_CmdText {V : Know} (hV : HtI V) {c : Scs [.i .i64, .s, .s, .s, .s, .s, .b, .l, .i .i64, .l, .l, .b, .l, .i .i64, .s, .s, .b, .l, .i .i64]} {x : DCmd} {f : List Nat} (hx : rCmd.R V c x f) :
    CallX Tryz.prog V gL_FnExactCmdText [Sh1.val (.g [.i .i64, .s, .s, .s, .s, .s, .b, .l, .i .i64, .l, .l, .b, .l, .i .i64, .s, .s, .b, .l, .i .i64]) c] (fun V' r => V.le V' ∧ r = .bool true) := by
  refine CallX.of_fits Tryz.mix (fL_FnExactCmdText _) fun _ => ?_
  simp only [tL_FnExactCmdText, T.wp]
  refine (cL_szCmd V c x f 1048576 hx (by omega) (by omega)).mono ?_
  rintro V1 r ⟨rfl, rfl⟩
  refine ⟨nofun, _, rfl, fun _ => ⟨Know.le.refl _, rfl⟩, fun h1 => ?_⟩
  have hp1 : ((rCmd.tot x : Nat) : Int) ≤ 1048576 := Decidable.not_not.1 fun k => (of_decide_eq_false h1) (szr_lt.2 k)
  have tx : rCmd.tot x ≤ 1048576 := by omega
  refine (cL_toCmd _ _ _ _ hx tx).mono ?_
  rintro V2 r ⟨le2, c2, f2, rfl, hr2, _⟩
  refine ⟨nofun, c2, rfl, (cS_CmdText (V := V2) trivial c2 x f2 hr2 tx).mono ?_⟩
  rintro V3 _ ⟨le3, rfl⟩
  have l3 := le2.trans le3
  refine ⟨nofun, _, rfl, (cL_toCmd _ _ _ _ (rCmd.le hx l3) tx).mono ?_⟩
  rintro V4 r ⟨le4, c4, f4, rfl, hr4, _⟩
  have l4 := l3.trans le4
  refine ⟨nofun, c4, rfl, (cI_CmdText (HtI.le hV l4) c4 x f4 hr4 tx).mono ?_⟩
  rintro V5 _ ⟨le5, rfl⟩
  have l5 := l4.trans le5
  refine ⟨nofun, _, rfl, fun h => by simp at h, fun _ => ?_⟩
  refine (cL_toCmd _ _ _ _ (rCmd.le hx l5) tx).mono ?_
  rintro V6 r ⟨le6, c6, f6, rfl, hr6, _⟩
  refine ⟨fun _ => le6, c6, rfl, (cL_eqCmd _ _ _ _ _ _ _ (rCmd.le hr4 (le5.trans le6)) hr6).mono ?_⟩
  rintro V7 r ⟨rfl, b7, rfl, hb7⟩
  exact ⟨fun _ => Know.le.refl _, b7, rfl, (fun h => by simp [hb7.2 rfl] at h), (fun _ => ⟨l5.trans le6, rfl⟩)⟩
def SameP (x y : DCmd) : Prop := CmdP x ∧ CmdP y ∧ okT (CmdP x) (cmdT x) = okT (CmdP y) (cmdT y)
theorem cS_CmdSame {V : Know} (hV : HtS V) (c d : Scs [.i .i64, .s, .s, .s, .s, .s, .b, .l, .i .i64, .l, .l, .b, .l, .i .i64, .s, .s, .b, .l, .i .i64]) (x y : DCmd) (f g : List Nat) (hx : rCmd.R V c x f) (hy : rCmd.R V d y g) (tx : rCmd.tot x ≤ 1048576) (ty : rCmd.tot y ≤ 1048576) :
    CallX Tryz.prog V gS_CmdSame [Sh1.val (.g [.i .i64, .s, .s, .s, .s, .s, .b, .l, .i .i64, .l, .l, .b, .l, .i .i64, .s, .s, .b, .l, .i .i64]) c, Sh1.val (.g [.i .i64, .s, .s, .s, .s, .s, .b, .l, .i .i64, .l, .l, .b, .l, .i .i64, .s, .s, .b, .l, .i .i64]) d] (OkPost V (SameP x y)) := by
  refine CallX.of_fits Tryz.mix (fS_CmdSame _ _) fun _ => ?_
  simp only [tS_CmdSame, T.wp]
  refine (cS_CmdOk hV c x f hx tx).mono ?_
  rintro V1 r ⟨le1, e1, rfl, he1⟩
  rw [cmd_iff] at he1
  refine ⟨fun _ => le1, e1, rfl, fun ht1 => (cS_CmdOk (V := V1) trivial d y g (rCmd.le hy le1) ty).mono ?_, fun hf => not_ok le1 fun k => bf' he1 hf k.1⟩
  rintro V2 r ⟨le2, e2, rfl, he2⟩
  rw [cmd_iff] at he2
  have l2 := le1.trans le2
  refine ⟨fun _ => le2, e2, rfl, fun ht2 => (cS_CmdText (V := V2) trivial c x f (rCmd.le hx l2) tx).mono ?_, fun hf => not_ok l2 fun k => bf' he2 hf k.2.1⟩
  rintro V3 _ ⟨le3, rfl⟩
  have l3 := l2.trans le3
  refine ⟨fun _ => le3, _, rfl, (cS_CmdText (V := V3) trivial d y g (rCmd.le hy l3) ty).mono ?_⟩
  rintro V4 _ ⟨le4, rfl⟩
  exact ⟨fun _ => le4, _, rfl, l3.trans le4, _, rfl, ⟨fun k => ⟨he1.1 ht1, he2.1 ht2, text_eq.1 k⟩, fun k => text_eq.2 k.2.2⟩⟩
theorem cI_CmdSame {V : Know} (hV : HtI V) (c d : Scs [.i .i64, .s, .s, .s, .s, .s, .b, .l, .i .i64, .l, .l, .b, .l, .i .i64, .s, .s, .b, .l, .i .i64]) (x y : DCmd) (f g : List Nat) (hx : rCmd.R V c x f) (hy : rCmd.R V d y g) (tx : rCmd.tot x ≤ 1048576) (ty : rCmd.tot y ≤ 1048576) :
    CallX Tryz.prog V gI_CmdSame [Sh1.val (.g [.i .i64, .s, .s, .s, .s, .s, .b, .l, .i .i64, .l, .l, .b, .l, .i .i64, .s, .s, .b, .l, .i .i64]) c, Sh1.val (.g [.i .i64, .s, .s, .s, .s, .s, .b, .l, .i .i64, .l, .l, .b, .l, .i .i64, .s, .s, .b, .l, .i .i64]) d] (OkPost V (SameP x y)) := by
  refine CallX.of_fits Tryz.mix (fI_CmdSame _ _) fun _ => ?_
  simp only [tI_CmdSame, T.wp]
  refine (cI_CmdOk hV.c c x f hx).mono ?_
  rintro V1 r ⟨le1, e1, rfl, he1⟩
  refine ⟨fun _ => le1, e1, rfl, fun ht1 => (cI_CmdOk (HtI.le hV le1).c d y g (rCmd.le hy le1)).mono ?_, fun hf => not_ok le1 fun k => bf' he1 hf k.1⟩
  rintro V2 r ⟨le2, e2, rfl, he2⟩
  have l2 := le1.trans le2
  refine ⟨fun _ => le2, e2, rfl, fun ht2 => (cI_CmdText (HtI.le hV l2) c x f (rCmd.le hx l2) tx).mono ?_, fun hf => not_ok l2 fun k => bf' he2 hf k.2.1⟩
  rintro V3 _ ⟨le3, rfl⟩
  have l3 := l2.trans le3
  refine ⟨fun _ => le3, _, rfl, (cI_CmdText (HtI.le hV l3) d y g (rCmd.le hy l3) ty).mono ?_⟩
  rintro V4 _ ⟨le4, rfl⟩
  exact ⟨fun _ => le4, _, rfl, l3.trans le4, _, rfl, ⟨fun k => ⟨he1.1 ht1, he2.1 ht2, text_eq.1 k⟩, fun k => text_eq.2 k.2.2⟩⟩
theorem law_CmdSame {V : Know} (hV : HtI V) {c d : Scs [.i .i64, .s, .s, .s, .s, .s, .b, .l, .i .i64, .l, .l, .b, .l, .i .i64, .s, .s, .b, .l, .i .i64]} {x y : DCmd} {f g : List Nat} (hx : rCmd.R V c x f) (hy : rCmd.R V d y g) :
    CallX Tryz.prog V gL_FnExactCmdSame [Sh1.val (.g [.i .i64, .s, .s, .s, .s, .s, .b, .l, .i .i64, .l, .l, .b, .l, .i .i64, .s, .s, .b, .l, .i .i64]) c, Sh1.val (.g [.i .i64, .s, .s, .s, .s, .s, .b, .l, .i .i64, .l, .l, .b, .l, .i .i64, .s, .s, .b, .l, .i .i64]) d] (fun V' r => V.le V' ∧ r = .bool true) := by
  refine CallX.of_fits Tryz.mix (fL_FnExactCmdSame _ _) fun _ => ?_
  simp only [tL_FnExactCmdSame, T.wp]
  refine (cL_szCmd V c x f 1048576 hx (by omega) (by omega)).mono ?_
  rintro V1 r ⟨rfl, rfl⟩
  refine ⟨nofun, _, rfl, fun _ => ⟨Know.le.refl _, rfl⟩, fun h1 => ?_⟩
  have hp1 : ((rCmd.tot x : Nat) : Int) ≤ 1048576 := Decidable.not_not.1 fun k => (of_decide_eq_false h1) (szr_lt.2 k)
  have tx : rCmd.tot x ≤ 1048576 := by omega
  have e1 := szr_ge hp1
  refine (cL_szCmd V1 d y g _ hy (by rw [e1]; omega) (by rw [e1]; omega)).mono ?_
  rintro V2 r ⟨rfl, rfl⟩
  refine ⟨nofun, _, rfl, fun _ => ⟨Know.le.refl _, rfl⟩, fun h2 => ?_⟩
  have hp2 : ((rCmd.tot y : Nat) : Int) ≤ szr (rCmd.tot x) 1048576 := Decidable.not_not.1 fun k => (of_decide_eq_false h2) (szr_lt.2 k)
  have ty : rCmd.tot y ≤ 1048576 := by rw [e1] at hp2; omega
  refine (cL_toCmd _ _ _ _ hx tx).mono ?_
  rintro V3 r ⟨le3, c3, f3, rfl, hr3, _⟩
  refine ⟨fun _ => le3, c3, rfl, (cL_toCmd _ _ _ _ (rCmd.le hy le3) ty).mono ?_⟩
  rintro V4 r ⟨le4, c4, f4, rfl, hr4, _⟩
  have l4 := le3.trans le4
  refine ⟨fun _ => le4, c4, rfl, (cS_CmdSame (V := V4) trivial c3 c4 x y f3 f4 (rCmd.le hr3 le4) hr4 tx ty).mono ?_⟩
  rintro V5 r ⟨le5, b5, rfl, hb5⟩
  have l5 := l4.trans le5
  refine ⟨fun _ => le5, b5, rfl, (cL_toCmd _ _ _ _ (rCmd.le hx l5) tx).mono ?_⟩
  rintro V6 r ⟨le6, c6, f6, rfl, hr6, _⟩
  have l6 := l5.trans le6
  refine ⟨nofun, c6, rfl, (cL_toCmd _ _ _ _ (rCmd.le hy l6) ty).mono ?_⟩
  rintro V7 r ⟨le7, c7, f7, rfl, hr7, _⟩
  have l7 := l6.trans le7
  refine ⟨nofun, c7, rfl, (cI_CmdSame (HtI.le hV l7) c6 c7 x y f6 f7 (rCmd.le hr6 le7) hr7 tx ty).mono ?_⟩
  rintro V8 r ⟨le8, b8, rfl, hb8⟩
  have l8 := l7.trans le8
  have hbb : b8 = b5 := by
    have : b8 = true ↔ b5 = true := hb8.trans hb5.symm
    cases b8 <;> cases b5 <;> simp_all
  subst hbb
  refine ⟨nofun, b8, rfl, fun h => by simp at h, fun _ => ?_⟩
  refine (cL_toCmd _ _ _ _ (rCmd.le hx l8) tx).mono ?_
  rintro V9 r ⟨le9, c9, f9, rfl, hr9, _⟩
  have l9 := l8.trans le9
  refine ⟨fun _ => le9, c9, rfl, (cL_eqCmd _ _ _ _ _ _ _ (rCmd.le hr6 ((le7.trans le8).trans le9)) hr9).mono ?_⟩
  rintro V10 r ⟨rfl, b10, rfl, hb10⟩
  refine ⟨fun _ => Know.le.refl _, b10, rfl, (fun h => by simp [hb10.2 rfl] at h), fun _ => ?_⟩
  refine (cL_toCmd _ _ _ _ (rCmd.le hy l9) ty).mono ?_
  rintro V11 r ⟨le11, c11, f11, rfl, hr11, _⟩
  refine ⟨fun _ => le11, c11, rfl, (cL_eqCmd _ _ _ _ _ _ _ (rCmd.le hr7 ((le8.trans le9).trans le11)) hr11).mono ?_⟩
  rintro V12 r ⟨rfl, b12, rfl, hb12⟩
  exact ⟨fun _ => Know.le.refl _, b12, rfl, (fun h => by simp [hb12.2 rfl] at h), (fun _ => ⟨l9.trans le11, rfl⟩)⟩
end Go.Proofs.YtfbnocogljmpdaaGreatDoor
