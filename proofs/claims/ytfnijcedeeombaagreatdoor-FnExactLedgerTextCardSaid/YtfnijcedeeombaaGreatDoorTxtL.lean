/-
  The law of LedgerText: both sides write the same text.
-/
import Derived.Test.YtfnijcedeeombaaGreatDoorTxtD
namespace Go.Proofs.YtfnijcedeeombaaGreatDoor
open Sx
set_option maxRecDepth 100000

theorem law_LedgerText {V : Know} (hV : HtI V) {c : Scs [.l, .l, .s, .l]} {x : DLedger} {f : List Nat} (hx : rLedger.R V c x f) :
    CallX Tryz.prog V gL_FnExactLedgerText [Sh1.val (.g [.l, .l, .s, .l]) c] (fun V' r => V.le V' ∧ r = .bool true) := by
  refine CallX.of_fits Tryz.mix (fL_FnExactLedgerText _) fun _ => ?_
  simp only [tL_FnExactLedgerText, T.wp]
  refine (cL_szLedger V c x f 1048576 hx (by omega) (by omega)).mono ?_
  rintro V1 r ⟨rfl, rfl⟩
  refine ⟨nofun, _, rfl, fun _ => ⟨Know.le.refl _, rfl⟩, fun h1 => ?_⟩
  have hp1 : ((rLedger.tot x : Nat) : Int) ≤ 1048576 := Decidable.not_not.1 fun k => (of_decide_eq_false h1) (szr_lt.2 k)
  have tx : rLedger.tot x ≤ 1048576 := by omega
  refine (cL_toLedger _ _ _ _ hx tx).mono ?_
  rintro V2 r ⟨le2, c2, f2, rfl, hr2, _⟩
  refine ⟨nofun, c2, rfl, (cS_LedgerText (V := V2) trivial c2 x f2 hr2 tx).mono ?_⟩
  rintro V3 _ ⟨le3, rfl⟩
  have l3 := le2.trans le3
  refine ⟨nofun, _, rfl, (cL_toLedger _ _ _ _ (rLedger.le hx l3) tx).mono ?_⟩
  rintro V4 r ⟨le4, c4, f4, rfl, hr4, _⟩
  have l4 := l3.trans le4
  refine ⟨nofun, c4, rfl, (cI_LedgerText (hV.le l4) c4 x f4 hr4 tx).mono ?_⟩
  rintro V5 _ ⟨le5, rfl⟩
  have l5 := l4.trans le5
  refine ⟨nofun, _, rfl, fun h => by simp at h, fun _ => ?_⟩
  refine (cL_toLedger _ _ _ _ (rLedger.le hx l5) tx).mono ?_
  rintro V6 r ⟨le6, c6, f6, rfl, hr6, _⟩
  refine ⟨fun _ => le6, c6, rfl, (cL_eqLedger _ _ _ _ _ _ _ (rLedger.le hr4 (le5.trans le6)) hr6).mono ?_⟩
  rintro V7 r ⟨rfl, b7, rfl, hb7⟩
  exact ⟨fun _ => Know.le.refl _, b7, rfl, (fun h => by simp [hb7.2 rfl] at h), (fun _ => ⟨l5.trans le6, rfl⟩)⟩
end Go.Proofs.YtfnijcedeeombaaGreatDoor
