/-
  DERIVED. GIVEN WITH THE SEED: THE CARDS: each row of YtikhpnlglkipcaaGreatDoorRows.lean that lists a variable, with what it lists TIED to the program's text (the seventh form; the later family's looks); each row that meets fmt, with fmt's text TOLD by the authors' own Lean function (tested against real Go, not proved from fmt's source: count such statements apart). THE CARD IS WHAT COUNTS. Prove the row's statement (the work); the ties are given (YtikhpnlglkipcaaGreatDoorTie.lean); close each card by the builder's one call (the guide's Derived/Test/ToyasCard.lean, 'card_holds'). Laid BY PROGRAM, IN A SANDBOX (cutbox-door.mjs). By AI agents, Wed Nov 11 2026. No macro, syntax, notation, axiom, sorry.
-/
import Derived.Test.YtikhpnlglkipcaaGreatDoorRows
import GoSem.ClaimSeven
namespace Go.Proofs.YtikhpnlglkipcaaGreatDoor
namespace Rows

/-- THE TIED CARD OF 'laws.FnExactTotalOf'. -/
def fnExactTotalOfCard : Claim7 := { stood := { row := fnExactTotalOfRow, standIns := [], harness := (true, "f96ec60c810f604680548c85e869c76c797d35a8933911890aee619f6ba9449f"), looks := false }, kinds := [], alts := [], laidByText := true, laidKinds := [.data], laidTests := true, laidLooks := .later }
def FnExactTotalOfCardSaid : Prop := Claim7.holds Tryz.pinned (.plain (OpenSpec.ofChange fnExactTotalOfSpec)) fnExactTotalOfCard

/-- THE SECOND FORM's CARD OF 'laws.FnExactTotalOf'. -/
def fnExactTotalOfUptoCard : Claim7 := { stood := { row := fnExactTotalOfUptoRow, standIns := [], harness := (true, "f96ec60c810f604680548c85e869c76c797d35a8933911890aee619f6ba9449f"), looks := false }, kinds := [], alts := [], laidByText := true, laidKinds := [.data], laidTests := true, laidLooks := .later }
def FnExactTotalOfUptoCardSaid : Prop := Claim7.holds Tryz.pinned (.plain (OpenSpec.upto fnExactTotalOfSpec)) fnExactTotalOfUptoCard
end Rows
end Go.Proofs.YtikhpnlglkipcaaGreatDoor
