/-
  DERIVED. GIVEN WITH THE SEED: THE CARDS: each row of YtfiakghfncempaaGreatDoorRows.lean that lists a variable, with what it lists TIED to the program's text (the seventh form; the later family's looks); each row that meets fmt, with fmt's text TOLD by the authors' own Lean function (tested against real Go, not proved from fmt's source: count such statements apart). THE CARD IS WHAT COUNTS. Prove the row's statement (the work); the ties are given (YtfiakghfncempaaGreatDoorTie.lean); close each card by the builder's one call (the guide's Derived/Test/ToyasCard.lean, 'card_holds'). Laid BY PROGRAM, IN A SANDBOX (cutbox-door.mjs). By AI agents, Wed Nov 11 2026. No macro, syntax, notation, axiom, sorry.
-/
import Derived.Test.YtfiakghfncempaaGreatDoorRows
import GoSem.ClaimSeven
namespace Go.Proofs.YtfiakghfncempaaGreatDoor
namespace Rows

/-- THE TIED CARD OF 'laws.FnCash'. -/
def fnCashCard : Claim7 := { stood := { row := fnCashRow, standIns := [], harness := (true, "1c660b4457e0d5e6bb0a72d25eb65f8431eb8e706d142efb5573e20fecbddf0e"), looks := false }, kinds := [], alts := [], laidByText := true, laidKinds := [.data], laidTests := true, laidLooks := .later }
def FnCashCardSaid : Prop := Claim7.holds Tryz.pinned (.plain (OpenSpec.ofChange fnCashSpec)) fnCashCard

/-- THE TIED CARD OF 'laws.FnExactDoDeal'. -/
def fnExactDoDealCard : Claim7 := { stood := { row := fnExactDoDealRow, standIns := [], harness := (true, "1c660b4457e0d5e6bb0a72d25eb65f8431eb8e706d142efb5573e20fecbddf0e"), looks := false }, kinds := [], alts := [], laidByText := true, laidKinds := [.data], laidTests := true, laidLooks := .later }
def FnExactDoDealCardSaid : Prop := Claim7.holds Tryz.pinned (.plain (OpenSpec.ofChange fnExactDoDealSpec)) fnExactDoDealCard

/-- THE SECOND FORM's CARD OF 'laws.FnCash'. -/
def fnCashUptoCard : Claim7 := { stood := { row := fnCashUptoRow, standIns := [], harness := (true, "1c660b4457e0d5e6bb0a72d25eb65f8431eb8e706d142efb5573e20fecbddf0e"), looks := false }, kinds := [], alts := [], laidByText := true, laidKinds := [.data], laidTests := true, laidLooks := .later }
def FnCashUptoCardSaid : Prop := Claim7.holds Tryz.pinned (.plain (OpenSpec.upto fnCashSpec)) fnCashUptoCard

/-- THE SECOND FORM's CARD OF 'laws.FnExactDoDeal'. -/
def fnExactDoDealUptoCard : Claim7 := { stood := { row := fnExactDoDealUptoRow, standIns := [], harness := (true, "1c660b4457e0d5e6bb0a72d25eb65f8431eb8e706d142efb5573e20fecbddf0e"), looks := false }, kinds := [], alts := [], laidByText := true, laidKinds := [.data], laidTests := true, laidLooks := .later }
def FnExactDoDealUptoCardSaid : Prop := Claim7.holds Tryz.pinned (.plain (OpenSpec.upto fnExactDoDealSpec)) fnExactDoDealUptoCard
end Rows
end Go.Proofs.YtfiakghfncempaaGreatDoor
