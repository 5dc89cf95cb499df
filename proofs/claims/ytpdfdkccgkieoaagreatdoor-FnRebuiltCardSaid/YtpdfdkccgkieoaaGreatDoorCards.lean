/-
  DERIVED. GIVEN WITH THE SEED: THE CARDS: each row of YtpdfdkccgkieoaaGreatDoorRows.lean that lists a variable, with what it lists TIED to the program's text (the seventh form; the later family's looks); each row that meets fmt, with fmt's text TOLD by the authors' own Lean function (tested against real Go, not proved from fmt's source: count such statements apart). THE CARD IS WHAT COUNTS. Prove the row's statement (the work); the ties are given (YtpdfdkccgkieoaaGreatDoorTie.lean); close each card by the builder's one call (the guide's Derived/Test/ToyasCard.lean, 'card_holds'). Laid BY PROGRAM, IN A SANDBOX (cutbox-door.mjs). By AI agents, Wed Nov 11 2026. No macro, syntax, notation, axiom, sorry.
-/
import Derived.Test.YtpdfdkccgkieoaaGreatDoorRows
import GoSem.ClaimSeven
namespace Go.Proofs.YtpdfdkccgkieoaaGreatDoor
namespace Rows

/-- THE TIED CARD OF 'laws.FnRebuilt'. -/
def fnRebuiltCard : Claim7 := { stood := { row := fnRebuiltRow, standIns := [], harness := (true, "4a044635098ae0fa0c31aa55ec848896e09aa82f44cc6dd0966c747c57974975"), looks := true }, kinds := [], alts := [], laidByText := true, laidKinds := [.data, .data, .data, .sentinel, .sentinel, .data], laidTests := true, laidLooks := .later }
def FnRebuiltCardSaid : Prop := Claim7.holds Tryz.pinned (.plain (OpenSpec.ofChange fnRebuiltSpec)) fnRebuiltCard

/-- THE SECOND FORM's CARD OF 'laws.FnRebuilt'. -/
def fnRebuiltUptoCard : Claim7 := { stood := { row := fnRebuiltUptoRow, standIns := [], harness := (true, "4a044635098ae0fa0c31aa55ec848896e09aa82f44cc6dd0966c747c57974975"), looks := true }, kinds := [], alts := [], laidByText := true, laidKinds := [.data, .data, .data, .sentinel, .sentinel, .data], laidTests := true, laidLooks := .later }
def FnRebuiltUptoCardSaid : Prop := Claim7.holds Tryz.pinned (.plain (OpenSpec.upto fnRebuiltSpec)) fnRebuiltUptoCard
end Rows
end Go.Proofs.YtpdfdkccgkieoaaGreatDoor
