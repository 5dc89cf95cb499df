/-
  DERIVED. GIVEN WITH THE SEED: THE CARDS: each row of YtahmmgiiojjhgaaGreatDoorRows.lean that lists a variable, with what it lists TIED to the program's text (the seventh form; the later family's looks); each row that meets fmt, with fmt's text TOLD by the authors' own Lean function (tested against real Go, not proved from fmt's source: count such statements apart). THE CARD IS WHAT COUNTS. Prove the row's statement (the work); the ties are given (YtahmmgiiojjhgaaGreatDoorTie.lean); close each card by the builder's one call (the guide's Derived/Test/ToyasCard.lean, 'card_holds'). Laid BY PROGRAM, IN A SANDBOX (cutbox-door.mjs). By AI agents, Wed Nov 11 2026. No macro, syntax, notation, axiom, sorry.
-/
import Derived.Test.YtahmmgiiojjhgaaGreatDoorRows
import GoSem.ClaimSeven
namespace Go.Proofs.YtahmmgiiojjhgaaGreatDoor
namespace Rows

/-- THE TIED CARD OF 'laws.FnExactRebuilt'. -/
def fnExactRebuiltCard : Claim7 := { stood := { row := fnExactRebuiltRow, standIns := [], harness := (true, "4882ffed4feaedfc4871ce5c8225c85541c08c7ebe216b3690b5432d3e1d4ec1"), looks := true }, kinds := [], alts := [], laidByText := true, laidKinds := [.data, .data, .data, .data, .sentinel, .sentinel], laidTests := true, laidLooks := .later }
def FnExactRebuiltCardSaid : Prop := Claim7.holds Tryz.pinned (.plain (OpenSpec.ofChange fnExactRebuiltSpec)) fnExactRebuiltCard

/-- THE SECOND FORM's CARD OF 'laws.FnExactRebuilt'. -/
def fnExactRebuiltUptoCard : Claim7 := { stood := { row := fnExactRebuiltUptoRow, standIns := [], harness := (true, "4882ffed4feaedfc4871ce5c8225c85541c08c7ebe216b3690b5432d3e1d4ec1"), looks := true }, kinds := [], alts := [], laidByText := true, laidKinds := [.data, .data, .data, .data, .sentinel, .sentinel], laidTests := true, laidLooks := .later }
def FnExactRebuiltUptoCardSaid : Prop := Claim7.holds Tryz.pinned (.plain (OpenSpec.upto fnExactRebuiltSpec)) fnExactRebuiltUptoCard
end Rows
end Go.Proofs.YtahmmgiiojjhgaaGreatDoor
