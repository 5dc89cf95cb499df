/-
  DERIVED. GIVEN WITH THE SEED: THE CARDS: each row of YtfnijcedeeombaaGreatDoorRows.lean that lists a variable, with what it lists TIED to the program's text (the seventh form; the later family's looks); each row that meets fmt, with fmt's text TOLD by the authors' own Lean function (tested against real Go, not proved from fmt's source: count such statements apart). THE CARD IS WHAT COUNTS. Prove the row's statement (the work); the ties are given (YtfnijcedeeombaaGreatDoorTie.lean); close each card by the builder's one call (the guide's Derived/Test/ToyasCard.lean, 'card_holds'). Laid BY PROGRAM, IN A SANDBOX (cutbox-door.mjs). By AI agents, Wed Nov 11 2026. No macro, syntax, notation, axiom, sorry.
-/
import Derived.Test.YtfnijcedeeombaaGreatDoorRows
import GoSem.ClaimSeven
namespace Go.Proofs.YtfnijcedeeombaaGreatDoor
namespace Rows

/-- THE TIED CARD OF 'laws.FnExactLedgerText'. -/
def fnExactLedgerTextCard : Claim7 := { stood := { row := fnExactLedgerTextRow, standIns := [], harness := (true, "3ea1f88d557d96c9b7fedc12dc78961c261cd8e9945129871dd471d7631eafb1"), looks := false }, kinds := [], alts := [], laidByText := true, laidKinds := [.data, .data, .data, .data], laidTests := true, laidLooks := .later }
def FnExactLedgerTextCardSaid : Prop := Claim7.holds Tryz.pinned (.plain (OpenSpec.ofChange fnExactLedgerTextSpec)) fnExactLedgerTextCard

/-- THE SECOND FORM's CARD OF 'laws.FnExactLedgerText'. -/
def fnExactLedgerTextUptoCard : Claim7 := { stood := { row := fnExactLedgerTextUptoRow, standIns := [], harness := (true, "3ea1f88d557d96c9b7fedc12dc78961c261cd8e9945129871dd471d7631eafb1"), looks := false }, kinds := [], alts := [], laidByText := true, laidKinds := [.data, .data, .data, .data], laidTests := true, laidLooks := .later }
def FnExactLedgerTextUptoCardSaid : Prop := Claim7.holds Tryz.pinned (.plain (OpenSpec.upto fnExactLedgerTextSpec)) fnExactLedgerTextUptoCard
end Rows
end Go.Proofs.YtfnijcedeeombaaGreatDoor
