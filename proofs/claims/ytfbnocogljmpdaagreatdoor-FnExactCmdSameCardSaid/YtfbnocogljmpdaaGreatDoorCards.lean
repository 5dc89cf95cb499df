/-
  DERIVED. GIVEN WITH THE SEED: THE CARDS: each row of YtfbnocogljmpdaaGreatDoorRows.lean that lists a variable, with what it lists TIED to the program's text (the seventh form; the later family's looks); each row that meets fmt, with fmt's text TOLD by the authors' own Lean function (tested against real Go, not proved from fmt's source: count such statements apart). THE CARD IS WHAT COUNTS. Prove the row's statement (the work); the ties are given (YtfbnocogljmpdaaGreatDoorTie.lean); close each card by the builder's one call (the guide's Derived/Test/ToyasCard.lean, 'card_holds'). Laid BY PROGRAM, IN A SANDBOX (cutbox-door.mjs). By AI agents, Wed Nov 11 2026. No macro, syntax, notation, axiom, sorry.
-/
import Derived.Test.YtfbnocogljmpdaaGreatDoorRows
import GoSem.ClaimSeven
namespace Go.Proofs.YtfbnocogljmpdaaGreatDoor
namespace Rows

/-- THE TIED CARD OF 'laws.FnExactCmdOk'. -/
def fnExactCmdOkCard : Claim7 := { stood := { row := fnExactCmdOkRow, standIns := [], harness := (true, "4822a4a842dac9cca4da24763f6ca653128e4d3fc0566597eea35386105c5993"), looks := false }, kinds := [], alts := [], laidByText := true, laidKinds := [.data], laidTests := true, laidLooks := .later }
def FnExactCmdOkCardSaid : Prop := Claim7.holds Tryz.pinned (.plain (OpenSpec.ofChange fnExactCmdOkSpec)) fnExactCmdOkCard

/-- THE TIED CARD OF 'laws.FnExactCmdText'. -/
def fnExactCmdTextCard : Claim7 := { stood := { row := fnExactCmdTextRow, standIns := [], harness := (true, "4822a4a842dac9cca4da24763f6ca653128e4d3fc0566597eea35386105c5993"), looks := false }, kinds := [], alts := [], laidByText := true, laidKinds := [.data, .data, .data, .data], laidTests := true, laidLooks := .later }
def FnExactCmdTextCardSaid : Prop := Claim7.holds Tryz.pinned (.plain (OpenSpec.ofChange fnExactCmdTextSpec)) fnExactCmdTextCard

/-- THE TIED CARD OF 'laws.FnExactCmdSame'. -/
def fnExactCmdSameCard : Claim7 := { stood := { row := fnExactCmdSameRow, standIns := [], harness := (true, "4822a4a842dac9cca4da24763f6ca653128e4d3fc0566597eea35386105c5993"), looks := false }, kinds := [], alts := [], laidByText := true, laidKinds := [.data, .data, .data, .data], laidTests := true, laidLooks := .later }
def FnExactCmdSameCardSaid : Prop := Claim7.holds Tryz.pinned (.plain (OpenSpec.ofChange fnExactCmdSameSpec)) fnExactCmdSameCard

/-- THE SECOND FORM's CARD OF 'laws.FnExactCmdOk'. -/
def fnExactCmdOkUptoCard : Claim7 := { stood := { row := fnExactCmdOkUptoRow, standIns := [], harness := (true, "4822a4a842dac9cca4da24763f6ca653128e4d3fc0566597eea35386105c5993"), looks := false }, kinds := [], alts := [], laidByText := true, laidKinds := [.data], laidTests := true, laidLooks := .later }
def FnExactCmdOkUptoCardSaid : Prop := Claim7.holds Tryz.pinned (.plain (OpenSpec.upto fnExactCmdOkSpec)) fnExactCmdOkUptoCard

/-- THE SECOND FORM's CARD OF 'laws.FnExactCmdText'. -/
def fnExactCmdTextUptoCard : Claim7 := { stood := { row := fnExactCmdTextUptoRow, standIns := [], harness := (true, "4822a4a842dac9cca4da24763f6ca653128e4d3fc0566597eea35386105c5993"), looks := false }, kinds := [], alts := [], laidByText := true, laidKinds := [.data, .data, .data, .data], laidTests := true, laidLooks := .later }
def FnExactCmdTextUptoCardSaid : Prop := Claim7.holds Tryz.pinned (.plain (OpenSpec.upto fnExactCmdTextSpec)) fnExactCmdTextUptoCard

/-- THE SECOND FORM's CARD OF 'laws.FnExactCmdSame'. -/
def fnExactCmdSameUptoCard : Claim7 := { stood := { row := fnExactCmdSameUptoRow, standIns := [], harness := (true, "4822a4a842dac9cca4da24763f6ca653128e4d3fc0566597eea35386105c5993"), looks := false }, kinds := [], alts := [], laidByText := true, laidKinds := [.data, .data, .data, .data], laidTests := true, laidLooks := .later }
def FnExactCmdSameUptoCardSaid : Prop := Claim7.holds Tryz.pinned (.plain (OpenSpec.upto fnExactCmdSameSpec)) fnExactCmdSameUptoCard
end Rows
end Go.Proofs.YtfbnocogljmpdaaGreatDoor
