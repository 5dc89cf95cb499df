/-
  DERIVED. GIVEN WITH THE SEED: THE CARDS: each row of YtagkjnpggkmehaaGreatDoorRows.lean that lists a variable, with what it lists TIED to the program's text (the seventh form; the later family's looks); each row that meets fmt, with fmt's text TOLD by the authors' own Lean function (tested against real Go, not proved from fmt's source: count such statements apart). THE CARD IS WHAT COUNTS. Prove the row's statement (the work); the ties are given (YtagkjnpggkmehaaGreatDoorTie.lean); close each card by the builder's one call (the guide's Derived/Test/ToyasCard.lean, 'card_holds'). Laid BY PROGRAM, IN A SANDBOX (cutbox-door.mjs). By AI agents, Wed Nov 11 2026. No macro, syntax, notation, axiom, sorry.
-/
import Derived.Test.YtagkjnpggkmehaaGreatDoorRows
import GoSem.ClaimSeven
namespace Go.Proofs.YtagkjnpggkmehaaGreatDoor
namespace Rows

/-- THE TIED CARD OF 'laws.FnExactTextRests'. -/
def fnExactTextRestsCard : Claim7 := { stood := { row := fnExactTextRestsRow, standIns := [], harness := (true, "cb225c84ec1d4bb1ee6789552ed39be4e55f4683c7f3d9efa1fc3f3885478ddd"), looks := false }, kinds := [], alts := [], laidByText := true, laidKinds := [.data, .data, .data, .data, .data, .pinned], laidTests := true, laidLooks := .later }
def FnExactTextRestsCardSaid : Prop := Claim7.holds Tryz.pinned (.plain (OpenSpec.ofChange fnExactTextRestsSpec)) fnExactTextRestsCard

/-- THE TIED CARD OF 'laws.FnRests'. -/
def fnRestsCard : Claim7 := { stood := { row := fnRestsRow, standIns := [], harness := (true, "cb225c84ec1d4bb1ee6789552ed39be4e55f4683c7f3d9efa1fc3f3885478ddd"), looks := false }, kinds := [], alts := [], laidByText := true, laidKinds := [.data, .data, .data, .data, .data, .pinned], laidTests := true, laidLooks := .later }
def FnRestsCardSaid : Prop := Claim7.holds Tryz.pinned (.plain (OpenSpec.ofChange fnRestsSpec)) fnRestsCard

/-- THE TIED CARD OF 'laws.FnExactTextLedger'. -/
def fnExactTextLedgerCard : Claim7 := { stood := { row := fnExactTextLedgerRow, standIns := [], harness := (true, "cb225c84ec1d4bb1ee6789552ed39be4e55f4683c7f3d9efa1fc3f3885478ddd"), looks := false }, kinds := [], alts := [], laidByText := true, laidKinds := [.data, .data, .data, .data], laidTests := true, laidLooks := .later }
def FnExactTextLedgerCardSaid : Prop := Claim7.holds Tryz.pinned (.plain (OpenSpec.ofChange fnExactTextLedgerSpec)) fnExactTextLedgerCard

/-- THE TIED CARD OF 'laws.FnState'. -/
def fnStateCard : Claim7 := { stood := { row := fnStateRow, standIns := [], harness := (true, "cb225c84ec1d4bb1ee6789552ed39be4e55f4683c7f3d9efa1fc3f3885478ddd"), looks := false }, kinds := [], alts := [], laidByText := true, laidKinds := [.data, .data, .data, .data], laidTests := true, laidLooks := .later }
def FnStateCardSaid : Prop := Claim7.holds Tryz.pinned (.plain (OpenSpec.ofChange fnStateSpec)) fnStateCard

/-- THE SECOND FORM's CARD OF 'laws.FnExactTextRests'. -/
def fnExactTextRestsUptoCard : Claim7 := { stood := { row := fnExactTextRestsUptoRow, standIns := [], harness := (true, "cb225c84ec1d4bb1ee6789552ed39be4e55f4683c7f3d9efa1fc3f3885478ddd"), looks := false }, kinds := [], alts := [], laidByText := true, laidKinds := [.data, .data, .data, .data, .data, .pinned], laidTests := true, laidLooks := .later }
def FnExactTextRestsUptoCardSaid : Prop := Claim7.holds Tryz.pinned (.plain (OpenSpec.upto fnExactTextRestsSpec)) fnExactTextRestsUptoCard

/-- THE SECOND FORM's CARD OF 'laws.FnRests'. -/
def fnRestsUptoCard : Claim7 := { stood := { row := fnRestsUptoRow, standIns := [], harness := (true, "cb225c84ec1d4bb1ee6789552ed39be4e55f4683c7f3d9efa1fc3f3885478ddd"), looks := false }, kinds := [], alts := [], laidByText := true, laidKinds := [.data, .data, .data, .data, .data, .pinned], laidTests := true, laidLooks := .later }
def FnRestsUptoCardSaid : Prop := Claim7.holds Tryz.pinned (.plain (OpenSpec.upto fnRestsSpec)) fnRestsUptoCard

/-- THE SECOND FORM's CARD OF 'laws.FnExactTextLedger'. -/
def fnExactTextLedgerUptoCard : Claim7 := { stood := { row := fnExactTextLedgerUptoRow, standIns := [], harness := (true, "cb225c84ec1d4bb1ee6789552ed39be4e55f4683c7f3d9efa1fc3f3885478ddd"), looks := false }, kinds := [], alts := [], laidByText := true, laidKinds := [.data, .data, .data, .data], laidTests := true, laidLooks := .later }
def FnExactTextLedgerUptoCardSaid : Prop := Claim7.holds Tryz.pinned (.plain (OpenSpec.upto fnExactTextLedgerSpec)) fnExactTextLedgerUptoCard

/-- THE SECOND FORM's CARD OF 'laws.FnState'. -/
def fnStateUptoCard : Claim7 := { stood := { row := fnStateUptoRow, standIns := [], harness := (true, "cb225c84ec1d4bb1ee6789552ed39be4e55f4683c7f3d9efa1fc3f3885478ddd"), looks := false }, kinds := [], alts := [], laidByText := true, laidKinds := [.data, .data, .data, .data], laidTests := true, laidLooks := .later }
def FnStateUptoCardSaid : Prop := Claim7.holds Tryz.pinned (.plain (OpenSpec.upto fnStateSpec)) fnStateUptoCard
end Rows
end Go.Proofs.YtagkjnpggkmehaaGreatDoor
