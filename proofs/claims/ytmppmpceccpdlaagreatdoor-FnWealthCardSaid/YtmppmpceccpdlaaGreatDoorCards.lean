/-
  DERIVED. GIVEN WITH THE SEED: THE CARDS: each row of YtmppmpceccpdlaaGreatDoorRows.lean that lists a variable, with what it lists TIED to the program's text (the seventh form; the later family's looks); each row that meets fmt, with fmt's text TOLD by the authors' own Lean function (tested against real Go, not proved from fmt's source: count such statements apart). THE CARD IS WHAT COUNTS. Prove the row's statement (the work); the ties are given (YtmppmpceccpdlaaGreatDoorTie.lean); close each card by the builder's one call (the guide's Derived/Test/ToyasCard.lean, 'card_holds'). Laid BY PROGRAM, IN A SANDBOX (cutbox-door.mjs). By AI agents, Wed Nov 11 2026. No macro, syntax, notation, axiom, sorry.
-/
import Derived.Test.YtmppmpceccpdlaaGreatDoorRows
import GoSem.ClaimSeven
namespace Go.Proofs.YtmppmpceccpdlaaGreatDoor
namespace Rows

/-- THE TIED CARD OF 'laws.FnSwap'. -/
def fnSwapCard : Claim7 := { stood := { row := fnSwapRow, standIns := [], harness := (true, "edf7305f59e94fd355cbb0da89c9949d16c3a35f804825427748988137d22cfb"), looks := true }, kinds := [], alts := [], laidByText := true, laidKinds := [.handle, .data], laidTests := true, laidLooks := .later }
def FnSwapCardSaid : Prop := Claim7.holds Tryz.pinned (.plain (OpenSpec.ofChange fnSwapSpec)) fnSwapCard

/-- THE TIED CARD OF 'laws.FnSum'. -/
def fnSumCard : Claim7 := { stood := { row := fnSumRow, standIns := [], harness := (true, "edf7305f59e94fd355cbb0da89c9949d16c3a35f804825427748988137d22cfb"), looks := true }, kinds := [], alts := [], laidByText := true, laidKinds := [.handle, .data], laidTests := true, laidLooks := .later }
def FnSumCardSaid : Prop := Claim7.holds Tryz.pinned (.plain (OpenSpec.ofChange fnSumSpec)) fnSumCard

/-- THE TIED CARD OF 'laws.FnWealth'. -/
def fnWealthCard : Claim7 := { stood := { row := fnWealthRow, standIns := [], harness := (true, "edf7305f59e94fd355cbb0da89c9949d16c3a35f804825427748988137d22cfb"), looks := true }, kinds := [], alts := [], laidByText := true, laidKinds := [.handle, .data], laidTests := true, laidLooks := .later }
def FnWealthCardSaid : Prop := Claim7.holds Tryz.pinned (.plain (OpenSpec.ofChange fnWealthSpec)) fnWealthCard

/-- THE SECOND FORM's CARD OF 'laws.FnSwap'. -/
def fnSwapUptoCard : Claim7 := { stood := { row := fnSwapUptoRow, standIns := [], harness := (true, "edf7305f59e94fd355cbb0da89c9949d16c3a35f804825427748988137d22cfb"), looks := true }, kinds := [], alts := [], laidByText := true, laidKinds := [.handle, .data], laidTests := true, laidLooks := .later }
def FnSwapUptoCardSaid : Prop := Claim7.holds Tryz.pinned (.plain (OpenSpec.upto fnSwapSpec)) fnSwapUptoCard

/-- THE SECOND FORM's CARD OF 'laws.FnSum'. -/
def fnSumUptoCard : Claim7 := { stood := { row := fnSumUptoRow, standIns := [], harness := (true, "edf7305f59e94fd355cbb0da89c9949d16c3a35f804825427748988137d22cfb"), looks := true }, kinds := [], alts := [], laidByText := true, laidKinds := [.handle, .data], laidTests := true, laidLooks := .later }
def FnSumUptoCardSaid : Prop := Claim7.holds Tryz.pinned (.plain (OpenSpec.upto fnSumSpec)) fnSumUptoCard

/-- THE SECOND FORM's CARD OF 'laws.FnWealth'. -/
def fnWealthUptoCard : Claim7 := { stood := { row := fnWealthUptoRow, standIns := [], harness := (true, "edf7305f59e94fd355cbb0da89c9949d16c3a35f804825427748988137d22cfb"), looks := true }, kinds := [], alts := [], laidByText := true, laidKinds := [.handle, .data], laidTests := true, laidLooks := .later }
def FnWealthUptoCardSaid : Prop := Claim7.holds Tryz.pinned (.plain (OpenSpec.upto fnWealthSpec)) fnWealthUptoCard
end Rows
end Go.Proofs.YtmppmpceccpdlaaGreatDoor
