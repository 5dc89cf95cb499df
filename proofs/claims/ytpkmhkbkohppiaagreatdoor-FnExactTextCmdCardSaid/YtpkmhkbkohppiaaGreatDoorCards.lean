/-
  DERIVED. GIVEN WITH THE SEED: THE CARDS: each row of YtpkmhkbkohppiaaGreatDoorRows.lean that lists a variable, with what it lists TIED to the program's text (the seventh form; the later family's looks); each row that meets fmt, with fmt's text TOLD by the authors' own Lean function (tested against real Go, not proved from fmt's source: count such statements apart). THE CARD IS WHAT COUNTS. Prove the row's statement (the work); the ties are given (YtpkmhkbkohppiaaGreatDoorTie.lean); close each card by the builder's one call (the guide's Derived/Test/ToyasCard.lean, 'card_holds'). Laid BY PROGRAM, IN A SANDBOX (cutbox-door.mjs). By AI agents, Wed Nov 11 2026. No macro, syntax, notation, axiom, sorry.
-/
import Derived.Test.YtpkmhkbkohppiaaGreatDoorRows
import GoSem.ClaimSeven
namespace Go.Proofs.YtpkmhkbkohppiaaGreatDoor
namespace Rows

/-- THE TIED CARD OF 'laws.FnExactTextCmd'. -/
def fnExactTextCmdCard : Claim7 := { stood := { row := fnExactTextCmdRow, standIns := [], harness := (true, "e15d0cc92c6e56ba64d49d23ae0e32e53c6a9bc167a2efdc9a8e71c2b10c2b97"), looks := true }, kinds := [], alts := [], laidByText := true, laidKinds := [.data, .data, .data, .sentinel, .sentinel, .data], laidTests := true, laidLooks := .later }
def FnExactTextCmdCardSaid : Prop := Claim7.holds Tryz.pinned (.plain (OpenSpec.ofChange fnExactTextCmdSpec)) fnExactTextCmdCard

/-- THE SECOND FORM's CARD OF 'laws.FnExactTextCmd'. -/
def fnExactTextCmdUptoCard : Claim7 := { stood := { row := fnExactTextCmdUptoRow, standIns := [], harness := (true, "e15d0cc92c6e56ba64d49d23ae0e32e53c6a9bc167a2efdc9a8e71c2b10c2b97"), looks := true }, kinds := [], alts := [], laidByText := true, laidKinds := [.data, .data, .data, .sentinel, .sentinel, .data], laidTests := true, laidLooks := .later }
def FnExactTextCmdUptoCardSaid : Prop := Claim7.holds Tryz.pinned (.plain (OpenSpec.upto fnExactTextCmdSpec)) fnExactTextCmdUptoCard
end Rows
end Go.Proofs.YtpkmhkbkohppiaaGreatDoor
