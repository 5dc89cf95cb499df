/-
  DERIVED. GIVEN WITH THE SEED: THE CARDS: each row of YtiadnlilmcdibaaGreatDoorRows.lean that lists a variable, with what it lists TIED to the program's text (the seventh form; the later family's looks); each row that meets fmt, with fmt's text TOLD by the authors' own Lean function (tested against real Go, not proved from fmt's source: count such statements apart). THE CARD IS WHAT COUNTS. Prove the row's statement (the work); the ties are given (YtiadnlilmcdibaaGreatDoorTie.lean); close each card by the builder's one call (the guide's Derived/Test/ToyasCard.lean, 'card_holds'). Laid BY PROGRAM, IN A SANDBOX (cutbox-door.mjs). By AI agents, Wed Nov 11 2026. No macro, syntax, notation, axiom, sorry.
-/
import Derived.Test.YtiadnlilmcdibaaGreatDoorRows
import GoSem.ClaimSeven
namespace Go.Proofs.YtiadnlilmcdibaaGreatDoor
namespace Rows

/-- THE TIED CARD OF 'laws.FnExactLedgerOk'. -/
def fnExactLedgerOkCard : Claim7 := { stood := { row := fnExactLedgerOkRow, standIns := [], harness := (true, "16bfa714269a1a510bdc04ea946a873df87e7cf1bbba26aae8854b2a5438233a"), looks := false }, kinds := [], alts := [], laidByText := true, laidKinds := [.data], laidTests := true, laidLooks := .later }
def FnExactLedgerOkCardSaid : Prop := Claim7.holds Tryz.pinned (.plain (OpenSpec.ofChange fnExactLedgerOkSpec)) fnExactLedgerOkCard

/-- THE TIED CARD OF 'laws.FnExactDeskOk'. -/
def fnExactDeskOkCard : Claim7 := { stood := { row := fnExactDeskOkRow, standIns := [], harness := (true, "16bfa714269a1a510bdc04ea946a873df87e7cf1bbba26aae8854b2a5438233a"), looks := false }, kinds := [], alts := [], laidByText := true, laidKinds := [.data], laidTests := true, laidLooks := .later }
def FnExactDeskOkCardSaid : Prop := Claim7.holds Tryz.pinned (.plain (OpenSpec.ofChange fnExactDeskOkSpec)) fnExactDeskOkCard

/-- THE TIED CARD OF 'laws.FnExactCmdOk'. -/
def fnExactCmdOkCard : Claim7 := { stood := { row := fnExactCmdOkRow, standIns := [], harness := (true, "16bfa714269a1a510bdc04ea946a873df87e7cf1bbba26aae8854b2a5438233a"), looks := false }, kinds := [], alts := [], laidByText := true, laidKinds := [.data], laidTests := true, laidLooks := .later }
def FnExactCmdOkCardSaid : Prop := Claim7.holds Tryz.pinned (.plain (OpenSpec.ofChange fnExactCmdOkSpec)) fnExactCmdOkCard

/-- THE SECOND FORM's CARD OF 'laws.FnExactLedgerOk'. -/
def fnExactLedgerOkUptoCard : Claim7 := { stood := { row := fnExactLedgerOkUptoRow, standIns := [], harness := (true, "16bfa714269a1a510bdc04ea946a873df87e7cf1bbba26aae8854b2a5438233a"), looks := false }, kinds := [], alts := [], laidByText := true, laidKinds := [.data], laidTests := true, laidLooks := .later }
def FnExactLedgerOkUptoCardSaid : Prop := Claim7.holds Tryz.pinned (.plain (OpenSpec.upto fnExactLedgerOkSpec)) fnExactLedgerOkUptoCard

/-- THE SECOND FORM's CARD OF 'laws.FnExactDeskOk'. -/
def fnExactDeskOkUptoCard : Claim7 := { stood := { row := fnExactDeskOkUptoRow, standIns := [], harness := (true, "16bfa714269a1a510bdc04ea946a873df87e7cf1bbba26aae8854b2a5438233a"), looks := false }, kinds := [], alts := [], laidByText := true, laidKinds := [.data], laidTests := true, laidLooks := .later }
def FnExactDeskOkUptoCardSaid : Prop := Claim7.holds Tryz.pinned (.plain (OpenSpec.upto fnExactDeskOkSpec)) fnExactDeskOkUptoCard

/-- THE SECOND FORM's CARD OF 'laws.FnExactCmdOk'. -/
def fnExactCmdOkUptoCard : Claim7 := { stood := { row := fnExactCmdOkUptoRow, standIns := [], harness := (true, "16bfa714269a1a510bdc04ea946a873df87e7cf1bbba26aae8854b2a5438233a"), looks := false }, kinds := [], alts := [], laidByText := true, laidKinds := [.data], laidTests := true, laidLooks := .later }
def FnExactCmdOkUptoCardSaid : Prop := Claim7.holds Tryz.pinned (.plain (OpenSpec.upto fnExactCmdOkSpec)) fnExactCmdOkUptoCard
end Rows
end Go.Proofs.YtiadnlilmcdibaaGreatDoor
