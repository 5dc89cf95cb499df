/-
  DERIVED. GIVEN WITH THE SEED: THE CARDS: each row of YtagimdcegmpbmaaDoorRows.lean that lists a variable, with what it lists TIED to the program's text (the seventh form; the later family's looks); each row that meets fmt, with fmt's text TOLD by the authors' own Lean function (tested against real Go, not proved from fmt's source: count such statements apart). THE CARD IS WHAT COUNTS. Prove the row's statement (the work); the ties are given (YtagimdcegmpbmaaDoorTie.lean); close each card by the builder's one call (the guide's Derived/Test/ToyasCard.lean, 'card_holds'). Laid BY PROGRAM, IN A SANDBOX (cutbox-door.mjs). By AI agents, Wed Nov 11 2026. No macro, syntax, notation, axiom, sorry.
-/
import Derived.Test.YtagimdcegmpbmaaDoorRows
import GoSem.ClaimSeven
namespace Go.Proofs.YtagimdcegmpbmaaDoor
namespace Rows

/-- THE TIED CARD OF 'laws.FnExactLedgerNew'. -/
def fnExactLedgerNewCard : Claim7 := { stood := { row := fnExactLedgerNewRow, standIns := [], harness := (true, "54eeaadba9643c0073e2459884f749111b6eafd43d9a161d0a55971e3c5d7d2b"), looks := false }, kinds := [], alts := [], laidByText := true, laidKinds := [.data], laidTests := true, laidLooks := .later }
def FnExactLedgerNewCardSaid : Prop := Claim7.holds Tryd.pinned (.plain (OpenSpec.ofChange fnExactLedgerNewSpec)) fnExactLedgerNewCard

/-- THE TIED CARD OF 'laws.FnExactHighest'. -/
def fnExactHighestCard : Claim7 := { stood := { row := fnExactHighestRow, standIns := [], harness := (true, "54eeaadba9643c0073e2459884f749111b6eafd43d9a161d0a55971e3c5d7d2b"), looks := false }, kinds := [], alts := [], laidByText := true, laidKinds := [.data], laidTests := true, laidLooks := .later }
def FnExactHighestCardSaid : Prop := Claim7.holds Tryd.pinned (.plain (OpenSpec.ofChange fnExactHighestSpec)) fnExactHighestCard

/-- THE TIED CARD OF 'laws.FnExactLowest'. -/
def fnExactLowestCard : Claim7 := { stood := { row := fnExactLowestRow, standIns := [], harness := (true, "54eeaadba9643c0073e2459884f749111b6eafd43d9a161d0a55971e3c5d7d2b"), looks := false }, kinds := [], alts := [], laidByText := true, laidKinds := [.data], laidTests := true, laidLooks := .later }
def FnExactLowestCardSaid : Prop := Claim7.holds Tryd.pinned (.plain (OpenSpec.ofChange fnExactLowestSpec)) fnExactLowestCard

/-- THE TIED CARD OF 'laws.FnExactDeskNew'. -/
def fnExactDeskNewCard : Claim7 := { stood := { row := fnExactDeskNewRow, standIns := [], harness := (true, "54eeaadba9643c0073e2459884f749111b6eafd43d9a161d0a55971e3c5d7d2b"), looks := false }, kinds := [], alts := [], laidByText := true, laidKinds := [.data], laidTests := true, laidLooks := .later }
def FnExactDeskNewCardSaid : Prop := Claim7.holds Tryd.pinned (.plain (OpenSpec.ofChange fnExactDeskNewSpec)) fnExactDeskNewCard

/-- THE SECOND FORM's CARD OF 'laws.FnExactLedgerNew'. -/
def fnExactLedgerNewUptoCard : Claim7 := { stood := { row := fnExactLedgerNewUptoRow, standIns := [], harness := (true, "54eeaadba9643c0073e2459884f749111b6eafd43d9a161d0a55971e3c5d7d2b"), looks := false }, kinds := [], alts := [], laidByText := true, laidKinds := [.data], laidTests := true, laidLooks := .later }
def FnExactLedgerNewUptoCardSaid : Prop := Claim7.holds Tryd.pinned (.plain (OpenSpec.upto fnExactLedgerNewSpec)) fnExactLedgerNewUptoCard

/-- THE SECOND FORM's CARD OF 'laws.FnExactHighest'. -/
def fnExactHighestUptoCard : Claim7 := { stood := { row := fnExactHighestUptoRow, standIns := [], harness := (true, "54eeaadba9643c0073e2459884f749111b6eafd43d9a161d0a55971e3c5d7d2b"), looks := false }, kinds := [], alts := [], laidByText := true, laidKinds := [.data], laidTests := true, laidLooks := .later }
def FnExactHighestUptoCardSaid : Prop := Claim7.holds Tryd.pinned (.plain (OpenSpec.upto fnExactHighestSpec)) fnExactHighestUptoCard

/-- THE SECOND FORM's CARD OF 'laws.FnExactLowest'. -/
def fnExactLowestUptoCard : Claim7 := { stood := { row := fnExactLowestUptoRow, standIns := [], harness := (true, "54eeaadba9643c0073e2459884f749111b6eafd43d9a161d0a55971e3c5d7d2b"), looks := false }, kinds := [], alts := [], laidByText := true, laidKinds := [.data], laidTests := true, laidLooks := .later }
def FnExactLowestUptoCardSaid : Prop := Claim7.holds Tryd.pinned (.plain (OpenSpec.upto fnExactLowestSpec)) fnExactLowestUptoCard

/-- THE SECOND FORM's CARD OF 'laws.FnExactDeskNew'. -/
def fnExactDeskNewUptoCard : Claim7 := { stood := { row := fnExactDeskNewUptoRow, standIns := [], harness := (true, "54eeaadba9643c0073e2459884f749111b6eafd43d9a161d0a55971e3c5d7d2b"), looks := false }, kinds := [], alts := [], laidByText := true, laidKinds := [.data], laidTests := true, laidLooks := .later }
def FnExactDeskNewUptoCardSaid : Prop := Claim7.holds Tryd.pinned (.plain (OpenSpec.upto fnExactDeskNewSpec)) fnExactDeskNewUptoCard
end Rows
end Go.Proofs.YtagimdcegmpbmaaDoor
