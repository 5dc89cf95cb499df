/-
  DERIVED. GIVEN WITH THE SEED: THE CARDS: each row of YtceoihhldnnenaaGreatDoorRows.lean that lists a variable, with what it lists TIED to the program's text (the seventh form; the later family's looks); each row that meets fmt, with fmt's text TOLD by the authors' own Lean function (tested against real Go, not proved from fmt's source: count such statements apart). THE CARD IS WHAT COUNTS. Prove the row's statement (the work); the ties are given (YtceoihhldnnenaaGreatDoorTie.lean); close each card by the builder's one call (the guide's Derived/Test/ToyasCard.lean, 'card_holds'). Laid BY PROGRAM, IN A SANDBOX (cutbox-door.mjs). By AI agents, Wed Nov 11 2026. No macro, syntax, notation, axiom, sorry.
-/
import Derived.Test.YtceoihhldnnenaaGreatDoorRows
import GoSem.ClaimSeven
namespace Go.Proofs.YtceoihhldnnenaaGreatDoor
namespace Rows

/-- THE TIED CARD OF 'laws.FnExactDoCash'. -/
def fnExactDoCashCard : Claim7 := { stood := { row := fnExactDoCashRow, standIns := [], harness := (true, "76b044f4fcfc43edf6be5a5064f89d0c480955a6c508945d608412ad0d6aa561"), looks := true }, kinds := [], alts := [], laidByText := true, laidKinds := [.data], laidTests := true, laidLooks := .later }
def FnExactDoCashCardSaid : Prop := Claim7.holds Tryz.pinned (.plain (OpenSpec.ofChange fnExactDoCashSpec)) fnExactDoCashCard

/-- THE TIED CARD OF 'laws.FnExactDoTax'. -/
def fnExactDoTaxCard : Claim7 := { stood := { row := fnExactDoTaxRow, standIns := [], harness := (true, "76b044f4fcfc43edf6be5a5064f89d0c480955a6c508945d608412ad0d6aa561"), looks := true }, kinds := [], alts := [], laidByText := true, laidKinds := [.data], laidTests := true, laidLooks := .later }
def FnExactDoTaxCardSaid : Prop := Claim7.holds Tryz.pinned (.plain (OpenSpec.ofChange fnExactDoTaxSpec)) fnExactDoTaxCard

/-- THE TIED CARD OF 'laws.FnExactDoDeal'. -/
def fnExactDoDealCard : Claim7 := { stood := { row := fnExactDoDealRow, standIns := [], harness := (true, "76b044f4fcfc43edf6be5a5064f89d0c480955a6c508945d608412ad0d6aa561"), looks := true }, kinds := [], alts := [], laidByText := true, laidKinds := [.data], laidTests := true, laidLooks := .later }
def FnExactDoDealCardSaid : Prop := Claim7.holds Tryz.pinned (.plain (OpenSpec.ofChange fnExactDoDealSpec)) fnExactDoDealCard

/-- THE TIED CARD OF 'laws.FnExactDoSwap'. -/
def fnExactDoSwapCard : Claim7 := { stood := { row := fnExactDoSwapRow, standIns := [], harness := (true, "76b044f4fcfc43edf6be5a5064f89d0c480955a6c508945d608412ad0d6aa561"), looks := true }, kinds := [], alts := [], laidByText := true, laidKinds := [.data], laidTests := true, laidLooks := .later }
def FnExactDoSwapCardSaid : Prop := Claim7.holds Tryz.pinned (.plain (OpenSpec.ofChange fnExactDoSwapSpec)) fnExactDoSwapCard

/-- THE SECOND FORM's CARD OF 'laws.FnExactDoCash'. -/
def fnExactDoCashUptoCard : Claim7 := { stood := { row := fnExactDoCashUptoRow, standIns := [], harness := (true, "76b044f4fcfc43edf6be5a5064f89d0c480955a6c508945d608412ad0d6aa561"), looks := true }, kinds := [], alts := [], laidByText := true, laidKinds := [.data], laidTests := true, laidLooks := .later }
def FnExactDoCashUptoCardSaid : Prop := Claim7.holds Tryz.pinned (.plain (OpenSpec.upto fnExactDoCashSpec)) fnExactDoCashUptoCard

/-- THE SECOND FORM's CARD OF 'laws.FnExactDoTax'. -/
def fnExactDoTaxUptoCard : Claim7 := { stood := { row := fnExactDoTaxUptoRow, standIns := [], harness := (true, "76b044f4fcfc43edf6be5a5064f89d0c480955a6c508945d608412ad0d6aa561"), looks := true }, kinds := [], alts := [], laidByText := true, laidKinds := [.data], laidTests := true, laidLooks := .later }
def FnExactDoTaxUptoCardSaid : Prop := Claim7.holds Tryz.pinned (.plain (OpenSpec.upto fnExactDoTaxSpec)) fnExactDoTaxUptoCard

/-- THE SECOND FORM's CARD OF 'laws.FnExactDoDeal'. -/
def fnExactDoDealUptoCard : Claim7 := { stood := { row := fnExactDoDealUptoRow, standIns := [], harness := (true, "76b044f4fcfc43edf6be5a5064f89d0c480955a6c508945d608412ad0d6aa561"), looks := true }, kinds := [], alts := [], laidByText := true, laidKinds := [.data], laidTests := true, laidLooks := .later }
def FnExactDoDealUptoCardSaid : Prop := Claim7.holds Tryz.pinned (.plain (OpenSpec.upto fnExactDoDealSpec)) fnExactDoDealUptoCard

/-- THE SECOND FORM's CARD OF 'laws.FnExactDoSwap'. -/
def fnExactDoSwapUptoCard : Claim7 := { stood := { row := fnExactDoSwapUptoRow, standIns := [], harness := (true, "76b044f4fcfc43edf6be5a5064f89d0c480955a6c508945d608412ad0d6aa561"), looks := true }, kinds := [], alts := [], laidByText := true, laidKinds := [.data], laidTests := true, laidLooks := .later }
def FnExactDoSwapUptoCardSaid : Prop := Claim7.holds Tryz.pinned (.plain (OpenSpec.upto fnExactDoSwapSpec)) fnExactDoSwapUptoCard
end Rows
end Go.Proofs.YtceoihhldnnenaaGreatDoor
