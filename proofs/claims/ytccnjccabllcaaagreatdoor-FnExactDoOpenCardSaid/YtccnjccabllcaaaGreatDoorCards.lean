/-
  DERIVED. GIVEN WITH THE SEED: THE CARDS: each row of YtccnjccabllcaaaGreatDoorRows.lean that lists a variable, with what it lists TIED to the program's text (the seventh form; the later family's looks); each row that meets fmt, with fmt's text TOLD by the authors' own Lean function (tested against real Go, not proved from fmt's source: count such statements apart). THE CARD IS WHAT COUNTS. Prove the row's statement (the work); the ties are given (YtccnjccabllcaaaGreatDoorTie.lean); close each card by the builder's one call (the guide's Derived/Test/ToyasCard.lean, 'card_holds'). Laid BY PROGRAM, IN A SANDBOX (cutbox-door.mjs). By AI agents, Wed Nov 11 2026. No macro, syntax, notation, axiom, sorry.
-/
import Derived.Test.YtccnjccabllcaaaGreatDoorRows
import GoSem.ClaimSeven
namespace Go.Proofs.YtccnjccabllcaaaGreatDoor
namespace Rows

/-- THE TIED CARD OF 'laws.FnExactDoOpen'. -/
def fnExactDoOpenCard : Claim7 := { stood := { row := fnExactDoOpenRow, standIns := [], harness := (true, "c34e631808b5cb7f927186af85a96cc35930c32b434ae26858776278dd517d80"), looks := false }, kinds := [], alts := [], laidByText := true, laidKinds := [.data], laidTests := true, laidLooks := .later }
def FnExactDoOpenCardSaid : Prop := Claim7.holds Tryz.pinned (.plain (OpenSpec.ofChange fnExactDoOpenSpec)) fnExactDoOpenCard

/-- THE TIED CARD OF 'laws.FnExactDoRate'. -/
def fnExactDoRateCard : Claim7 := { stood := { row := fnExactDoRateRow, standIns := [], harness := (true, "c34e631808b5cb7f927186af85a96cc35930c32b434ae26858776278dd517d80"), looks := false }, kinds := [], alts := [], laidByText := true, laidKinds := [.data], laidTests := true, laidLooks := .later }
def FnExactDoRateCardSaid : Prop := Claim7.holds Tryz.pinned (.plain (OpenSpec.ofChange fnExactDoRateSpec)) fnExactDoRateCard

/-- THE TIED CARD OF 'laws.FnExactDoPut'. -/
def fnExactDoPutCard : Claim7 := { stood := { row := fnExactDoPutRow, standIns := [], harness := (true, "c34e631808b5cb7f927186af85a96cc35930c32b434ae26858776278dd517d80"), looks := false }, kinds := [], alts := [], laidByText := true, laidKinds := [.data], laidTests := true, laidLooks := .later }
def FnExactDoPutCardSaid : Prop := Claim7.holds Tryz.pinned (.plain (OpenSpec.ofChange fnExactDoPutSpec)) fnExactDoPutCard

/-- THE TIED CARD OF 'laws.FnExactDoMove'. -/
def fnExactDoMoveCard : Claim7 := { stood := { row := fnExactDoMoveRow, standIns := [], harness := (true, "c34e631808b5cb7f927186af85a96cc35930c32b434ae26858776278dd517d80"), looks := false }, kinds := [], alts := [], laidByText := true, laidKinds := [.data], laidTests := true, laidLooks := .later }
def FnExactDoMoveCardSaid : Prop := Claim7.holds Tryz.pinned (.plain (OpenSpec.ofChange fnExactDoMoveSpec)) fnExactDoMoveCard

/-- THE TIED CARD OF 'laws.FnExactDoTake'. -/
def fnExactDoTakeCard : Claim7 := { stood := { row := fnExactDoTakeRow, standIns := [], harness := (true, "c34e631808b5cb7f927186af85a96cc35930c32b434ae26858776278dd517d80"), looks := false }, kinds := [], alts := [], laidByText := true, laidKinds := [.data], laidTests := true, laidLooks := .later }
def FnExactDoTakeCardSaid : Prop := Claim7.holds Tryz.pinned (.plain (OpenSpec.ofChange fnExactDoTakeSpec)) fnExactDoTakeCard

/-- THE SECOND FORM's CARD OF 'laws.FnExactDoOpen'. -/
def fnExactDoOpenUptoCard : Claim7 := { stood := { row := fnExactDoOpenUptoRow, standIns := [], harness := (true, "c34e631808b5cb7f927186af85a96cc35930c32b434ae26858776278dd517d80"), looks := false }, kinds := [], alts := [], laidByText := true, laidKinds := [.data], laidTests := true, laidLooks := .later }
def FnExactDoOpenUptoCardSaid : Prop := Claim7.holds Tryz.pinned (.plain (OpenSpec.upto fnExactDoOpenSpec)) fnExactDoOpenUptoCard

/-- THE SECOND FORM's CARD OF 'laws.FnExactDoRate'. -/
def fnExactDoRateUptoCard : Claim7 := { stood := { row := fnExactDoRateUptoRow, standIns := [], harness := (true, "c34e631808b5cb7f927186af85a96cc35930c32b434ae26858776278dd517d80"), looks := false }, kinds := [], alts := [], laidByText := true, laidKinds := [.data], laidTests := true, laidLooks := .later }
def FnExactDoRateUptoCardSaid : Prop := Claim7.holds Tryz.pinned (.plain (OpenSpec.upto fnExactDoRateSpec)) fnExactDoRateUptoCard

/-- THE SECOND FORM's CARD OF 'laws.FnExactDoPut'. -/
def fnExactDoPutUptoCard : Claim7 := { stood := { row := fnExactDoPutUptoRow, standIns := [], harness := (true, "c34e631808b5cb7f927186af85a96cc35930c32b434ae26858776278dd517d80"), looks := false }, kinds := [], alts := [], laidByText := true, laidKinds := [.data], laidTests := true, laidLooks := .later }
def FnExactDoPutUptoCardSaid : Prop := Claim7.holds Tryz.pinned (.plain (OpenSpec.upto fnExactDoPutSpec)) fnExactDoPutUptoCard

/-- THE SECOND FORM's CARD OF 'laws.FnExactDoMove'. -/
def fnExactDoMoveUptoCard : Claim7 := { stood := { row := fnExactDoMoveUptoRow, standIns := [], harness := (true, "c34e631808b5cb7f927186af85a96cc35930c32b434ae26858776278dd517d80"), looks := false }, kinds := [], alts := [], laidByText := true, laidKinds := [.data], laidTests := true, laidLooks := .later }
def FnExactDoMoveUptoCardSaid : Prop := Claim7.holds Tryz.pinned (.plain (OpenSpec.upto fnExactDoMoveSpec)) fnExactDoMoveUptoCard

/-- THE SECOND FORM's CARD OF 'laws.FnExactDoTake'. -/
def fnExactDoTakeUptoCard : Claim7 := { stood := { row := fnExactDoTakeUptoRow, standIns := [], harness := (true, "c34e631808b5cb7f927186af85a96cc35930c32b434ae26858776278dd517d80"), looks := false }, kinds := [], alts := [], laidByText := true, laidKinds := [.data], laidTests := true, laidLooks := .later }
def FnExactDoTakeUptoCardSaid : Prop := Claim7.holds Tryz.pinned (.plain (OpenSpec.upto fnExactDoTakeSpec)) fnExactDoTakeUptoCard
end Rows
end Go.Proofs.YtccnjccabllcaaaGreatDoor
