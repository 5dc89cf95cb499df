/-
  DERIVED. GIVEN WITH THE SEED: THE CARDS: each row of YtagjmmpiglgmhaaGreatDoorRows.lean that lists a variable, with what it lists TIED to the program's text (the seventh form; the later family's looks); each row that meets fmt, with fmt's text TOLD by the authors' own Lean function (tested against real Go, not proved from fmt's source: count such statements apart). THE CARD IS WHAT COUNTS. Prove the row's statement (the work); the ties are given (YtagjmmpiglgmhaaGreatDoorTie.lean); close each card by the builder's one call (the guide's Derived/Test/ToyasCard.lean, 'card_holds'). Laid BY PROGRAM, IN A SANDBOX (cutbox-door.mjs). By AI agents, Wed Nov 11 2026. No macro, syntax, notation, axiom, sorry.
-/
import Derived.Test.YtagjmmpiglgmhaaGreatDoorRows
import GoSem.ClaimSeven
namespace Go.Proofs.YtagjmmpiglgmhaaGreatDoor
namespace Rows

/-- THE TIED CARD OF 'laws.FnExactConvert'. -/
def fnExactConvertCard : Claim7 := { stood := { row := fnExactConvertRow, standIns := [], harness := (true, "390296c1f0fe48b092e131a900769d8214a90a3f17790d0e11ac3226e3e9d150"), looks := true }, kinds := [], alts := [], laidByText := true, laidKinds := [.handle, .data], laidTests := true, laidLooks := .later }
def FnExactConvertCardSaid : Prop := Claim7.holds Tryz.pinned (.plain (OpenSpec.ofChange fnExactConvertSpec)) fnExactConvertCard

/-- THE TIED CARD OF 'laws.FnExactConvertSum'. -/
def fnExactConvertSumCard : Claim7 := { stood := { row := fnExactConvertSumRow, standIns := [], harness := (true, "390296c1f0fe48b092e131a900769d8214a90a3f17790d0e11ac3226e3e9d150"), looks := true }, kinds := [], alts := [], laidByText := true, laidKinds := [.handle, .data], laidTests := true, laidLooks := .later }
def FnExactConvertSumCardSaid : Prop := Claim7.holds Tryz.pinned (.plain (OpenSpec.ofChange fnExactConvertSumSpec)) fnExactConvertSumCard

/-- THE TIED CARD OF 'laws.FnExactWealth'. -/
def fnExactWealthCard : Claim7 := { stood := { row := fnExactWealthRow, standIns := [], harness := (true, "390296c1f0fe48b092e131a900769d8214a90a3f17790d0e11ac3226e3e9d150"), looks := true }, kinds := [], alts := [], laidByText := true, laidKinds := [.handle, .data], laidTests := true, laidLooks := .later }
def FnExactWealthCardSaid : Prop := Claim7.holds Tryz.pinned (.plain (OpenSpec.ofChange fnExactWealthSpec)) fnExactWealthCard

/-- THE SECOND FORM's CARD OF 'laws.FnExactConvert'. -/
def fnExactConvertUptoCard : Claim7 := { stood := { row := fnExactConvertUptoRow, standIns := [], harness := (true, "390296c1f0fe48b092e131a900769d8214a90a3f17790d0e11ac3226e3e9d150"), looks := true }, kinds := [], alts := [], laidByText := true, laidKinds := [.handle, .data], laidTests := true, laidLooks := .later }
def FnExactConvertUptoCardSaid : Prop := Claim7.holds Tryz.pinned (.plain (OpenSpec.upto fnExactConvertSpec)) fnExactConvertUptoCard

/-- THE SECOND FORM's CARD OF 'laws.FnExactConvertSum'. -/
def fnExactConvertSumUptoCard : Claim7 := { stood := { row := fnExactConvertSumUptoRow, standIns := [], harness := (true, "390296c1f0fe48b092e131a900769d8214a90a3f17790d0e11ac3226e3e9d150"), looks := true }, kinds := [], alts := [], laidByText := true, laidKinds := [.handle, .data], laidTests := true, laidLooks := .later }
def FnExactConvertSumUptoCardSaid : Prop := Claim7.holds Tryz.pinned (.plain (OpenSpec.upto fnExactConvertSumSpec)) fnExactConvertSumUptoCard

/-- THE SECOND FORM's CARD OF 'laws.FnExactWealth'. -/
def fnExactWealthUptoCard : Claim7 := { stood := { row := fnExactWealthUptoRow, standIns := [], harness := (true, "390296c1f0fe48b092e131a900769d8214a90a3f17790d0e11ac3226e3e9d150"), looks := true }, kinds := [], alts := [], laidByText := true, laidKinds := [.handle, .data], laidTests := true, laidLooks := .later }
def FnExactWealthUptoCardSaid : Prop := Claim7.holds Tryz.pinned (.plain (OpenSpec.upto fnExactWealthSpec)) fnExactWealthUptoCard
end Rows
end Go.Proofs.YtagjmmpiglgmhaaGreatDoor
