/-
  No cell of these rows narrows 'for every input' (looked for: loops, veiled, ifaces, maps, wideKeys, modest, calm, conditions, laid).
  DERIVED. THE GIVEN ROWS OF THIS SEAT. 3 by the template 'for every input the law returns true; each argument reads behind the call as it read before'; 0 by the template 'total and deterministic' (their statements: YtchkglmbbfhahaaTotals.lean).
  GIVEN WITH THE SEED: the statements are not yours to turn. If you find one false, say at which input.
  Laid BY PROGRAM, IN A SANDBOX (cutbox-rows.mjs): the forced cells as the released guide's own fill.sh prints them over the translation 64e9cacf3ab2935f… (all of the seat's roots in one cut). By AI agents, Wed Nov 11 2026. No macro, syntax, notation, axiom, sorry.
-/
import Derived.Test.YtchkglmbbfhahaaChecked
import GoSem.Claim
import GoSem.ClaimJoined
import GoSem.ClaimMapViews
import Derived.JoinedTies
import Derived.KernelRfl
namespace Go.Proofs.Ytchkglmbbfhahaa
/- THE CELL 'sum', in the pinned program and in every row, IS THE sha256 OF THE DUMP (.gsa) THAT YtchkglmbbfhahaaProg.lean LOADS. Nothing in Lean hashes anything: it is a label: what it is worth is what the hold of that sum in a sandbox is worth. -/
noncomputable def Try.pinned : Pinned := { name := "ytchkglmbbfhahaa", sum := "64e9cacf3ab2935fe878b9988913996014dcac01a583a7f243725592d728b580", checked := Try.checked }
namespace Rows
def none {H : Type} : Left H := { results := [], args := [] }

/-- 'laws.FnExactLcName': WHATEVER THE INPUT: true; the input reads as it did. -/
def fnExactLcNameSpec : ChangeSpec := { name := "fnExactLcName", fn := fun _ => fun
  | [d] => { results := [.lit (.bool true)], args := [d] }
  | _ => none }
def fnExactLcNameRow : OpenClaim := { program := "ytchkglmbbfhahaa", sum := "64e9cacf3ab2935fe878b9988913996014dcac01a583a7f243725592d728b580", func := "loop.example/g00793/laws.FnExactLcName", spec := "fnExactLcName", apart := false }
def FnExactLcNameSaid : Prop := fnExactLcNameRow.holds Try.pinned (OpenSpec.ofChange fnExactLcNameSpec)

/-- ITS FALSE NEIGHBOUR: 'it returns false'. Refute it at one input. -/
def fnExactLcNameWrong : ChangeSpec := { name := "fnExactLcName", fn := fun _ => fun
  | [d] => { results := [.lit (.bool false)], args := [d] }
  | _ => none }
def FnExactLcNameWrongFalsely : Prop := fnExactLcNameRow.holds Try.pinned (OpenSpec.ofChange fnExactLcNameWrong)

/-- 'laws.FnExactOpName': WHATEVER THE INPUT: true; the input reads as it did. -/
def fnExactOpNameSpec : ChangeSpec := { name := "fnExactOpName", fn := fun _ => fun
  | [d] => { results := [.lit (.bool true)], args := [d] }
  | _ => none }
def fnExactOpNameRow : OpenClaim := { program := "ytchkglmbbfhahaa", sum := "64e9cacf3ab2935fe878b9988913996014dcac01a583a7f243725592d728b580", func := "loop.example/g00793/laws.FnExactOpName", spec := "fnExactOpName", apart := false }
def FnExactOpNameSaid : Prop := fnExactOpNameRow.holds Try.pinned (OpenSpec.ofChange fnExactOpNameSpec)

/-- ITS FALSE NEIGHBOUR: 'it returns false'. Refute it at one input. -/
def fnExactOpNameWrong : ChangeSpec := { name := "fnExactOpName", fn := fun _ => fun
  | [d] => { results := [.lit (.bool false)], args := [d] }
  | _ => none }
def FnExactOpNameWrongFalsely : Prop := fnExactOpNameRow.holds Try.pinned (OpenSpec.ofChange fnExactOpNameWrong)

/-- 'laws.FnExactNameOp': WHATEVER THE INPUT: true; the input reads as it did. -/
def fnExactNameOpSpec : ChangeSpec := { name := "fnExactNameOp", fn := fun _ => fun
  | [d] => { results := [.lit (.bool true)], args := [d] }
  | _ => none }
def fnExactNameOpRow : OpenClaim := { program := "ytchkglmbbfhahaa", sum := "64e9cacf3ab2935fe878b9988913996014dcac01a583a7f243725592d728b580", func := "loop.example/g00793/laws.FnExactNameOp", spec := "fnExactNameOp", apart := false }
def FnExactNameOpSaid : Prop := fnExactNameOpRow.holds Try.pinned (OpenSpec.ofChange fnExactNameOpSpec)

/-- ITS FALSE NEIGHBOUR: 'it returns false'. Refute it at one input. -/
def fnExactNameOpWrong : ChangeSpec := { name := "fnExactNameOp", fn := fun _ => fun
  | [d] => { results := [.lit (.bool false)], args := [d] }
  | _ => none }
def FnExactNameOpWrongFalsely : Prop := fnExactNameOpRow.holds Try.pinned (OpenSpec.ofChange fnExactNameOpWrong)

/- THE SECOND FORM. 'bulk': how many values and letters a reading holds, each counted each time it is reached (what is shared counts as often as it is met; a slice's spare places count too). A statement '..UptoSaid' is the law's where the arguments, and the package variables that the reading takes, are together of bulk at most 1048576: NARROWER than '..Said'. Prove '..Said' where nothing that the law and all that it calls make is longer than what came in: it says more and counts as full. Else prove '..UptoSaid'. A law counts once. -/
mutual
def uptoBulk {H : Type} : DataW H → Nat
  | .lit (.string bytes) => bytes.length + 1
  | .lit _ => 1
  | .nil => 1
  | .ptr d => uptoBulk d + 1
  | .slice elems spare => uptoBulkAll elems + uptoBulkAll spare + 1
  | .agg parts => uptoBulkAll parts + 1
  | .iface _ d => uptoBulk d + 1
  | .map entries => uptoBulkEntries entries + 1
  | .held _ => 1
def uptoBulkAll {H : Type} : List (DataW H) → Nat
  | [] => 0
  | d :: r => uptoBulk d + uptoBulkAll r
def uptoBulkEntries {H : Type} : List (Lit × DataW H) → Nat
  | [] => 0
  | x :: r => uptoBulkEntry x + uptoBulkEntries r
def uptoBulkEntry {H : Type} : Lit × DataW H → Nat
  | (.string bytes, d) => bytes.length + uptoBulk d + 1
  | (_, d) => uptoBulk d + 1
 end
def uptoSmall : (H : Type) → List (DataW H) → Bool := fun _ ds => decide (uptoBulkAll ds ≤ 1048576)
def OpenSpec.upto (s : _root_.Go.ChangeSpec) : _root_.Go.OpenSpec := { _root_.Go.OpenSpec.ofChange s with cond := some uptoSmall }

/-- 'laws.FnExactLcName', WHERE WHAT IT READS IS OF BULK AT MOST 1048576: true; the input reads as it did. -/
def fnExactLcNameUptoRow : OpenClaim := { program := "ytchkglmbbfhahaa", sum := "64e9cacf3ab2935fe878b9988913996014dcac01a583a7f243725592d728b580", func := "loop.example/g00793/laws.FnExactLcName", spec := "fnExactLcName", apart := false, narrowed := true }
def FnExactLcNameUptoSaid : Prop := fnExactLcNameUptoRow.holds Try.pinned (OpenSpec.upto fnExactLcNameSpec)

/-- 'laws.FnExactOpName', WHERE WHAT IT READS IS OF BULK AT MOST 1048576: true; the input reads as it did. -/
def fnExactOpNameUptoRow : OpenClaim := { program := "ytchkglmbbfhahaa", sum := "64e9cacf3ab2935fe878b9988913996014dcac01a583a7f243725592d728b580", func := "loop.example/g00793/laws.FnExactOpName", spec := "fnExactOpName", apart := false, narrowed := true }
def FnExactOpNameUptoSaid : Prop := fnExactOpNameUptoRow.holds Try.pinned (OpenSpec.upto fnExactOpNameSpec)

/-- 'laws.FnExactNameOp', WHERE WHAT IT READS IS OF BULK AT MOST 1048576: true; the input reads as it did. -/
def fnExactNameOpUptoRow : OpenClaim := { program := "ytchkglmbbfhahaa", sum := "64e9cacf3ab2935fe878b9988913996014dcac01a583a7f243725592d728b580", func := "loop.example/g00793/laws.FnExactNameOp", spec := "fnExactNameOp", apart := false, narrowed := true }
def FnExactNameOpUptoSaid : Prop := fnExactNameOpUptoRow.holds Try.pinned (OpenSpec.upto fnExactNameOpSpec)

end Rows
end Go.Proofs.Ytchkglmbbfhahaa
