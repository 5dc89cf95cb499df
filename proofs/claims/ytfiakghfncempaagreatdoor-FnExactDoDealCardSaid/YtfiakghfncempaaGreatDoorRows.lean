/-
  NARROWER THAN 'FOR EVERY INPUT', by the rows' own cells (each row's printed sentence says how): FnCash: laid · FnExactDoDeal: laid.
  DERIVED. THE GIVEN ROWS OF THIS SEAT. 2 by the template 'for every input the law returns true; each argument reads behind the call as it read before'; 0 by the template 'total and deterministic' (their statements: YtfiakghfncempaaGreatDoorTotals.lean).
  GIVEN WITH THE SEED: the statements are not yours to turn. If you find one false, say at which input.
  Laid BY PROGRAM, IN A SANDBOX (cutbox-rows.mjs): the forced cells as the released guide's own fill.sh prints them over the translation 7df53e4121564814… (all of the seat's roots in one cut). By AI agents, Wed Nov 11 2026. No macro, syntax, notation, axiom, sorry.
-/
import Derived.Test.YtfiakghfncempaaGreatDoorChecked
import GoSem.Claim
import GoSem.ClaimJoined
import GoSem.ClaimMapViews
import Derived.JoinedTies
import Derived.KernelRfl
namespace Go.Proofs.YtfiakghfncempaaGreatDoor
/- THE CELL 'sum', in the pinned program and in every row, IS THE sha256 OF THE DUMP (.gsa) THAT YtfiakghfncempaaGreatDoorProg.lean LOADS. Nothing in Lean hashes anything: it is a label: what it is worth is what the hold of that sum in a sandbox is worth. -/
noncomputable def Tryz.pinned : Pinned := { name := "ytfiakghfncempaagreatdoor", sum := "7df53e4121564814bce1eae8a8c03b1c073e53d26c86012b19a5517f6310a4d9", checked := Tryz.checked }
namespace Rows
def none {H : Type} : Left H := { results := [], args := [] }

/- WHAT THE LISTED PACKAGE-LEVEL VARIABLES READ AS WHEN THE CALL BEGINS. Each datum BY PROGRAM (the guide's laid-datum.mjs) off the statement by which the dump's own 'gosem.cut.vars' lays the variable. In a bare row this is a premise. The card (YtfiakghfncempaaGreatDoorCards.lean) ties it to the program's text. -/
def laid_loop_example_g00793_impl_currencies {H : Type} : DataW H := .agg [.agg [.lit (.string [67, 72, 70]), .lit (.string [55, 53, 54]), .lit (.int .i64 2), .lit (.int .i64 5)], .agg [.lit (.string [69, 85, 82]), .lit (.string [57, 55, 56]), .lit (.int .i64 2), .lit (.int .i64 1)], .agg [.lit (.string [85, 83, 68]), .lit (.string [56, 52, 48]), .lit (.int .i64 2), .lit (.int .i64 1)], .agg [.lit (.string [71, 66, 80]), .lit (.string [56, 50, 54]), .lit (.int .i64 2), .lit (.int .i64 1)], .agg [.lit (.string [74, 80, 89]), .lit (.string [51, 57, 50]), .lit (.int .i64 0), .lit (.int .i64 1)], .agg [.lit (.string [83, 69, 75]), .lit (.string [55, 53, 50]), .lit (.int .i64 2), .lit (.int .i64 100)], .agg [.lit (.string [78, 79, 75]), .lit (.string [53, 55, 56]), .lit (.int .i64 2), .lit (.int .i64 100)], .agg [.lit (.string [68, 75, 75]), .lit (.string [50, 48, 56]), .lit (.int .i64 2), .lit (.int .i64 50)], .agg [.lit (.string [67, 90, 75]), .lit (.string [50, 48, 51]), .lit (.int .i64 2), .lit (.int .i64 100)], .agg [.lit (.string [72, 85, 70]), .lit (.string [51, 52, 56]), .lit (.int .i64 2), .lit (.int .i64 500)], .agg [.lit (.string [80, 76, 78]), .lit (.string [57, 56, 53]), .lit (.int .i64 2), .lit (.int .i64 1)], .agg [.lit (.string [67, 65, 68]), .lit (.string [49, 50, 52]), .lit (.int .i64 2), .lit (.int .i64 5)], .agg [.lit (.string [65, 85, 68]), .lit (.string [48, 51, 54]), .lit (.int .i64 2), .lit (.int .i64 5)], .agg [.lit (.string [78, 90, 68]), .lit (.string [53, 53, 52]), .lit (.int .i64 2), .lit (.int .i64 10)], .agg [.lit (.string [75, 87, 68]), .lit (.string [52, 49, 52]), .lit (.int .i64 3), .lit (.int .i64 5)], .agg [.lit (.string [66, 72, 68]), .lit (.string [48, 52, 56]), .lit (.int .i64 3), .lit (.int .i64 5)], .agg [.lit (.string [84, 78, 68]), .lit (.string [55, 56, 56]), .lit (.int .i64 3), .lit (.int .i64 10)], .agg [.lit (.string [73, 83, 75]), .lit (.string [51, 53, 50]), .lit (.int .i64 0), .lit (.int .i64 1)], .agg [.lit (.string [75, 82, 87]), .lit (.string [52, 49, 48]), .lit (.int .i64 0), .lit (.int .i64 10)], .agg [.lit (.string [67, 76, 70]), .lit (.string [57, 57, 48]), .lit (.int .i64 4), .lit (.int .i64 1)]]

/-- 'laws.FnCash': WHATEVER THE INPUT: true; the input reads as it did. -/
def fnCashSpec : ChangeSpec := { name := "fnCash", vars := ["loop.example/g00793/impl.currencies"], fn := fun _ => fun
  | [d, g1] => { results := [.lit (.bool true)], args := [d], vars := [g1] }
  | _ => none }
def fnCashRow : OpenClaim := { program := "ytfiakghfncempaagreatdoor", sum := "7df53e4121564814bce1eae8a8c03b1c073e53d26c86012b19a5517f6310a4d9", func := "loop.example/g00793/laws.FnCash", spec := "fnCash", unfollowed := true, recurses := true, named := ["loop.example/g00793/impl.currencies"], plainKeys := false, apart := false, laid := [("loop.example/g00793/impl.currencies", laid_loop_example_g00793_impl_currencies)] }
def FnCashSaid : Prop := fnCashRow.holds Tryz.pinned (OpenSpec.ofChange fnCashSpec)

/-- ITS FALSE NEIGHBOUR: 'it returns false'. Refute it at one input. -/
def fnCashWrong : ChangeSpec := { name := "fnCash", vars := ["loop.example/g00793/impl.currencies"], fn := fun _ => fun
  | [d, g1] => { results := [.lit (.bool false)], args := [d], vars := [g1] }
  | _ => none }
def FnCashWrongFalsely : Prop := fnCashRow.holds Tryz.pinned (OpenSpec.ofChange fnCashWrong)

/-- 'laws.FnExactDoDeal': WHATEVER THE INPUT: true; the input reads as it did. -/
def fnExactDoDealSpec : ChangeSpec := { name := "fnExactDoDeal", vars := ["loop.example/g00793/impl.currencies"], fn := fun _ => fun
  | [d1, d2, d3, d4, d5, g1] => { results := [.lit (.bool true)], args := [d1, d2, d3, d4, d5], vars := [g1] }
  | _ => none }
def fnExactDoDealRow : OpenClaim := { program := "ytfiakghfncempaagreatdoor", sum := "7df53e4121564814bce1eae8a8c03b1c073e53d26c86012b19a5517f6310a4d9", func := "loop.example/g00793/laws.FnExactDoDeal", spec := "fnExactDoDeal", unfollowed := true, recurses := true, named := ["loop.example/g00793/impl.currencies"], plainKeys := false, apart := false, laid := [("loop.example/g00793/impl.currencies", laid_loop_example_g00793_impl_currencies)] }
def FnExactDoDealSaid : Prop := fnExactDoDealRow.holds Tryz.pinned (OpenSpec.ofChange fnExactDoDealSpec)

/-- ITS FALSE NEIGHBOUR: 'it returns false'. Refute it at one input. -/
def fnExactDoDealWrong : ChangeSpec := { name := "fnExactDoDeal", vars := ["loop.example/g00793/impl.currencies"], fn := fun _ => fun
  | [d1, d2, d3, d4, d5, g1] => { results := [.lit (.bool false)], args := [d1, d2, d3, d4, d5], vars := [g1] }
  | _ => none }
def FnExactDoDealWrongFalsely : Prop := fnExactDoDealRow.holds Tryz.pinned (OpenSpec.ofChange fnExactDoDealWrong)

/- THE SECOND FORM. 'bulk': how many values and letters a reading holds, each counted each time it is reached (what is shared counts as often as it is met; a slice's spare places count too). A statement '..UptoSaid' is the law's where the arguments, and the package variables that the reading takes, are together of bulk at most 1048576: NARROWER than '..Said'. Prove '..Said' where nothing that the law and all that it calls make is longer than what came in: it says more and counts as full. Else prove '..UptoSaid'. A law counts once. -/
mutual
def uptoBulk {H : Type} : DataW H → Nat
  | .lit (.string bytes) => bytes.length + 1
  | .lit _ => 1
  | .nil => 1
  | .ptr d => uptoBulk d + 1
  | .slice elems spare => uptoBulkAll elems + uptoBulkAll spare + 1
  | .agg parts => uptoBulkAll parts + 1
  | .iface _ d => uptoBulk d + 1
  | .map entries => uptoBulkEntries entries + 1
  | .held _ => 1
def uptoBulkAll {H : Type} : List (DataW H) → Nat
  | [] => 0
  | d :: r => uptoBulk d + uptoBulkAll r
def uptoBulkEntries {H : Type} : List (Lit × DataW H) → Nat
  | [] => 0
  | x :: r => uptoBulkEntry x + uptoBulkEntries r
def uptoBulkEntry {H : Type} : Lit × DataW H → Nat
  | (.string bytes, d) => bytes.length + uptoBulk d + 1
  | (_, d) => uptoBulk d + 1
 end
def uptoSmall : (H : Type) → List (DataW H) → Bool := fun _ ds => decide (uptoBulkAll ds ≤ 1048576)
def OpenSpec.upto (s : _root_.Go.ChangeSpec) : _root_.Go.OpenSpec := { _root_.Go.OpenSpec.ofChange s with cond := some uptoSmall }

/-- 'laws.FnCash', WHERE WHAT IT READS IS OF BULK AT MOST 1048576: true; the input reads as it did. -/
def fnCashUptoRow : OpenClaim := { program := "ytfiakghfncempaagreatdoor", sum := "7df53e4121564814bce1eae8a8c03b1c073e53d26c86012b19a5517f6310a4d9", func := "loop.example/g00793/laws.FnCash", spec := "fnCash", unfollowed := true, recurses := true, named := ["loop.example/g00793/impl.currencies"], plainKeys := false, apart := false, laid := [("loop.example/g00793/impl.currencies", laid_loop_example_g00793_impl_currencies)], narrowed := true }
def FnCashUptoSaid : Prop := fnCashUptoRow.holds Tryz.pinned (OpenSpec.upto fnCashSpec)

/-- 'laws.FnExactDoDeal', WHERE WHAT IT READS IS OF BULK AT MOST 1048576: true; the input reads as it did. -/
def fnExactDoDealUptoRow : OpenClaim := { program := "ytfiakghfncempaagreatdoor", sum := "7df53e4121564814bce1eae8a8c03b1c073e53d26c86012b19a5517f6310a4d9", func := "loop.example/g00793/laws.FnExactDoDeal", spec := "fnExactDoDeal", unfollowed := true, recurses := true, named := ["loop.example/g00793/impl.currencies"], plainKeys := false, apart := false, laid := [("loop.example/g00793/impl.currencies", laid_loop_example_g00793_impl_currencies)], narrowed := true }
def FnExactDoDealUptoSaid : Prop := fnExactDoDealUptoRow.holds Tryz.pinned (OpenSpec.upto fnExactDoDealSpec)

end Rows
end Go.Proofs.YtfiakghfncempaaGreatDoor
