/-
  NARROWER THAN 'FOR EVERY INPUT', by the rows' own cells (each row's printed sentence says how): FnSwap: laid · FnSum: laid · FnWealth: laid.
  DERIVED. THE GIVEN ROWS OF THIS SEAT. 3 by the template 'for every input the law returns true; each argument reads behind the call as it read before'; 0 by the template 'total and deterministic' (their statements: YtmppmpceccpdlaaGreatDoorTotals.lean).
  GIVEN WITH THE SEED: the statements are not yours to turn. If you find one false, say at which input.
  Laid BY PROGRAM, IN A SANDBOX (cutbox-rows.mjs): the forced cells as the released guide's own fill.sh prints them over the translation 8f8b1225f9b4c570… (all of the seat's roots in one cut). By AI agents, Wed Nov 11 2026. No macro, syntax, notation, axiom, sorry.
-/
import Derived.Test.YtmppmpceccpdlaaGreatDoorChecked
import GoSem.Claim
import GoSem.ClaimJoined
import GoSem.ClaimMapViews
import Derived.JoinedTies
import Derived.KernelRfl
namespace Go.Proofs.YtmppmpceccpdlaaGreatDoor
/- THE CELL 'sum', in the pinned program and in every row, IS THE sha256 OF THE DUMP (.gsa) THAT YtmppmpceccpdlaaGreatDoorProg.lean LOADS. Nothing in Lean hashes anything: it is a label: what it is worth is what the hold of that sum in a sandbox is worth. -/
noncomputable def Tryz.pinned : Pinned := { name := "ytmppmpceccpdlaagreatdoor", sum := "8f8b1225f9b4c57037cb24d0bd258b303d2bef80635bfeeaa682304d919df609", checked := Tryz.checked }
namespace Rows
def none {H : Type} : Left H := { results := [], args := [] }

/- WHAT THE LISTED PACKAGE-LEVEL VARIABLES READ AS WHEN THE CALL BEGINS. Each datum BY PROGRAM (the guide's laid-datum.mjs) off the statement by which the dump's own 'gosem.cut.vars' lays the variable. In a bare row this is a premise. The card (YtmppmpceccpdlaaGreatDoorCards.lean) ties it to the program's text. -/
def laid_errors_errorType {H : Type} : DataW H := .iface "internal/reflectlite.rtype" (.agg [.ptr (.lit (.string [101, 114, 114, 111, 114]))])
def laid_loop_example_g00793_impl_currencies {H : Type} : DataW H := .agg [.agg [.lit (.string [67, 72, 70]), .lit (.string [55, 53, 54]), .lit (.int .i64 2), .lit (.int .i64 5)], .agg [.lit (.string [69, 85, 82]), .lit (.string [57, 55, 56]), .lit (.int .i64 2), .lit (.int .i64 1)], .agg [.lit (.string [85, 83, 68]), .lit (.string [56, 52, 48]), .lit (.int .i64 2), .lit (.int .i64 1)], .agg [.lit (.string [71, 66, 80]), .lit (.string [56, 50, 54]), .lit (.int .i64 2), .lit (.int .i64 1)], .agg [.lit (.string [74, 80, 89]), .lit (.string [51, 57, 50]), .lit (.int .i64 0), .lit (.int .i64 1)], .agg [.lit (.string [83, 69, 75]), .lit (.string [55, 53, 50]), .lit (.int .i64 2), .lit (.int .i64 100)], .agg [.lit (.string [78, 79, 75]), .lit (.string [53, 55, 56]), .lit (.int .i64 2), .lit (.int .i64 100)], .agg [.lit (.string [68, 75, 75]), .lit (.string [50, 48, 56]), .lit (.int .i64 2), .lit (.int .i64 50)], .agg [.lit (.string [67, 90, 75]), .lit (.string [50, 48, 51]), .lit (.int .i64 2), .lit (.int .i64 100)], .agg [.lit (.string [72, 85, 70]), .lit (.string [51, 52, 56]), .lit (.int .i64 2), .lit (.int .i64 500)], .agg [.lit (.string [80, 76, 78]), .lit (.string [57, 56, 53]), .lit (.int .i64 2), .lit (.int .i64 1)], .agg [.lit (.string [67, 65, 68]), .lit (.string [49, 50, 52]), .lit (.int .i64 2), .lit (.int .i64 5)], .agg [.lit (.string [65, 85, 68]), .lit (.string [48, 51, 54]), .lit (.int .i64 2), .lit (.int .i64 5)], .agg [.lit (.string [78, 90, 68]), .lit (.string [53, 53, 52]), .lit (.int .i64 2), .lit (.int .i64 10)], .agg [.lit (.string [75, 87, 68]), .lit (.string [52, 49, 52]), .lit (.int .i64 3), .lit (.int .i64 5)], .agg [.lit (.string [66, 72, 68]), .lit (.string [48, 52, 56]), .lit (.int .i64 3), .lit (.int .i64 5)], .agg [.lit (.string [84, 78, 68]), .lit (.string [55, 56, 56]), .lit (.int .i64 3), .lit (.int .i64 10)], .agg [.lit (.string [73, 83, 75]), .lit (.string [51, 53, 50]), .lit (.int .i64 0), .lit (.int .i64 1)], .agg [.lit (.string [75, 82, 87]), .lit (.string [52, 49, 48]), .lit (.int .i64 0), .lit (.int .i64 10)], .agg [.lit (.string [67, 76, 70]), .lit (.string [57, 57, 48]), .lit (.int .i64 4), .lit (.int .i64 1)]]

/-- 'laws.FnSwap': WHATEVER THE INPUT: true; the input reads as it did. -/
def fnSwapSpec : ChangeSpec := { name := "fnSwap", vars := ["loop.example/g00793/impl.currencies"], fn := fun _ => fun
  | [d, g1] => { results := [.lit (.bool true)], args := [d], vars := [g1] }
  | _ => none }
def fnSwapRow : OpenClaim := { program := "ytmppmpceccpdlaagreatdoor", sum := "8f8b1225f9b4c57037cb24d0bd258b303d2bef80635bfeeaa682304d919df609", func := "loop.example/g00793/laws.FnSwap", spec := "fnSwap", inPlace := ["internal/reflectlite.ValueOf", "(internal/reflectlite.Value).Type", "(internal/reflectlite.Value).IsNil", "internal/reflectlite.TypeOf", "(internal/reflectlite.Value).Elem", "(internal/reflectlite.Value).Set"], unfollowed := true, recurses := true, named := ["loop.example/g00793/impl.currencies", "errors.errorType"], plainKeys := false, apart := false, laid := [("errors.errorType", laid_errors_errorType), ("loop.example/g00793/impl.currencies", laid_loop_example_g00793_impl_currencies)] }
def FnSwapSaid : Prop := fnSwapRow.holds Tryz.pinned (OpenSpec.ofChange fnSwapSpec)

/-- ITS FALSE NEIGHBOUR: 'it returns false'. Refute it at one input. -/
def fnSwapWrong : ChangeSpec := { name := "fnSwap", vars := ["loop.example/g00793/impl.currencies"], fn := fun _ => fun
  | [d, g1] => { results := [.lit (.bool false)], args := [d], vars := [g1] }
  | _ => none }
def FnSwapWrongFalsely : Prop := fnSwapRow.holds Tryz.pinned (OpenSpec.ofChange fnSwapWrong)

/-- 'laws.FnSum': WHATEVER THE INPUT: true; the input reads as it did. -/
def fnSumSpec : ChangeSpec := { name := "fnSum", vars := ["loop.example/g00793/impl.currencies"], fn := fun _ => fun
  | [d, g1] => { results := [.lit (.bool true)], args := [d], vars := [g1] }
  | _ => none }
def fnSumRow : OpenClaim := { program := "ytmppmpceccpdlaagreatdoor", sum := "8f8b1225f9b4c57037cb24d0bd258b303d2bef80635bfeeaa682304d919df609", func := "loop.example/g00793/laws.FnSum", spec := "fnSum", inPlace := ["internal/reflectlite.ValueOf", "(internal/reflectlite.Value).Type", "(internal/reflectlite.Value).IsNil", "internal/reflectlite.TypeOf", "(internal/reflectlite.Value).Elem", "(internal/reflectlite.Value).Set"], unfollowed := true, recurses := true, named := ["loop.example/g00793/impl.currencies", "errors.errorType"], plainKeys := false, apart := false, laid := [("errors.errorType", laid_errors_errorType), ("loop.example/g00793/impl.currencies", laid_loop_example_g00793_impl_currencies)] }
def FnSumSaid : Prop := fnSumRow.holds Tryz.pinned (OpenSpec.ofChange fnSumSpec)

/-- ITS FALSE NEIGHBOUR: 'it returns false'. Refute it at one input. -/
def fnSumWrong : ChangeSpec := { name := "fnSum", vars := ["loop.example/g00793/impl.currencies"], fn := fun _ => fun
  | [d, g1] => { results := [.lit (.bool false)], args := [d], vars := [g1] }
  | _ => none }
def FnSumWrongFalsely : Prop := fnSumRow.holds Tryz.pinned (OpenSpec.ofChange fnSumWrong)

/-- 'laws.FnWealth': WHATEVER THE INPUT: true; the input reads as it did. -/
def fnWealthSpec : ChangeSpec := { name := "fnWealth", vars := ["loop.example/g00793/impl.currencies"], fn := fun _ => fun
  | [d, g1] => { results := [.lit (.bool true)], args := [d], vars := [g1] }
  | _ => none }
def fnWealthRow : OpenClaim := { program := "ytmppmpceccpdlaagreatdoor", sum := "8f8b1225f9b4c57037cb24d0bd258b303d2bef80635bfeeaa682304d919df609", func := "loop.example/g00793/laws.FnWealth", spec := "fnWealth", inPlace := ["internal/reflectlite.ValueOf", "(internal/reflectlite.Value).Type", "(internal/reflectlite.Value).IsNil", "internal/reflectlite.TypeOf", "(internal/reflectlite.Value).Elem", "(internal/reflectlite.Value).Set"], unfollowed := true, recurses := true, named := ["loop.example/g00793/impl.currencies", "errors.errorType"], plainKeys := false, apart := false, laid := [("errors.errorType", laid_errors_errorType), ("loop.example/g00793/impl.currencies", laid_loop_example_g00793_impl_currencies)] }
def FnWealthSaid : Prop := fnWealthRow.holds Tryz.pinned (OpenSpec.ofChange fnWealthSpec)

/-- ITS FALSE NEIGHBOUR: 'it returns false'. Refute it at one input. -/
def fnWealthWrong : ChangeSpec := { name := "fnWealth", vars := ["loop.example/g00793/impl.currencies"], fn := fun _ => fun
  | [d, g1] => { results := [.lit (.bool false)], args := [d], vars := [g1] }
  | _ => none }
def FnWealthWrongFalsely : Prop := fnWealthRow.holds Tryz.pinned (OpenSpec.ofChange fnWealthWrong)

/- THE SECOND FORM. 'bulk': how many values and letters a reading holds, each counted each time it is reached (what is shared counts as often as it is met; a slice's spare places count too). A statement '..UptoSaid' is the law's where the arguments, and the package variables that the reading takes, are together of bulk at most 1048576: NARROWER than '..Said'. Prove '..Said' where nothing that the law and all that it calls make is longer than what came in: it says more and counts as full. Else prove '..UptoSaid'. A law counts once. -/
mutual
def uptoBulk {H : Type} : DataW H → Nat
  | .lit (.string bytes) => bytes.length + 1
  | .lit _ => 1
  | .nil => 1
  | .ptr d => uptoBulk d + 1
  | .slice elems spare => uptoBulkAll elems + uptoBulkAll spare + 1
  | .agg parts => uptoBulkAll parts + 1
  | .iface _ d => uptoBulk d + 1
  | .map entries => uptoBulkEntries entries + 1
  | .held _ => 1
def uptoBulkAll {H : Type} : List (DataW H) → Nat
  | [] => 0
  | d :: r => uptoBulk d + uptoBulkAll r
def uptoBulkEntries {H : Type} : List (Lit × DataW H) → Nat
  | [] => 0
  | x :: r => uptoBulkEntry x + uptoBulkEntries r
def uptoBulkEntry {H : Type} : Lit × DataW H → Nat
  | (.string bytes, d) => bytes.length + uptoBulk d + 1
  | (_, d) => uptoBulk d + 1
 end
def uptoSmall : (H : Type) → List (DataW H) → Bool := fun _ ds => decide (uptoBulkAll ds ≤ 1048576)
def OpenSpec.upto (s : _root_.Go.ChangeSpec) : _root_.Go.OpenSpec := { _root_.Go.OpenSpec.ofChange s with cond := some uptoSmall }

/-- 'laws.FnSwap', WHERE WHAT IT READS IS OF BULK AT MOST 1048576: true; the input reads as it did. -/
def fnSwapUptoRow : OpenClaim := { program := "ytmppmpceccpdlaagreatdoor", sum := "8f8b1225f9b4c57037cb24d0bd258b303d2bef80635bfeeaa682304d919df609", func := "loop.example/g00793/laws.FnSwap", spec := "fnSwap", inPlace := ["internal/reflectlite.ValueOf", "(internal/reflectlite.Value).Type", "(internal/reflectlite.Value).IsNil", "internal/reflectlite.TypeOf", "(internal/reflectlite.Value).Elem", "(internal/reflectlite.Value).Set"], unfollowed := true, recurses := true, named := ["loop.example/g00793/impl.currencies", "errors.errorType"], plainKeys := false, apart := false, laid := [("errors.errorType", laid_errors_errorType), ("loop.example/g00793/impl.currencies", laid_loop_example_g00793_impl_currencies)], narrowed := true }
def FnSwapUptoSaid : Prop := fnSwapUptoRow.holds Tryz.pinned (OpenSpec.upto fnSwapSpec)

/-- 'laws.FnSum', WHERE WHAT IT READS IS OF BULK AT MOST 1048576: true; the input reads as it did. -/
def fnSumUptoRow : OpenClaim := { program := "ytmppmpceccpdlaagreatdoor", sum := "8f8b1225f9b4c57037cb24d0bd258b303d2bef80635bfeeaa682304d919df609", func := "loop.example/g00793/laws.FnSum", spec := "fnSum", inPlace := ["internal/reflectlite.ValueOf", "(internal/reflectlite.Value).Type", "(internal/reflectlite.Value).IsNil", "internal/reflectlite.TypeOf", "(internal/reflectlite.Value).Elem", "(internal/reflectlite.Value).Set"], unfollowed := true, recurses := true, named := ["loop.example/g00793/impl.currencies", "errors.errorType"], plainKeys := false, apart := false, laid := [("errors.errorType", laid_errors_errorType), ("loop.example/g00793/impl.currencies", laid_loop_example_g00793_impl_currencies)], narrowed := true }
def FnSumUptoSaid : Prop := fnSumUptoRow.holds Tryz.pinned (OpenSpec.upto fnSumSpec)

/-- 'laws.FnWealth', WHERE WHAT IT READS IS OF BULK AT MOST 1048576: true; the input reads as it did. -/
def fnWealthUptoRow : OpenClaim := { program := "ytmppmpceccpdlaagreatdoor", sum := "8f8b1225f9b4c57037cb24d0bd258b303d2bef80635bfeeaa682304d919df609", func := "loop.example/g00793/laws.FnWealth", spec := "fnWealth", inPlace := ["internal/reflectlite.ValueOf", "(internal/reflectlite.Value).Type", "(internal/reflectlite.Value).IsNil", "internal/reflectlite.TypeOf", "(internal/reflectlite.Value).Elem", "(internal/reflectlite.Value).Set"], unfollowed := true, recurses := true, named := ["loop.example/g00793/impl.currencies", "errors.errorType"], plainKeys := false, apart := false, laid := [("errors.errorType", laid_errors_errorType), ("loop.example/g00793/impl.currencies", laid_loop_example_g00793_impl_currencies)], narrowed := true }
def FnWealthUptoSaid : Prop := fnWealthUptoRow.holds Tryz.pinned (OpenSpec.upto fnWealthSpec)

end Rows
end Go.Proofs.YtmppmpceccpdlaaGreatDoor
