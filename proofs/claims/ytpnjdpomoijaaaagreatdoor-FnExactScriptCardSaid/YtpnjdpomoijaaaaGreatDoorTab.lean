/-
  The library's table of powers of ten, as a law's row lists it.
-/
import Derived.Test.YtpnjdpomoijaaaaGreatDoorTxtC
import Derived.Test.YtpnjdpomoijaaaaGreatDoorRow
import Derived.Lib.LaidTab
import Derived.Stop.LaidErr
namespace Go.Proofs.YtpnjdpomoijaaaaGreatDoor
open Sx Go.ChangeShapes Go.WideShapes Go.ChangeAt Go.RowKit
set_option maxRecDepth 100000

theorem hasTab_of {W : World} {rest : List (String × DataW Unit)} (h : laidMet Tryz.prog (("internal/strconv.uint64pow10", Go.Lib.tabData .u64 Go.Lib.pow10Tab) :: rest) W) : hasTab (knowOf W) := by
  have ht := Go.Lib.tabIs_of_head (g := 2) (t := 244) (e := 214) (n := 20) (by kernel_rfl) (by kernel_rfl) (by kernel_rfl) (by kernel_rfl) (by kernel_rfl) (by kernel_rfl) h
  unfold Go.Lib.TabIs World.var? at ht
  rw [show Tryz.prog.globalNamed "internal/strconv.uint64pow10" = some 2 by kernel_rfl] at ht
  simp only [Option.bind_some] at ht
  split at ht
  · rename_i cs t fr hc
    refine ⟨(t, fr), ?_⟩
    have e : cs.toList = Go.Lib.pow10Tab.map fun z => Value.int .u64 z := by
      have := Option.some.inj ht
      rw [this]
    rw [← e]
    refine knowOf_eq hc fun es he => ?_
    rw [e] at he
    cases he
  · cases ht
end Go.Proofs.YtpnjdpomoijaaaaGreatDoor
