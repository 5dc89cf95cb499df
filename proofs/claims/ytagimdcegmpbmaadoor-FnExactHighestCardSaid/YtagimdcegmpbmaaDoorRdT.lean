/-
  The arguments of the laws, read as rows.
-/
import Derived.Test.YtagimdcegmpbmaaDoorRead
import Derived.Test.YtagimdcegmpbmaaDoorStr
import Derived.KernelRfl
namespace Go.Proofs.YtagimdcegmpbmaaDoor
open Sx
set_option maxRecDepth 100000
noncomputable def fsSigned : Array Field := match Tryd.prog.underlying 66 with | some (.struct fs) => fs | _ => #[]
theorem rd_Signed (W : World) : Rd Tryd.prog W 66 rSigned := by
  intro H enc sp held fuel cs x h
  have ht : Tryd.prog.underlying 66 = some (.struct fsSigned) := by kernel_rfl
  have hl := rd_len ht h (k := 2) (by kernel_rfl)
  match cs, hl with
  | [a0, a1], _ =>
    obtain ⟨n0, y0, g0⟩ := rd_field ht h 0 (fsSigned[0]!) (by kernel_rfl) (ft := 4) (off := 0) (w := 1) (by kernel_rfl) (by kernel_rfl) (by kernel_rfl)
    replace g0 : DataW.trod enc Tryd.prog W 0 sp held n0 4 [a0] = some y0 := g0
    obtain ⟨c0, e0, _⟩ := DataW.trod_bool (show Tryd.prog.underlying 4 = some .bool by kernel_rfl) g0
    simp only [List.cons.injEq, and_true] at e0
    subst e0
    obtain ⟨n1, y1, g1⟩ := rd_field ht h 1 (fsSigned[1]!) (by kernel_rfl) (ft := 38) (off := 1) (w := 1) (by kernel_rfl) (by kernel_rfl) (by kernel_rfl)
    replace g1 : DataW.trod enc Tryd.prog W 0 sp held n1 38 [a1] = some y1 := g1
    obtain ⟨c1, x1, f1, e1, sc1⟩ := rd_slice (e := 3) (rd_int (show Tryd.prog.underlying 3 = some (.int .i64) by kernel_rfl)) (by kernel_rfl) (by kernel_rfl) (by decide) g1
    simp only [List.cons.injEq, and_true] at e1
    subst e1
    exact ⟨(c0, c1, ()), (c0, x1, ()), _, rfl, (rBool.mk (rSl.mk sc1 rNil.mk))⟩
noncomputable def fsMoney : Array Field := match Tryd.prog.underlying 68 with | some (.struct fs) => fs | _ => #[]
theorem rd_Money (W : World) : Rd Tryd.prog W 68 rMoney := by
  intro H enc sp held fuel cs x h
  have ht : Tryd.prog.underlying 68 = some (.struct fsMoney) := by kernel_rfl
  have hl := rd_len ht h (k := 3) (by kernel_rfl)
  match cs, hl with
  | [a0, a1, a2], _ =>
    obtain ⟨n0, y0, g0⟩ := rd_field ht h 0 (fsMoney[0]!) (by kernel_rfl) (ft := 9) (off := 0) (w := 1) (by kernel_rfl) (by kernel_rfl) (by kernel_rfl)
    replace g0 : DataW.trod enc Tryd.prog W 0 sp held n0 9 [a0] = some y0 := g0
    obtain ⟨c0, e0, _, zc0⟩ := DataW.trod_string (show Tryd.prog.underlying 9 = some .string by kernel_rfl) g0
    replace zc0 : c0.size ≤ 9223372036854775807 := zc0
    simp only [List.cons.injEq, and_true] at e0
    subst e0
    obtain ⟨n1, y1, g1⟩ := rd_field ht h 1 (fsMoney[1]!) (by kernel_rfl) (ft := 66) (off := 1) (w := 2) (by kernel_rfl) (by kernel_rfl) (by kernel_rfl)
    replace g1 : DataW.trod enc Tryd.prog W 0 sp held n1 66 [a1, a2] = some y1 := g1
    obtain ⟨⟨c1, c2, cu1⟩, ⟨x1, x2, xu1⟩, f1q, e1, hr1⟩ := rd_Signed W g1
    replace e1 : [a1, a2] = [Value.bool c1, Value.slice c2.a c2.n c2.c] := e1
    simp only [List.cons.injEq, and_true] at e1
    obtain ⟨rfl, rfl⟩ := e1
    obtain ⟨ec1, hr1⟩ := hr1
    replace ec1 : c1 = x1 := ec1
    subst ec1
    obtain ⟨f2, fr2, ec2, sc2, hr1⟩ := hr1
    subst ec2
    replace sc2 : LR rI _ c2 x2 f2 := sc2
    exact ⟨(c0, c1, c2, ()), (c0, c1, x2, ()), _, rfl, (rStr.mk zc0 (rBool.mk (rSl.mk sc2 rNil.mk)))⟩
end Go.Proofs.YtagimdcegmpbmaaDoor
