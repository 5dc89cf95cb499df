/-
  The arguments of the laws, read as rows.
-/
import Derived.Test.YtfbnocogljmpdaaGreatDoorRead
import Derived.Test.YtfbnocogljmpdaaGreatDoorStr
import Derived.KernelRfl
namespace Go.Proofs.YtfbnocogljmpdaaGreatDoor
open Sx
set_option maxRecDepth 100000
noncomputable def fsSigned : Array Field := match Tryz.prog.underlying 24 with | some (.struct fs) => fs | _ => #[]
theorem rd_Signed (W : World) : Rd Tryz.prog W 24 rSigned := by
  intro H enc sp held fuel cs x h
  have ht : Tryz.prog.underlying 24 = some (.struct fsSigned) := by kernel_rfl
  have hl := rd_len ht h (k := 2) (by kernel_rfl)
  match cs, hl with
  | [a0, a1], _ =>
    obtain ⟨n0, y0, g0⟩ := rd_field ht h 0 (fsSigned[0]!) (by kernel_rfl) (ft := 4) (off := 0) (w := 1) (by kernel_rfl) (by kernel_rfl) (by kernel_rfl)
    replace g0 : DataW.trod enc Tryz.prog W 0 sp held n0 4 [a0] = some y0 := g0
    obtain ⟨c0, e0, _⟩ := DataW.trod_bool (show Tryz.prog.underlying 4 = some .bool by kernel_rfl) g0
    simp only [List.cons.injEq, and_true] at e0
    subst e0
    obtain ⟨n1, y1, g1⟩ := rd_field ht h 1 (fsSigned[1]!) (by kernel_rfl) (ft := 22) (off := 1) (w := 1) (by kernel_rfl) (by kernel_rfl) (by kernel_rfl)
    replace g1 : DataW.trod enc Tryz.prog W 0 sp held n1 22 [a1] = some y1 := g1
    obtain ⟨c1, x1, f1, e1, sc1⟩ := rd_slice (e := 3) (rd_int (show Tryz.prog.underlying 3 = some (.int .i64) by kernel_rfl)) (by kernel_rfl) (by kernel_rfl) (by decide) g1
    simp only [List.cons.injEq, and_true] at e1
    subst e1
    exact ⟨(c0, c1, ()), (c0, x1, ()), _, rfl, (rBool.mk (rSl.mk sc1 rNil.mk))⟩
noncomputable def fsMoney : Array Field := match Tryz.prog.underlying 26 with | some (.struct fs) => fs | _ => #[]
theorem rd_Money (W : World) : Rd Tryz.prog W 26 rMoney := by
  intro H enc sp held fuel cs x h
  have ht : Tryz.prog.underlying 26 = some (.struct fsMoney) := by kernel_rfl
  have hl := rd_len ht h (k := 3) (by kernel_rfl)
  match cs, hl with
  | [a0, a1, a2], _ =>
    obtain ⟨n0, y0, g0⟩ := rd_field ht h 0 (fsMoney[0]!) (by kernel_rfl) (ft := 9) (off := 0) (w := 1) (by kernel_rfl) (by kernel_rfl) (by kernel_rfl)
    replace g0 : DataW.trod enc Tryz.prog W 0 sp held n0 9 [a0] = some y0 := g0
    obtain ⟨c0, e0, _, zc0⟩ := DataW.trod_string (show Tryz.prog.underlying 9 = some .string by kernel_rfl) g0
    replace zc0 : c0.size ≤ 9223372036854775807 := zc0
    simp only [List.cons.injEq, and_true] at e0
    subst e0
    obtain ⟨n1, y1, g1⟩ := rd_field ht h 1 (fsMoney[1]!) (by kernel_rfl) (ft := 24) (off := 1) (w := 2) (by kernel_rfl) (by kernel_rfl) (by kernel_rfl)
    replace g1 : DataW.trod enc Tryz.prog W 0 sp held n1 24 [a1, a2] = some y1 := g1
    obtain ⟨⟨c1, c2, cu1⟩, ⟨x1, x2, xu1⟩, f1q, e1, hr1⟩ := rd_Signed W g1
    replace e1 : [a1, a2] = [Value.bool c1, Value.slice c2.a c2.n c2.c] := e1
    simp only [List.cons.injEq, and_true] at e1
    obtain ⟨rfl, rfl⟩ := e1
    obtain ⟨ec1, hr1⟩ := hr1
    replace ec1 : c1 = x1 := ec1
    subst ec1
    obtain ⟨f2, fr2, ec2, sc2, hr1⟩ := hr1
    subst ec2
    replace sc2 : LR rI _ c2 x2 f2 := sc2
    exact ⟨(c0, c1, c2, ()), (c0, c1, x2, ()), _, rfl, (rStr.mk zc0 (rBool.mk (rSl.mk sc2 rNil.mk)))⟩
noncomputable def fsDec : Array Field := match Tryz.prog.underlying 29 with | some (.struct fs) => fs | _ => #[]
theorem rd_Dec (W : World) : Rd Tryz.prog W 29 rDec := by
  intro H enc sp held fuel cs x h
  have ht : Tryz.prog.underlying 29 = some (.struct fsDec) := by kernel_rfl
  have hl := rd_len ht h (k := 3) (by kernel_rfl)
  match cs, hl with
  | [a0, a1, a2], _ =>
    obtain ⟨n0, y0, g0⟩ := rd_field ht h 0 (fsDec[0]!) (by kernel_rfl) (ft := 24) (off := 0) (w := 2) (by kernel_rfl) (by kernel_rfl) (by kernel_rfl)
    replace g0 : DataW.trod enc Tryz.prog W 0 sp held n0 24 [a0, a1] = some y0 := g0
    obtain ⟨⟨c0, c1, cu0⟩, ⟨x0, x1, xu0⟩, f0q, e0, hr0⟩ := rd_Signed W g0
    replace e0 : [a0, a1] = [Value.bool c0, Value.slice c1.a c1.n c1.c] := e0
    simp only [List.cons.injEq, and_true] at e0
    obtain ⟨rfl, rfl⟩ := e0
    obtain ⟨ec0, hr0⟩ := hr0
    replace ec0 : c0 = x0 := ec0
    subst ec0
    obtain ⟨f1, fr1, ec1, sc1, hr0⟩ := hr0
    subst ec1
    replace sc1 : LR rI _ c1 x1 f1 := sc1
    obtain ⟨n2, y2, g2⟩ := rd_field ht h 1 (fsDec[1]!) (by kernel_rfl) (ft := 3) (off := 2) (w := 1) (by kernel_rfl) (by kernel_rfl) (by kernel_rfl)
    replace g2 : DataW.trod enc Tryz.prog W 0 sp held n2 3 [a2] = some y2 := g2
    obtain ⟨c2, e2, _⟩ := DataW.trod_int (show Tryz.prog.underlying 3 = some (.int .i64) by kernel_rfl) g2
    simp only [List.cons.injEq, and_true] at e2
    subst e2
    exact ⟨(c0, c1, c2, ()), (c0, x1, c2, ()), _, rfl, (rBool.mk (rSl.mk sc1 (rInt.mk rNil.mk)))⟩
noncomputable def fsRate : Array Field := match Tryz.prog.underlying 31 with | some (.struct fs) => fs | _ => #[]
theorem rd_Rate (W : World) : Rd Tryz.prog W 31 rRate := by
  intro H enc sp held fuel cs x h
  have ht : Tryz.prog.underlying 31 = some (.struct fsRate) := by kernel_rfl
  have hl := rd_len ht h (k := 5) (by kernel_rfl)
  match cs, hl with
  | [a0, a1, a2, a3, a4], _ =>
    obtain ⟨n0, y0, g0⟩ := rd_field ht h 0 (fsRate[0]!) (by kernel_rfl) (ft := 9) (off := 0) (w := 1) (by kernel_rfl) (by kernel_rfl) (by kernel_rfl)
    replace g0 : DataW.trod enc Tryz.prog W 0 sp held n0 9 [a0] = some y0 := g0
    obtain ⟨c0, e0, _, zc0⟩ := DataW.trod_string (show Tryz.prog.underlying 9 = some .string by kernel_rfl) g0
    replace zc0 : c0.size ≤ 9223372036854775807 := zc0
    simp only [List.cons.injEq, and_true] at e0
    subst e0
    obtain ⟨n1, y1, g1⟩ := rd_field ht h 1 (fsRate[1]!) (by kernel_rfl) (ft := 9) (off := 1) (w := 1) (by kernel_rfl) (by kernel_rfl) (by kernel_rfl)
    replace g1 : DataW.trod enc Tryz.prog W 0 sp held n1 9 [a1] = some y1 := g1
    obtain ⟨c1, e1, _, zc1⟩ := DataW.trod_string (show Tryz.prog.underlying 9 = some .string by kernel_rfl) g1
    replace zc1 : c1.size ≤ 9223372036854775807 := zc1
    simp only [List.cons.injEq, and_true] at e1
    subst e1
    obtain ⟨n2, y2, g2⟩ := rd_field ht h 2 (fsRate[2]!) (by kernel_rfl) (ft := 29) (off := 2) (w := 3) (by kernel_rfl) (by kernel_rfl) (by kernel_rfl)
    replace g2 : DataW.trod enc Tryz.prog W 0 sp held n2 29 [a2, a3, a4] = some y2 := g2
    obtain ⟨⟨c2, c3, c4, cu2⟩, ⟨x2, x3, x4, xu2⟩, f2q, e2, hr2⟩ := rd_Dec W g2
    replace e2 : [a2, a3, a4] = [Value.bool c2, Value.slice c3.a c3.n c3.c, Value.int .i64 c4] := e2
    simp only [List.cons.injEq, and_true] at e2
    obtain ⟨rfl, rfl, rfl⟩ := e2
    obtain ⟨ec2, hr2⟩ := hr2
    replace ec2 : c2 = x2 := ec2
    subst ec2
    obtain ⟨f3, fr3, ec3, sc3, hr2⟩ := hr2
    subst ec3
    replace sc3 : LR rI _ c3 x3 f3 := sc3
    obtain ⟨ec4, hr2⟩ := hr2
    replace ec4 : c4 = x4 := ec4
    subst ec4
    exact ⟨(c0, c1, c2, c3, c4, ()), (c0, c1, c2, x3, c4, ()), _, rfl, (rStr.mk zc0 (rStr.mk zc1 (rBool.mk (rSl.mk sc3 (rInt.mk rNil.mk)))))⟩
noncomputable def fsCmd : Array Field := match Tryz.prog.underlying 33 with | some (.struct fs) => fs | _ => #[]
theorem rd_Cmd (W : World) : Rd Tryz.prog W 33 rCmd := by
  intro H enc sp held fuel cs x h
  have ht : Tryz.prog.underlying 33 = some (.struct fsCmd) := by kernel_rfl
  have hl := rd_len ht h (k := 19) (by kernel_rfl)
  match cs, hl with
  | [a0, a1, a2, a3, a4, a5, a6, a7, a8, a9, a10, a11, a12, a13, a14, a15, a16, a17, a18], _ =>
    obtain ⟨n0, y0, g0⟩ := rd_field ht h 0 (fsCmd[0]!) (by kernel_rfl) (ft := 3) (off := 0) (w := 1) (by kernel_rfl) (by kernel_rfl) (by kernel_rfl)
    replace g0 : DataW.trod enc Tryz.prog W 0 sp held n0 3 [a0] = some y0 := g0
    obtain ⟨c0, e0, _⟩ := DataW.trod_int (show Tryz.prog.underlying 3 = some (.int .i64) by kernel_rfl) g0
    simp only [List.cons.injEq, and_true] at e0
    subst e0
    obtain ⟨n1, y1, g1⟩ := rd_field ht h 1 (fsCmd[1]!) (by kernel_rfl) (ft := 9) (off := 1) (w := 1) (by kernel_rfl) (by kernel_rfl) (by kernel_rfl)
    replace g1 : DataW.trod enc Tryz.prog W 0 sp held n1 9 [a1] = some y1 := g1
    obtain ⟨c1, e1, _, zc1⟩ := DataW.trod_string (show Tryz.prog.underlying 9 = some .string by kernel_rfl) g1
    replace zc1 : c1.size ≤ 9223372036854775807 := zc1
    simp only [List.cons.injEq, and_true] at e1
    subst e1
    obtain ⟨n2, y2, g2⟩ := rd_field ht h 2 (fsCmd[2]!) (by kernel_rfl) (ft := 9) (off := 2) (w := 1) (by kernel_rfl) (by kernel_rfl) (by kernel_rfl)
    replace g2 : DataW.trod enc Tryz.prog W 0 sp held n2 9 [a2] = some y2 := g2
    obtain ⟨c2, e2, _, zc2⟩ := DataW.trod_string (show Tryz.prog.underlying 9 = some .string by kernel_rfl) g2
    replace zc2 : c2.size ≤ 9223372036854775807 := zc2
    simp only [List.cons.injEq, and_true] at e2
    subst e2
    obtain ⟨n3, y3, g3⟩ := rd_field ht h 3 (fsCmd[3]!) (by kernel_rfl) (ft := 9) (off := 3) (w := 1) (by kernel_rfl) (by kernel_rfl) (by kernel_rfl)
    replace g3 : DataW.trod enc Tryz.prog W 0 sp held n3 9 [a3] = some y3 := g3
    obtain ⟨c3, e3, _, zc3⟩ := DataW.trod_string (show Tryz.prog.underlying 9 = some .string by kernel_rfl) g3
    replace zc3 : c3.size ≤ 9223372036854775807 := zc3
    simp only [List.cons.injEq, and_true] at e3
    subst e3
    obtain ⟨n4, y4, g4⟩ := rd_field ht h 4 (fsCmd[4]!) (by kernel_rfl) (ft := 9) (off := 4) (w := 1) (by kernel_rfl) (by kernel_rfl) (by kernel_rfl)
    replace g4 : DataW.trod enc Tryz.prog W 0 sp held n4 9 [a4] = some y4 := g4
    obtain ⟨c4, e4, _, zc4⟩ := DataW.trod_string (show Tryz.prog.underlying 9 = some .string by kernel_rfl) g4
    replace zc4 : c4.size ≤ 9223372036854775807 := zc4
    simp only [List.cons.injEq, and_true] at e4
    subst e4
    obtain ⟨n5, y5, g5⟩ := rd_field ht h 5 (fsCmd[5]!) (by kernel_rfl) (ft := 26) (off := 5) (w := 3) (by kernel_rfl) (by kernel_rfl) (by kernel_rfl)
    replace g5 : DataW.trod enc Tryz.prog W 0 sp held n5 26 [a5, a6, a7] = some y5 := g5
    obtain ⟨⟨c5, c6, c7, cu5⟩, ⟨x5, x6, x7, xu5⟩, f5q, e5, hr5⟩ := rd_Money W g5
    replace e5 : [a5, a6, a7] = [Value.string c5, Value.bool c6, Value.slice c7.a c7.n c7.c] := e5
    simp only [List.cons.injEq, and_true] at e5
    obtain ⟨rfl, rfl, rfl⟩ := e5
    obtain ⟨⟨ec5, zc5⟩, hr5⟩ := hr5
    replace ec5 : c5 = x5 := ec5
    subst ec5
    replace zc5 : c5.size ≤ 9223372036854775807 := zc5
    obtain ⟨ec6, hr5⟩ := hr5
    replace ec6 : c6 = x6 := ec6
    subst ec6
    obtain ⟨f7, fr7, ec7, sc7, hr5⟩ := hr5
    subst ec7
    replace sc7 : LR rI _ c7 x7 f7 := sc7
    obtain ⟨n8, y8, g8⟩ := rd_field ht h 6 (fsCmd[6]!) (by kernel_rfl) (ft := 3) (off := 8) (w := 1) (by kernel_rfl) (by kernel_rfl) (by kernel_rfl)
    replace g8 : DataW.trod enc Tryz.prog W 0 sp held n8 3 [a8] = some y8 := g8
    obtain ⟨c8, e8, _⟩ := DataW.trod_int (show Tryz.prog.underlying 3 = some (.int .i64) by kernel_rfl) g8
    simp only [List.cons.injEq, and_true] at e8
    subst e8
    obtain ⟨n9, y9, g9⟩ := rd_field ht h 7 (fsCmd[7]!) (by kernel_rfl) (ft := 27) (off := 9) (w := 1) (by kernel_rfl) (by kernel_rfl) (by kernel_rfl)
    replace g9 : DataW.trod enc Tryz.prog W 0 sp held n9 27 [a9] = some y9 := g9
    obtain ⟨c9, x9, f9, e9, sc9⟩ := rd_slice (e := 9) (rd_string (show Tryz.prog.underlying 9 = some .string by kernel_rfl)) (by kernel_rfl) (by kernel_rfl) (by decide) g9
    simp only [List.cons.injEq, and_true] at e9
    subst e9
    obtain ⟨n10, y10, g10⟩ := rd_field ht h 8 (fsCmd[8]!) (by kernel_rfl) (ft := 22) (off := 10) (w := 1) (by kernel_rfl) (by kernel_rfl) (by kernel_rfl)
    replace g10 : DataW.trod enc Tryz.prog W 0 sp held n10 22 [a10] = some y10 := g10
    obtain ⟨c10, x10, f10, e10, sc10⟩ := rd_slice (e := 3) (rd_int (show Tryz.prog.underlying 3 = some (.int .i64) by kernel_rfl)) (by kernel_rfl) (by kernel_rfl) (by decide) g10
    simp only [List.cons.injEq, and_true] at e10
    subst e10
    obtain ⟨n11, y11, g11⟩ := rd_field ht h 9 (fsCmd[9]!) (by kernel_rfl) (ft := 29) (off := 11) (w := 3) (by kernel_rfl) (by kernel_rfl) (by kernel_rfl)
    replace g11 : DataW.trod enc Tryz.prog W 0 sp held n11 29 [a11, a12, a13] = some y11 := g11
    obtain ⟨⟨c11, c12, c13, cu11⟩, ⟨x11, x12, x13, xu11⟩, f11q, e11, hr11⟩ := rd_Dec W g11
    replace e11 : [a11, a12, a13] = [Value.bool c11, Value.slice c12.a c12.n c12.c, Value.int .i64 c13] := e11
    simp only [List.cons.injEq, and_true] at e11
    obtain ⟨rfl, rfl, rfl⟩ := e11
    obtain ⟨ec11, hr11⟩ := hr11
    replace ec11 : c11 = x11 := ec11
    subst ec11
    obtain ⟨f12, fr12, ec12, sc12, hr11⟩ := hr11
    subst ec12
    replace sc12 : LR rI _ c12 x12 f12 := sc12
    obtain ⟨ec13, hr11⟩ := hr11
    replace ec13 : c13 = x13 := ec13
    subst ec13
    obtain ⟨n14, y14, g14⟩ := rd_field ht h 10 (fsCmd[10]!) (by kernel_rfl) (ft := 31) (off := 14) (w := 5) (by kernel_rfl) (by kernel_rfl) (by kernel_rfl)
    replace g14 : DataW.trod enc Tryz.prog W 0 sp held n14 31 [a14, a15, a16, a17, a18] = some y14 := g14
    obtain ⟨⟨c14, c15, c16, c17, c18, cu14⟩, ⟨x14, x15, x16, x17, x18, xu14⟩, f14q, e14, hr14⟩ := rd_Rate W g14
    replace e14 : [a14, a15, a16, a17, a18] = [Value.string c14, Value.string c15, Value.bool c16, Value.slice c17.a c17.n c17.c, Value.int .i64 c18] := e14
    simp only [List.cons.injEq, and_true] at e14
    obtain ⟨rfl, rfl, rfl, rfl, rfl⟩ := e14
    obtain ⟨⟨ec14, zc14⟩, hr14⟩ := hr14
    replace ec14 : c14 = x14 := ec14
    subst ec14
    replace zc14 : c14.size ≤ 9223372036854775807 := zc14
    obtain ⟨⟨ec15, zc15⟩, hr14⟩ := hr14
    replace ec15 : c15 = x15 := ec15
    subst ec15
    replace zc15 : c15.size ≤ 9223372036854775807 := zc15
    obtain ⟨ec16, hr14⟩ := hr14
    replace ec16 : c16 = x16 := ec16
    subst ec16
    obtain ⟨f17, fr17, ec17, sc17, hr14⟩ := hr14
    subst ec17
    replace sc17 : LR rI _ c17 x17 f17 := sc17
    obtain ⟨ec18, hr14⟩ := hr14
    replace ec18 : c18 = x18 := ec18
    subst ec18
    exact ⟨(c0, c1, c2, c3, c4, c5, c6, c7, c8, c9, c10, c11, c12, c13, c14, c15, c16, c17, c18, ()), (c0, c1, c2, c3, c4, c5, c6, x7, c8, x9, x10, c11, x12, c13, c14, c15, c16, x17, c18, ()), _, rfl, (rInt.mk (rStr.mk zc1 (rStr.mk zc2 (rStr.mk zc3 (rStr.mk zc4 (rStr.mk zc5 (rBool.mk (rSl.mk sc7 (rInt.mk (rSl.mk sc9 (rSl.mk sc10 (rBool.mk (rSl.mk sc12 (rInt.mk (rStr.mk zc14 (rStr.mk zc15 (rBool.mk (rSl.mk sc17 (rInt.mk rNil.mk)))))))))))))))))))⟩
end Go.Proofs.YtfbnocogljmpdaaGreatDoor
