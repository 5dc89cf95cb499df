/-
  What each function of the seat comes to, as a tree; each tree is checked against the code.
-/
import Derived.Test.YtikhpnlglkipcaaGreatDoorTA
namespace Go.Proofs.YtikhpnlglkipcaaGreatDoor
open Sx
set_option maxRecDepth 100000
/-! loop.example/g00793/spec.IntCmp -/
def aS_IntCmp : An := ⟨[], [], []⟩
noncomputable def tS_IntCmp (x0 : Bool × SlV × PUnit) (x1 : Bool × SlV × PUnit) : T :=
  .call false 79 [Sh1.val (.g [.b, .l]) (x0)] (.v (.o (.b))) fun y1 =>
  .br (!y1) (
    .ret [.int .i64 ((0 : Int))]) <|
  .call false 79 [Sh1.val (.g [.b, .l]) (x1)] (.v (.o (.b))) fun y2 =>
  .br (!y2) (
    .ret [.int .i64 ((0 : Int))]) <|
  .br (x0.fst) (
    .br (!x1.fst) (
      .ret [.int .i64 ((-1 : Int))]) <|
    .br (!x0.fst) (
      .br (x1.fst) (
        .ret [.int .i64 ((1 : Int))]) <|
      .br (x0.fst) (
        .call false 82 [Sc.val .l (x1.2.1), Sc.val .l (x0.2.1)] (.v (.o (.i .i64))) fun y3 =>
        .ret [.int .i64 (y3)]) <|
      .call false 82 [Sc.val .l (x0.2.1), Sc.val .l (x1.2.1)] (.v (.o (.i .i64))) fun y3 =>
      .ret [.int .i64 (y3)]) <|
    .br (x0.fst) (
      .call false 82 [Sc.val .l (x1.2.1), Sc.val .l (x0.2.1)] (.v (.o (.i .i64))) fun y3 =>
      .ret [.int .i64 (y3)]) <|
    .call false 82 [Sc.val .l (x0.2.1), Sc.val .l (x1.2.1)] (.v (.o (.i .i64))) fun y3 =>
    .ret [.int .i64 (y3)]) <|
  .br (!x0.fst) (
    .br (x1.fst) (
      .ret [.int .i64 ((1 : Int))]) <|
    .br (x0.fst) (
      .call false 82 [Sc.val .l (x1.2.1), Sc.val .l (x0.2.1)] (.v (.o (.i .i64))) fun y3 =>
      .ret [.int .i64 (y3)]) <|
    .call false 82 [Sc.val .l (x0.2.1), Sc.val .l (x1.2.1)] (.v (.o (.i .i64))) fun y3 =>
    .ret [.int .i64 (y3)]) <|
  .br (x0.fst) (
    .call false 82 [Sc.val .l (x1.2.1), Sc.val .l (x0.2.1)] (.v (.o (.i .i64))) fun y3 =>
    .ret [.int .i64 (y3)]) <|
  .call false 82 [Sc.val .l (x0.2.1), Sc.val .l (x1.2.1)] (.v (.o (.i .i64))) fun y3 =>
  .ret [.int .i64 (y3)]
theorem fS_IntCmp (x0 : Bool × SlV × PUnit) (x1 : Bool × SlV × PUnit) : fits Tryz.prog aS_IntCmp 147 [Sh1.val (.g [.b, .l]) (x0), Sh1.val (.g [.b, .l]) (x1)] (tS_IntCmp x0 x1) :=
  ⟨Tryz.f147, Tryz.f147.body.getD .skip, by kernel_rfl, by kernel_rfl, by kernel_rfl, by kernel_rfl, by kernel_rfl, by kernel_rfl⟩
/-! loop.example/g00793/impl.isScale -/
def aI_isScale : An := ⟨[], [], []⟩
noncomputable def tI_isScale (x0 : Int) : T :=
  .br (decide (x0 ≥ (0 : Int))) (
    .ret [.bool (decide (x0 ≤ (30 : Int)))]) <|
  .ret [.bool (false)]
theorem fI_isScale (x0 : Int) : fits Tryz.prog aI_isScale 148 [.int .i64 (x0)] (tI_isScale x0) :=
  ⟨Tryz.f148, Tryz.f148.body.getD .skip, by kernel_rfl, by kernel_rfl, by kernel_rfl, by kernel_rfl, by kernel_rfl, by kernel_rfl⟩
/-! loop.example/g00793/impl.natSmall -/
def aI_natSmall : An := ⟨[(4, [.s 6, .s 7, .s 8], [.a 3, .o (.o (.i .i64)), .o (.o (.i .i64))])], [], []⟩
noncomputable def tI_natSmall (x0 : SlV) (x1 : Int) : T :=
  .rq ((0 : Int) ≤ (↑x0.n : Int) ∧ (↑x0.n : Int) ≤ (↑x0.n : Int) ∧ (↑(8 : Nat) : Int) * (↑x0.n : Int) ≤ (281474976710656 : Int) ∧ (↑x0.n : Int) ≤ (9223372036854775807 : Int)) <|
  .lp [.a 3, .o (.o (.i .i64)), .o (.o (.i .i64))] [.a 3 ((↑x0.n : Int).toNat) ((Go.madeCells { toList := [Go.Value.int Go.IntKind.i64 (0 : Int)] : Array Go.Value } ((↑x0.n : Int).toNat * (1 : Nat))).toList), .v (.int .i64 ((0 : Int))), .v (.int .i64 (Go.IntKind.i64.wrap ((↑x0.n : Int) - (1 : Int))))] fun y1 =>
  .br (decide (y1.2.2.fst ≥ (0 : Int))) (
    .el (x0.a) (x0.n) (y1.2.2.fst) fun y2 =>
    .ld false (y2.add (Int.toNat y1.2.2.fst * (1 : Nat))) (.o (.i .i64)) fun y3 =>
    .rq (x1 ≠ (0 : Int)) <|
    .rq ((0 : Int) ≤ y1.2.2.fst ∧ y1.2.2.fst < (↑y1.1.fst : Int)) <|
    .rq (Int.toNat y1.2.2.fst * (1 : Nat) + [Go.Value.int Go.IntKind.i64 (Go.IntKind.i64.wrap ((Go.IntKind.i64.wrap (Go.IntKind.i64.wrap (y1.2.fst * (1000000000 : Int)) + y3)).tdiv x1))].length ≤ y1.1.snd.length) <|
    .rq (x1 ≠ (0 : Int)) <|
    .nx 0 [.a 3 (y1.1.fst) (setl y1.1.snd (Int.toNat y1.2.2.fst * (1 : Nat)) [Go.Value.int Go.IntKind.i64 (Go.IntKind.i64.wrap ((Go.IntKind.i64.wrap (Go.IntKind.i64.wrap (y1.2.fst * (1000000000 : Int)) + y3)).tdiv x1))]), .v (.int .i64 ((Go.IntKind.i64.wrap (Go.IntKind.i64.wrap (y1.2.fst * (1000000000 : Int)) + y3)).tmod x1)), .v (.int .i64 (Go.IntKind.i64.wrap (y1.2.2.fst - (1 : Int))))]) <|
  .fz (y1.1.fst) (y1.1.snd) 3 fun b2 c2 =>
  .call false 141 [.slice (some { block := b2, off := (0 : Nat) : Go.Addr }) (y1.1.fst) (c2)] (.v (.o (.l))) fun y3 =>
  .ret [Sc.val .l (y3), .int .i64 (y1.2.fst)]
theorem fI_natSmall (x0 : SlV) (x1 : Int) : fits Tryz.prog aI_natSmall 149 [Sc.val .l (x0), .int .i64 (x1)] (tI_natSmall x0 x1) :=
  ⟨Tryz.f149, Tryz.f149.body.getD .skip, by kernel_rfl, by kernel_rfl, by kernel_rfl, by kernel_rfl, by kernel_rfl, by kernel_rfl⟩
/-! loop.example/g00793/impl.NatOf -/
def aI_NatOf : An := ⟨[], [], []⟩
noncomputable def tI_NatOf (x0 : Int) : T :=
  .br (decide (x0 < (0 : Int))) (
    .ret [.slice (none) ((0 : Nat)) ((0 : Nat))]) <|
  .call false 136 [.int .u64 (Go.IntKind.u64.wrap x0)] (.v (.o (.l))) fun y1 =>
  .ret [Sc.val .l (y1)]
theorem fI_NatOf (x0 : Int) : fits Tryz.prog aI_NatOf 150 [.int .i64 (x0)] (tI_NatOf x0) :=
  ⟨Tryz.f150, Tryz.f150.body.getD .skip, by kernel_rfl, by kernel_rfl, by kernel_rfl, by kernel_rfl, by kernel_rfl, by kernel_rfl⟩
/-! loop.example/g00793/impl.divStep -/
def aI_divStep : An := ⟨[(4, [.s 7], [.o (.o (.i .i64))])], [], []⟩
noncomputable def tI_divStep (x0 : SlV) (x1 : SlV) : T :=
  .rg <|
  .el (x0.a) (x0.n) ((↑x1.n : Int)) fun y1 =>
  .ld true (y1.add ((↑x1.n : Int).toNat * (1 : Nat))) (.o (.i .i64)) fun y2 =>
  .el (x0.a) (x0.n) (Go.IntKind.i64.wrap ((↑x1.n : Int) - (1 : Int))) fun y3 =>
  .ld true (y3.add ((Go.IntKind.i64.wrap ((↑x1.n : Int) - (1 : Int))).toNat * (1 : Nat))) (.o (.i .i64)) fun y4 =>
  .el (x1.a) (x1.n) (Go.IntKind.i64.wrap ((↑x1.n : Int) - (1 : Int))) fun y5 =>
  .ld false (y5.add ((Go.IntKind.i64.wrap ((↑x1.n : Int) - (1 : Int))).toNat * (1 : Nat))) (.o (.i .i64)) fun y6 =>
  .rq (y6 ≠ (0 : Int)) <|
  .lp [.o (.o (.i .i64))] [.v (.int .i64 (if (999999999 : Int) < Go.IntKind.i64.wrap ((Go.IntKind.i64.wrap (Go.IntKind.i64.wrap (y2 * (1000000000 : Int)) + y4)).tdiv y6) then (999999999 : Int) else Go.IntKind.i64.wrap ((Go.IntKind.i64.wrap (Go.IntKind.i64.wrap (y2 * (1000000000 : Int)) + y4)).tdiv y6)))] fun y7 =>
  .rg <|
  .br (decide (y7.fst > (0 : Int))) (
    .el (x1.a) (x1.n) (Go.IntKind.i64.wrap ((↑x1.n : Int) - (1 : Int))) fun y8 =>
    .ld true (y8.add ((Go.IntKind.i64.wrap ((↑x1.n : Int) - (1 : Int))).toNat * (1 : Nat))) (.o (.i .i64)) fun y9 =>
    .br (decide (Go.IntKind.i64.wrap (Go.IntKind.i64.wrap (Go.IntKind.i64.wrap (y2 * (1000000000 : Int)) + y4) - Go.IntKind.i64.wrap (y7.fst * y9)) < (1000000000 : Int))) (
      .el (x1.a) (x1.n) (Go.IntKind.i64.wrap ((↑x1.n : Int) - (2 : Int))) fun y10 =>
      .ld true (y10.add ((Go.IntKind.i64.wrap ((↑x1.n : Int) - (2 : Int))).toNat * (1 : Nat))) (.o (.i .i64)) fun y11 =>
      .el (x1.a) (x1.n) (Go.IntKind.i64.wrap ((↑x1.n : Int) - (1 : Int))) fun y12 =>
      .ld true (y12.add ((Go.IntKind.i64.wrap ((↑x1.n : Int) - (1 : Int))).toNat * (1 : Nat))) (.o (.i .i64)) fun y13 =>
      .el (x0.a) (x0.n) (Go.IntKind.i64.wrap ((↑x1.n : Int) - (2 : Int))) fun y14 =>
      .ld true (y14.add ((Go.IntKind.i64.wrap ((↑x1.n : Int) - (2 : Int))).toNat * (1 : Nat))) (.o (.i .i64)) fun y15 =>
      .br (decide (Go.IntKind.i64.wrap (y7.fst * y11) > Go.IntKind.i64.wrap (Go.IntKind.i64.wrap (Go.IntKind.i64.wrap (Go.IntKind.i64.wrap (Go.IntKind.i64.wrap (y2 * (1000000000 : Int)) + y4) - Go.IntKind.i64.wrap (y7.fst * y13)) * (1000000000 : Int)) + y15))) (
        .nx 0 [.v (.int .i64 (Go.IntKind.i64.wrap (y7.fst - (1 : Int))))]) <|
      .call false 152 [Sc.val .l (x0), Sc.val .l (x1), .int .i64 (y7.fst)] (.v (.o (.b))) fun y16 =>
      .br (y16) (
        .call false 153 [Sc.val .l (x0), Sc.val .l (x1)] (.t []) fun _ =>
        .ret [.int .i64 (Go.IntKind.i64.wrap (y7.fst - (1 : Int)))]) <|
      .ret [.int .i64 (y7.fst)]) <|
    .call false 152 [Sc.val .l (x0), Sc.val .l (x1), .int .i64 (y7.fst)] (.v (.o (.b))) fun y10 =>
    .br (y10) (
      .call false 153 [Sc.val .l (x0), Sc.val .l (x1)] (.t []) fun _ =>
      .ret [.int .i64 (Go.IntKind.i64.wrap (y7.fst - (1 : Int)))]) <|
    .ret [.int .i64 (y7.fst)]) <|
  .call false 152 [Sc.val .l (x0), Sc.val .l (x1), .int .i64 (y7.fst)] (.v (.o (.b))) fun y8 =>
  .br (y8) (
    .call false 153 [Sc.val .l (x0), Sc.val .l (x1)] (.t []) fun _ =>
    .ret [.int .i64 (Go.IntKind.i64.wrap (y7.fst - (1 : Int)))]) <|
  .ret [.int .i64 (y7.fst)]
theorem fI_divStep (x0 : SlV) (x1 : SlV) : fits Tryz.prog aI_divStep 151 [Sc.val .l (x0), Sc.val .l (x1)] (tI_divStep x0 x1) :=
  ⟨Tryz.f151, Tryz.f151.body.getD .skip, by kernel_rfl, by kernel_rfl, by kernel_rfl, by kernel_rfl, by kernel_rfl, by kernel_rfl⟩
/-! loop.example/g00793/impl.subTimes -/
def aI_subTimes : An := ⟨[(3, [.s 0, .s 7, .s 13], [.o (.o (.l)), .o (.o (.i .i64)), .o (.o (.i .i64))])], [], []⟩
noncomputable def tI_subTimes (x0 : SlV) (x1 : SlV) (x2 : Int) : T :=
  .lp [.o (.o (.l)), .o (.o (.i .i64)), .o (.o (.i .i64))] [.v (Sc.val .l (x0)), .v (.int .i64 ((0 : Int))), .v (.int .i64 ((0 : Int)))] fun y1 =>
  .br (decide (y1.2.2.fst < (↑x1.n : Int))) (
    .el (x1.a) (x1.n) (y1.2.2.fst) fun y2 =>
    .ld false (y2.add (Int.toNat y1.2.2.fst * (1 : Nat))) (.o (.i .i64)) fun y3 =>
    .el (y1.1.a) (y1.1.n) (y1.2.2.fst) fun y4 =>
    .ld false (y4.add (Int.toNat y1.2.2.fst * (1 : Nat))) (.o (.i .i64)) fun y5 =>
    .br (decide (Go.IntKind.i64.wrap (Go.IntKind.i64.wrap (y5 - Go.IntKind.i64.wrap (y3 * x2)) - y1.2.fst) < (0 : Int))) (
      .rq ((1000000000 : Int) ≠ (0 : Int)) <|
      .el (y1.1.a) (y1.1.n) (y1.2.2.fst) fun y6 =>
      .st (y6.add (Int.toNat y1.2.2.fst * (1 : Nat))) [.int .i64 (Go.IntKind.i64.wrap (Go.IntKind.i64.wrap (Go.IntKind.i64.wrap (y5 - Go.IntKind.i64.wrap (y3 * x2)) - y1.2.fst) + Go.IntKind.i64.wrap (Go.IntKind.i64.wrap ((Go.IntKind.i64.wrap (Go.IntKind.i64.wrap (Go.IntKind.i64.wrap ((0 : Int) - Go.IntKind.i64.wrap (Go.IntKind.i64.wrap (y5 - Go.IntKind.i64.wrap (y3 * x2)) - y1.2.fst)) + (1000000000 : Int)) - (1 : Int))).tdiv (1000000000 : Int)) * (1000000000 : Int))))] <|
      .nx 0 [.v (Sc.val .l (y1.1)), .v (.int .i64 (Go.IntKind.i64.wrap ((Go.IntKind.i64.wrap (Go.IntKind.i64.wrap (Go.IntKind.i64.wrap ((0 : Int) - Go.IntKind.i64.wrap (Go.IntKind.i64.wrap (y5 - Go.IntKind.i64.wrap (y3 * x2)) - y1.2.fst)) + (1000000000 : Int)) - (1 : Int))).tdiv (1000000000 : Int)))), .v (.int .i64 (Go.IntKind.i64.wrap (y1.2.2.fst + (1 : Int))))]) <|
    .el (y1.1.a) (y1.1.n) (y1.2.2.fst) fun y6 =>
    .st (y6.add (Int.toNat y1.2.2.fst * (1 : Nat))) [.int .i64 (Go.IntKind.i64.wrap (Go.IntKind.i64.wrap (y5 - Go.IntKind.i64.wrap (y3 * x2)) - y1.2.fst))] <|
    .nx 0 [.v (Sc.val .l (y1.1)), .v (.int .i64 ((0 : Int))), .v (.int .i64 (Go.IntKind.i64.wrap (y1.2.2.fst + (1 : Int))))]) <|
  .el (y1.1.a) (y1.1.n) ((↑x1.n : Int)) fun y2 =>
  .ld false (y2.add ((↑x1.n : Int).toNat * (1 : Nat))) (.o (.i .i64)) fun y3 =>
  .el (y1.1.a) (y1.1.n) ((↑x1.n : Int)) fun y4 =>
  .st (y4.add ((↑x1.n : Int).toNat * (1 : Nat))) [.int .i64 (Go.IntKind.i64.wrap (y3 - y1.2.fst))] <|
  .el (y1.1.a) (y1.1.n) ((↑x1.n : Int)) fun y5 =>
  .ld false (y5.add ((↑x1.n : Int).toNat * (1 : Nat))) (.o (.i .i64)) fun y6 =>
  .ret [.bool (decide (y6 < (0 : Int)))]
theorem fI_subTimes (x0 : SlV) (x1 : SlV) (x2 : Int) : fits Tryz.prog aI_subTimes 152 [Sc.val .l (x0), Sc.val .l (x1), .int .i64 (x2)] (tI_subTimes x0 x1 x2) :=
  ⟨Tryz.f152, Tryz.f152.body.getD .skip, by kernel_rfl, by kernel_rfl, by kernel_rfl, by kernel_rfl, by kernel_rfl, by kernel_rfl⟩
/-! loop.example/g00793/impl.addBack -/
def aI_addBack : An := ⟨[(2, [.s 0, .s 4, .s 9], [.o (.o (.l)), .o (.o (.i .i64)), .o (.o (.i .i64))])], [], []⟩
noncomputable def tI_addBack (x0 : SlV) (x1 : SlV) : T :=
  .lp [.o (.o (.l)), .o (.o (.i .i64)), .o (.o (.i .i64))] [.v (Sc.val .l (x0)), .v (.int .i64 ((0 : Int))), .v (.int .i64 ((0 : Int)))] fun y1 =>
  .br (decide (y1.2.2.fst < (↑x1.n : Int))) (
    .el (x1.a) (x1.n) (y1.2.2.fst) fun y2 =>
    .ld false (y2.add (Int.toNat y1.2.2.fst * (1 : Nat))) (.o (.i .i64)) fun y3 =>
    .el (y1.1.a) (y1.1.n) (y1.2.2.fst) fun y4 =>
    .ld false (y4.add (Int.toNat y1.2.2.fst * (1 : Nat))) (.o (.i .i64)) fun y5 =>
    .rq ((1000000000 : Int) ≠ (0 : Int)) <|
    .el (y1.1.a) (y1.1.n) (y1.2.2.fst) fun y6 =>
    .st (y6.add (Int.toNat y1.2.2.fst * (1 : Nat))) [.int .i64 ((Go.IntKind.i64.wrap (y1.2.fst + Go.IntKind.i64.wrap (y5 + y3))).tmod (1000000000 : Int))] <|
    .rq ((1000000000 : Int) ≠ (0 : Int)) <|
    .nx 0 [.v (Sc.val .l (y1.1)), .v (.int .i64 (Go.IntKind.i64.wrap ((Go.IntKind.i64.wrap (y1.2.fst + Go.IntKind.i64.wrap (y5 + y3))).tdiv (1000000000 : Int)))), .v (.int .i64 (Go.IntKind.i64.wrap (y1.2.2.fst + (1 : Int))))]) <|
  .el (y1.1.a) (y1.1.n) ((↑x1.n : Int)) fun y2 =>
  .ld false (y2.add ((↑x1.n : Int).toNat * (1 : Nat))) (.o (.i .i64)) fun y3 =>
  .el (y1.1.a) (y1.1.n) ((↑x1.n : Int)) fun y4 =>
  .st (y4.add ((↑x1.n : Int).toNat * (1 : Nat))) [.int .i64 (Go.IntKind.i64.wrap (y3 + y1.2.fst))] <|
  .ret []
theorem fI_addBack (x0 : SlV) (x1 : SlV) : fits Tryz.prog aI_addBack 153 [Sc.val .l (x0), Sc.val .l (x1)] (tI_addBack x0 x1) :=
  ⟨Tryz.f153, Tryz.f153.body.getD .skip, by kernel_rfl, by kernel_rfl, by kernel_rfl, by kernel_rfl, by kernel_rfl, by kernel_rfl⟩
end Go.Proofs.YtikhpnlglkipcaaGreatDoor
