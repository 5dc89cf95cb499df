/-
  What each function of the seat comes to, as a tree; each tree is checked against the code.
-/
import Derived.Test.YtiadnlilmcdibaaGreatDoorTA
namespace Go.Proofs.YtiadnlilmcdibaaGreatDoor
open Sx
set_option maxRecDepth 100000
/-! loop.example/g00793/impl.natMul -/
def aI_natMul : An := ⟨[(3, [.s 5, .s 21], [.a 3, .o (.o (.i .i64))]), (7, [.s 5, .s 8, .s 28], [.a 3, .o (.o (.i .i64)), .o (.o (.i .i64))]), (14, [.s 5, .s 8, .s 11], [.a 3, .o (.o (.i .i64)), .o (.o (.i .i64))])], [], []⟩
noncomputable def tI_natMul (x0 : SlV) (x1 : SlV) : T :=
  .rq ((0 : Int) ≤ Go.IntKind.i64.wrap (Go.IntKind.i64.wrap ((↑x0.n : Int) + (↑x1.n : Int)) + (1 : Int)) ∧ Go.IntKind.i64.wrap (Go.IntKind.i64.wrap ((↑x0.n : Int) + (↑x1.n : Int)) + (1 : Int)) ≤ Go.IntKind.i64.wrap (Go.IntKind.i64.wrap ((↑x0.n : Int) + (↑x1.n : Int)) + (1 : Int)) ∧ (↑(8 : Nat) : Int) * Go.IntKind.i64.wrap (Go.IntKind.i64.wrap ((↑x0.n : Int) + (↑x1.n : Int)) + (1 : Int)) ≤ (281474976710656 : Int) ∧ Go.IntKind.i64.wrap (Go.IntKind.i64.wrap ((↑x0.n : Int) + (↑x1.n : Int)) + (1 : Int)) ≤ (9223372036854775807 : Int)) <|
  .lp [.a 3, .o (.o (.i .i64))] [.a 3 ((Go.IntKind.i64.wrap (Go.IntKind.i64.wrap ((↑x0.n : Int) + (↑x1.n : Int)) + (1 : Int))).toNat) ((Go.madeCells { toList := [Go.Value.int Go.IntKind.i64 (0 : Int)] : Array Go.Value } ((Go.IntKind.i64.wrap (Go.IntKind.i64.wrap ((↑x0.n : Int) + (↑x1.n : Int)) + (1 : Int))).toNat * (1 : Nat))).toList), .v (.int .i64 ((0 : Int)))] fun y1 =>
  .br (decide (y1.2.fst < (↑x0.n : Int))) (
    .el (x0.a) (x0.n) (y1.2.fst) fun y2 =>
    .ld false (y2.add (Int.toNat y1.2.fst * (1 : Nat))) (.o (.i .i64)) fun y3 =>
    .lp [.a 3, .o (.o (.i .i64)), .o (.o (.i .i64))] [.a 3 (y1.1.fst) (y1.1.snd), .v (.int .i64 ((0 : Int))), .v (.int .i64 ((0 : Int)))] fun y4 =>
    .br (decide (y4.2.2.fst < (↑x1.n : Int))) (
      .el (x1.a) (x1.n) (y4.2.2.fst) fun y5 =>
      .ld false (y5.add (Int.toNat y4.2.2.fst * (1 : Nat))) (.o (.i .i64)) fun y6 =>
      .rq ((0 : Int) ≤ Go.IntKind.i64.wrap (y1.2.fst + y4.2.2.fst) ∧ Go.IntKind.i64.wrap (y1.2.fst + y4.2.2.fst) < (↑y4.1.fst : Int)) <|
      .xs (y4.1.snd) ((Go.IntKind.i64.wrap (y1.2.fst + y4.2.2.fst)).toNat * (1 : Nat)) (.o (.i .i64)) fun y7 =>
      .rq ((1000000000 : Int) ≠ (0 : Int)) <|
      .rq ((0 : Int) ≤ Go.IntKind.i64.wrap (y1.2.fst + y4.2.2.fst) ∧ Go.IntKind.i64.wrap (y1.2.fst + y4.2.2.fst) < (↑y4.1.fst : Int)) <|
      .rq ((Go.IntKind.i64.wrap (y1.2.fst + y4.2.2.fst)).toNat * (1 : Nat) + [Go.Value.int Go.IntKind.i64 ((Go.IntKind.i64.wrap (y4.2.fst + Go.IntKind.i64.wrap (y7 + Go.IntKind.i64.wrap (y3 * y6)))).tmod (1000000000 : Int))].length ≤ y4.1.snd.length) <|
      .rq ((1000000000 : Int) ≠ (0 : Int)) <|
      .nx 1 [.a 3 (y4.1.fst) (setl y4.1.snd ((Go.IntKind.i64.wrap (y1.2.fst + y4.2.2.fst)).toNat * (1 : Nat)) [Go.Value.int Go.IntKind.i64 ((Go.IntKind.i64.wrap (y4.2.fst + Go.IntKind.i64.wrap (y7 + Go.IntKind.i64.wrap (y3 * y6)))).tmod (1000000000 : Int))]), .v (.int .i64 (Go.IntKind.i64.wrap ((Go.IntKind.i64.wrap (y4.2.fst + Go.IntKind.i64.wrap (y7 + Go.IntKind.i64.wrap (y3 * y6)))).tdiv (1000000000 : Int)))), .v (.int .i64 (Go.IntKind.i64.wrap (y4.2.2.fst + (1 : Int))))]) <|
    .lp [.a 3, .o (.o (.i .i64)), .o (.o (.i .i64))] [.a 3 (y4.1.fst) (y4.1.snd), .v (.int .i64 (y4.2.fst)), .v (.int .i64 (Go.IntKind.i64.wrap (y1.2.fst + (↑x1.n : Int))))] fun y5 =>
    .br (decide (y5.2.fst > (0 : Int))) (
      .rq ((0 : Int) ≤ y5.2.2.fst ∧ y5.2.2.fst < (↑y5.1.fst : Int)) <|
      .xs (y5.1.snd) (Int.toNat y5.2.2.fst * (1 : Nat)) (.o (.i .i64)) fun y6 =>
      .rq ((1000000000 : Int) ≠ (0 : Int)) <|
      .rq ((0 : Int) ≤ y5.2.2.fst ∧ y5.2.2.fst < (↑y5.1.fst : Int)) <|
      .rq (Int.toNat y5.2.2.fst * (1 : Nat) + [Go.Value.int Go.IntKind.i64 ((Go.IntKind.i64.wrap (y5.2.fst + y6)).tmod (1000000000 : Int))].length ≤ y5.1.snd.length) <|
      .rq ((1000000000 : Int) ≠ (0 : Int)) <|
      .nx 2 [.a 3 (y5.1.fst) (setl y5.1.snd (Int.toNat y5.2.2.fst * (1 : Nat)) [Go.Value.int Go.IntKind.i64 ((Go.IntKind.i64.wrap (y5.2.fst + y6)).tmod (1000000000 : Int))]), .v (.int .i64 (Go.IntKind.i64.wrap ((Go.IntKind.i64.wrap (y5.2.fst + y6)).tdiv (1000000000 : Int)))), .v (.int .i64 (Go.IntKind.i64.wrap (y5.2.2.fst + (1 : Int))))]) <|
    .nx 0 [.a 3 (y5.1.fst) (y5.1.snd), .v (.int .i64 (Go.IntKind.i64.wrap (y1.2.fst + (1 : Int))))]) <|
  .fz (y1.1.fst) (y1.1.snd) 3 fun b2 c2 =>
  .call false 176 [.slice (some { block := b2, off := (0 : Nat) : Go.Addr }) (y1.1.fst) (c2)] (.v (.o (.l))) fun y3 =>
  .ret [Sc.val .l (y3)]
theorem fI_natMul (x0 : SlV) (x1 : SlV) : fits Tryz.prog aI_natMul 174 [Sc.val .l (x0), Sc.val .l (x1)] (tI_natMul x0 x1) :=
  ⟨Tryz.f174, Tryz.f174.body.getD .skip, by kernel_rfl, by kernel_rfl, by kernel_rfl, by kernel_rfl, by kernel_rfl, by kernel_rfl⟩
/-! loop.example/g00793/impl.divStep -/
def aI_divStep : An := ⟨[(4, [.s 7], [.o (.o (.i .i64))])], [], []⟩
noncomputable def tI_divStep (x0 : SlV) (x1 : SlV) : T :=
  .rg <|
  .el (x0.a) (x0.n) ((↑x1.n : Int)) fun y1 =>
  .ld true (y1.add ((↑x1.n : Int).toNat * (1 : Nat))) (.o (.i .i64)) fun y2 =>
  .el (x0.a) (x0.n) (Go.IntKind.i64.wrap ((↑x1.n : Int) - (1 : Int))) fun y3 =>
  .ld true (y3.add ((Go.IntKind.i64.wrap ((↑x1.n : Int) - (1 : Int))).toNat * (1 : Nat))) (.o (.i .i64)) fun y4 =>
  .el (x1.a) (x1.n) (Go.IntKind.i64.wrap ((↑x1.n : Int) - (1 : Int))) fun y5 =>
  .ld false (y5.add ((Go.IntKind.i64.wrap ((↑x1.n : Int) - (1 : Int))).toNat * (1 : Nat))) (.o (.i .i64)) fun y6 =>
  .rq (y6 ≠ (0 : Int)) <|
  .lp [.o (.o (.i .i64))] [.v (.int .i64 (if (999999999 : Int) < Go.IntKind.i64.wrap ((Go.IntKind.i64.wrap (Go.IntKind.i64.wrap (y2 * (1000000000 : Int)) + y4)).tdiv y6) then (999999999 : Int) else Go.IntKind.i64.wrap ((Go.IntKind.i64.wrap (Go.IntKind.i64.wrap (y2 * (1000000000 : Int)) + y4)).tdiv y6)))] fun y7 =>
  .rg <|
  .br (decide (y7.fst > (0 : Int))) (
    .el (x1.a) (x1.n) (Go.IntKind.i64.wrap ((↑x1.n : Int) - (1 : Int))) fun y8 =>
    .ld true (y8.add ((Go.IntKind.i64.wrap ((↑x1.n : Int) - (1 : Int))).toNat * (1 : Nat))) (.o (.i .i64)) fun y9 =>
    .br (decide (Go.IntKind.i64.wrap (Go.IntKind.i64.wrap (Go.IntKind.i64.wrap (y2 * (1000000000 : Int)) + y4) - Go.IntKind.i64.wrap (y7.fst * y9)) < (1000000000 : Int))) (
      .el (x1.a) (x1.n) (Go.IntKind.i64.wrap ((↑x1.n : Int) - (2 : Int))) fun y10 =>
      .ld true (y10.add ((Go.IntKind.i64.wrap ((↑x1.n : Int) - (2 : Int))).toNat * (1 : Nat))) (.o (.i .i64)) fun y11 =>
      .el (x1.a) (x1.n) (Go.IntKind.i64.wrap ((↑x1.n : Int) - (1 : Int))) fun y12 =>
      .ld true (y12.add ((Go.IntKind.i64.wrap ((↑x1.n : Int) - (1 : Int))).toNat * (1 : Nat))) (.o (.i .i64)) fun y13 =>
      .el (x0.a) (x0.n) (Go.IntKind.i64.wrap ((↑x1.n : Int) - (2 : Int))) fun y14 =>
      .ld true (y14.add ((Go.IntKind.i64.wrap ((↑x1.n : Int) - (2 : Int))).toNat * (1 : Nat))) (.o (.i .i64)) fun y15 =>
      .br (decide (Go.IntKind.i64.wrap (y7.fst * y11) > Go.IntKind.i64.wrap (Go.IntKind.i64.wrap (Go.IntKind.i64.wrap (Go.IntKind.i64.wrap (Go.IntKind.i64.wrap (y2 * (1000000000 : Int)) + y4) - Go.IntKind.i64.wrap (y7.fst * y13)) * (1000000000 : Int)) + y15))) (
        .nx 0 [.v (.int .i64 (Go.IntKind.i64.wrap (y7.fst - (1 : Int))))]) <|
      .call false 180 [Sc.val .l (x0), Sc.val .l (x1), .int .i64 (y7.fst)] (.v (.o (.b))) fun y16 =>
      .br (y16) (
        .call false 181 [Sc.val .l (x0), Sc.val .l (x1)] (.t []) fun y17 =>
        .ret [.int .i64 (Go.IntKind.i64.wrap (y7.fst - (1 : Int)))]) <|
      .ret [.int .i64 (y7.fst)]) <|
    .call false 180 [Sc.val .l (x0), Sc.val .l (x1), .int .i64 (y7.fst)] (.v (.o (.b))) fun y10 =>
    .br (y10) (
      .call false 181 [Sc.val .l (x0), Sc.val .l (x1)] (.t []) fun y11 =>
      .ret [.int .i64 (Go.IntKind.i64.wrap (y7.fst - (1 : Int)))]) <|
    .ret [.int .i64 (y7.fst)]) <|
  .call false 180 [Sc.val .l (x0), Sc.val .l (x1), .int .i64 (y7.fst)] (.v (.o (.b))) fun y8 =>
  .br (y8) (
    .call false 181 [Sc.val .l (x0), Sc.val .l (x1)] (.t []) fun y9 =>
    .ret [.int .i64 (Go.IntKind.i64.wrap (y7.fst - (1 : Int)))]) <|
  .ret [.int .i64 (y7.fst)]
theorem fI_divStep (x0 : SlV) (x1 : SlV) : fits Tryz.prog aI_divStep 175 [Sc.val .l (x0), Sc.val .l (x1)] (tI_divStep x0 x1) :=
  ⟨Tryz.f175, Tryz.f175.body.getD .skip, by kernel_rfl, by kernel_rfl, by kernel_rfl, by kernel_rfl, by kernel_rfl, by kernel_rfl⟩
/-! loop.example/g00793/impl.trim -/
def aI_trim : An := ⟨[(1, [.s 0], [.o (.o (.l))])], [], []⟩
noncomputable def tI_trim (x0 : SlV) : T :=
  .lp [.o (.o (.l))] [.v (Sc.val .l (x0))] fun y1 =>
  .br (decide ((↑y1.1.n : Int) > (0 : Int))) (
    .el (y1.1.a) (y1.1.n) (Go.IntKind.i64.wrap ((↑y1.1.n : Int) - (1 : Int))) fun y2 =>
    .ld false (y2.add ((Go.IntKind.i64.wrap ((↑y1.1.n : Int) - (1 : Int))).toNat * (1 : Nat))) (.o (.i .i64)) fun y3 =>
    .br (y3 == (0 : Int)) (
      .rq ((0 : Int) ≤ (0 : Int) ∧ (0 : Int) ≤ Go.IntKind.i64.wrap ((↑y1.1.n : Int) - (1 : Int)) ∧ Go.IntKind.i64.wrap ((↑y1.1.n : Int) - (1 : Int)) ≤ (↑y1.1.c : Int) ∧ (↑y1.1.c : Int) ≤ (↑y1.1.c : Int)) <|
      .nx 0 [.v (.slice (if (↑y1.1.c : Int).toNat = Int.toNat (0 : Int) then y1.1.a else Option.map (fun x => x.add (Int.toNat (0 : Int) * Go.Proofs.Tryz.prog.types[(3 : Nat)].size)) y1.1.a) ((Go.IntKind.i64.wrap ((↑y1.1.n : Int) - (1 : Int))).toNat - Int.toNat (0 : Int)) ((↑y1.1.c : Int).toNat - Int.toNat (0 : Int)))]) <|
    .ret [Sc.val .l (y1.1)]) <|
  .ret [Sc.val .l (y1.1)]
theorem fI_trim (x0 : SlV) : fits Tryz.prog aI_trim 176 [Sc.val .l (x0)] (tI_trim x0) :=
  ⟨Tryz.f176, Tryz.f176.body.getD .skip, by kernel_rfl, by kernel_rfl, by kernel_rfl, by kernel_rfl, by kernel_rfl, by kernel_rfl⟩
/-! loop.example/g00793/impl.intAdd -/
def aI_intAdd : An := ⟨[], [], []⟩
noncomputable def tI_intAdd (x0 : Bool × SlV × PUnit) (x1 : Bool × SlV × PUnit) : T :=
  .br (x0.fst == x1.fst) (
    .rg <|
    .call true 182 [Sc.val .l (x0.2.1), Sc.val .l (x1.2.1)] (.v (.o (.l))) fun y1 =>
    .call true 166 [.bool (x0.fst), Sc.val .l (y1)] (.v (.g [.b, .l])) fun y2 =>
    .ret [Sh1.val (.g [.b, .l]) (y2)]) <|
  .call false 171 [Sc.val .l (x0.2.1), Sc.val .l (x1.2.1)] (.v (.o (.i .i64))) fun y1 =>
  .br (decide (y1 < (0 : Int))) (
    .rg <|
    .call true 183 [Sc.val .l (x1.2.1), Sc.val .l (x0.2.1)] (.v (.o (.l))) fun y2 =>
    .call true 166 [.bool (x1.fst), Sc.val .l (y2)] (.v (.g [.b, .l])) fun y3 =>
    .ret [Sh1.val (.g [.b, .l]) (y3)]) <|
  .rg <|
  .call true 183 [Sc.val .l (x0.2.1), Sc.val .l (x1.2.1)] (.v (.o (.l))) fun y2 =>
  .call true 166 [.bool (x0.fst), Sc.val .l (y2)] (.v (.g [.b, .l])) fun y3 =>
  .ret [Sh1.val (.g [.b, .l]) (y3)]
theorem fI_intAdd (x0 : Bool × SlV × PUnit) (x1 : Bool × SlV × PUnit) : fits Tryz.prog aI_intAdd 178 [Sh1.val (.g [.b, .l]) (x0), Sh1.val (.g [.b, .l]) (x1)] (tI_intAdd x0 x1) :=
  ⟨Tryz.f178, Tryz.f178.body.getD .skip, by kernel_rfl, by kernel_rfl, by kernel_rfl, by kernel_rfl, by kernel_rfl, by kernel_rfl⟩
/-! loop.example/g00793/impl.intNeg -/
def aI_intNeg : An := ⟨[], [], []⟩
noncomputable def tI_intNeg (x0 : Bool × SlV × PUnit) : T :=
  .rg <|
  .call true 154 [Sc.val .l (x0.2.1)] (.v (.o (.l))) fun y1 =>
  .call true 166 [.bool (!x0.fst), Sc.val .l (y1)] (.v (.g [.b, .l])) fun y2 =>
  .ret [Sh1.val (.g [.b, .l]) (y2)]
theorem fI_intNeg (x0 : Bool × SlV × PUnit) : fits Tryz.prog aI_intNeg 179 [Sh1.val (.g [.b, .l]) (x0)] (tI_intNeg x0) :=
  ⟨Tryz.f179, Tryz.f179.body.getD .skip, by kernel_rfl, by kernel_rfl, by kernel_rfl, by kernel_rfl, by kernel_rfl, by kernel_rfl⟩
/-! loop.example/g00793/impl.subTimes -/
def aI_subTimes : An := ⟨[(3, [.s 0, .s 7, .s 13], [.o (.o (.l)), .o (.o (.i .i64)), .o (.o (.i .i64))])], [], []⟩
noncomputable def tI_subTimes (x0 : SlV) (x1 : SlV) (x2 : Int) : T :=
  .lp [.o (.o (.l)), .o (.o (.i .i64)), .o (.o (.i .i64))] [.v (Sc.val .l (x0)), .v (.int .i64 ((0 : Int))), .v (.int .i64 ((0 : Int)))] fun y1 =>
  .br (decide (y1.2.2.fst < (↑x1.n : Int))) (
    .el (x1.a) (x1.n) (y1.2.2.fst) fun y2 =>
    .ld false (y2.add (Int.toNat y1.2.2.fst * (1 : Nat))) (.o (.i .i64)) fun y3 =>
    .el (y1.1.a) (y1.1.n) (y1.2.2.fst) fun y4 =>
    .ld false (y4.add (Int.toNat y1.2.2.fst * (1 : Nat))) (.o (.i .i64)) fun y5 =>
    .br (decide (Go.IntKind.i64.wrap (Go.IntKind.i64.wrap (y5 - Go.IntKind.i64.wrap (y3 * x2)) - y1.2.fst) < (0 : Int))) (
      .rq ((1000000000 : Int) ≠ (0 : Int)) <|
      .el (y1.1.a) (y1.1.n) (y1.2.2.fst) fun y6 =>
      .st (y6.add (Int.toNat y1.2.2.fst * (1 : Nat))) [.int .i64 (Go.IntKind.i64.wrap (Go.IntKind.i64.wrap (Go.IntKind.i64.wrap (y5 - Go.IntKind.i64.wrap (y3 * x2)) - y1.2.fst) + Go.IntKind.i64.wrap (Go.IntKind.i64.wrap ((Go.IntKind.i64.wrap (Go.IntKind.i64.wrap (Go.IntKind.i64.wrap ((0 : Int) - Go.IntKind.i64.wrap (Go.IntKind.i64.wrap (y5 - Go.IntKind.i64.wrap (y3 * x2)) - y1.2.fst)) + (1000000000 : Int)) - (1 : Int))).tdiv (1000000000 : Int)) * (1000000000 : Int))))] <|
      .nx 0 [.v (Sc.val .l (y1.1)), .v (.int .i64 (Go.IntKind.i64.wrap ((Go.IntKind.i64.wrap (Go.IntKind.i64.wrap (Go.IntKind.i64.wrap ((0 : Int) - Go.IntKind.i64.wrap (Go.IntKind.i64.wrap (y5 - Go.IntKind.i64.wrap (y3 * x2)) - y1.2.fst)) + (1000000000 : Int)) - (1 : Int))).tdiv (1000000000 : Int)))), .v (.int .i64 (Go.IntKind.i64.wrap (y1.2.2.fst + (1 : Int))))]) <|
    .el (y1.1.a) (y1.1.n) (y1.2.2.fst) fun y6 =>
    .st (y6.add (Int.toNat y1.2.2.fst * (1 : Nat))) [.int .i64 (Go.IntKind.i64.wrap (Go.IntKind.i64.wrap (y5 - Go.IntKind.i64.wrap (y3 * x2)) - y1.2.fst))] <|
    .nx 0 [.v (Sc.val .l (y1.1)), .v (.int .i64 ((0 : Int))), .v (.int .i64 (Go.IntKind.i64.wrap (y1.2.2.fst + (1 : Int))))]) <|
  .el (y1.1.a) (y1.1.n) ((↑x1.n : Int)) fun y2 =>
  .ld false (y2.add ((↑x1.n : Int).toNat * (1 : Nat))) (.o (.i .i64)) fun y3 =>
  .el (y1.1.a) (y1.1.n) ((↑x1.n : Int)) fun y4 =>
  .st (y4.add ((↑x1.n : Int).toNat * (1 : Nat))) [.int .i64 (Go.IntKind.i64.wrap (y3 - y1.2.fst))] <|
  .el (y1.1.a) (y1.1.n) ((↑x1.n : Int)) fun y5 =>
  .ld false (y5.add ((↑x1.n : Int).toNat * (1 : Nat))) (.o (.i .i64)) fun y6 =>
  .ret [.bool (decide (y6 < (0 : Int)))]
theorem fI_subTimes (x0 : SlV) (x1 : SlV) (x2 : Int) : fits Tryz.prog aI_subTimes 180 [Sc.val .l (x0), Sc.val .l (x1), .int .i64 (x2)] (tI_subTimes x0 x1 x2) :=
  ⟨Tryz.f180, Tryz.f180.body.getD .skip, by kernel_rfl, by kernel_rfl, by kernel_rfl, by kernel_rfl, by kernel_rfl, by kernel_rfl⟩
/-! loop.example/g00793/impl.addBack -/
def aI_addBack : An := ⟨[(2, [.s 0, .s 4, .s 9], [.o (.o (.l)), .o (.o (.i .i64)), .o (.o (.i .i64))])], [], []⟩
noncomputable def tI_addBack (x0 : SlV) (x1 : SlV) : T :=
  .lp [.o (.o (.l)), .o (.o (.i .i64)), .o (.o (.i .i64))] [.v (Sc.val .l (x0)), .v (.int .i64 ((0 : Int))), .v (.int .i64 ((0 : Int)))] fun y1 =>
  .br (decide (y1.2.2.fst < (↑x1.n : Int))) (
    .el (x1.a) (x1.n) (y1.2.2.fst) fun y2 =>
    .ld false (y2.add (Int.toNat y1.2.2.fst * (1 : Nat))) (.o (.i .i64)) fun y3 =>
    .el (y1.1.a) (y1.1.n) (y1.2.2.fst) fun y4 =>
    .ld false (y4.add (Int.toNat y1.2.2.fst * (1 : Nat))) (.o (.i .i64)) fun y5 =>
    .rq ((1000000000 : Int) ≠ (0 : Int)) <|
    .el (y1.1.a) (y1.1.n) (y1.2.2.fst) fun y6 =>
    .st (y6.add (Int.toNat y1.2.2.fst * (1 : Nat))) [.int .i64 ((Go.IntKind.i64.wrap (y1.2.fst + Go.IntKind.i64.wrap (y5 + y3))).tmod (1000000000 : Int))] <|
    .rq ((1000000000 : Int) ≠ (0 : Int)) <|
    .nx 0 [.v (Sc.val .l (y1.1)), .v (.int .i64 (Go.IntKind.i64.wrap ((Go.IntKind.i64.wrap (y1.2.fst + Go.IntKind.i64.wrap (y5 + y3))).tdiv (1000000000 : Int)))), .v (.int .i64 (Go.IntKind.i64.wrap (y1.2.2.fst + (1 : Int))))]) <|
  .el (y1.1.a) (y1.1.n) ((↑x1.n : Int)) fun y2 =>
  .ld false (y2.add ((↑x1.n : Int).toNat * (1 : Nat))) (.o (.i .i64)) fun y3 =>
  .el (y1.1.a) (y1.1.n) ((↑x1.n : Int)) fun y4 =>
  .st (y4.add ((↑x1.n : Int).toNat * (1 : Nat))) [.int .i64 (Go.IntKind.i64.wrap (y3 + y1.2.fst))] <|
  .ret []
theorem fI_addBack (x0 : SlV) (x1 : SlV) : fits Tryz.prog aI_addBack 181 [Sc.val .l (x0), Sc.val .l (x1)] (tI_addBack x0 x1) :=
  ⟨Tryz.f181, Tryz.f181.body.getD .skip, by kernel_rfl, by kernel_rfl, by kernel_rfl, by kernel_rfl, by kernel_rfl, by kernel_rfl⟩
/-! loop.example/g00793/impl.natAdd -/
def aI_natAdd : An := ⟨[(4, [.s 5, .s 6, .s 7], [.a 3, .o (.o (.i .i64)), .o (.o (.i .i64))])], [], []⟩
noncomputable def tI_natAdd (x0 : SlV) (x1 : SlV) : T :=
  .rq ((0 : Int) ≤ (0 : Int) ∧ (0 : Int) ≤ Go.IntKind.i64.wrap ((if (↑x1.n : Int) > (↑x0.n : Int) then (↑x1.n : Int) else (↑x0.n : Int)) + (1 : Int)) ∧ (↑(8 : Nat) : Int) * Go.IntKind.i64.wrap ((if (↑x1.n : Int) > (↑x0.n : Int) then (↑x1.n : Int) else (↑x0.n : Int)) + (1 : Int)) ≤ (281474976710656 : Int) ∧ Go.IntKind.i64.wrap ((if (↑x1.n : Int) > (↑x0.n : Int) then (↑x1.n : Int) else (↑x0.n : Int)) + (1 : Int)) ≤ (9223372036854775807 : Int)) <|
  .lp [.a 3, .o (.o (.i .i64)), .o (.o (.i .i64))] [.a 3 (Int.toNat (0 : Int)) [], .v (.int .i64 ((0 : Int))), .v (.int .i64 ((0 : Int)))] fun y1 =>
  .br (decide (y1.2.2.fst < if (↑x1.n : Int) > (↑x0.n : Int) then (↑x1.n : Int) else (↑x0.n : Int))) (
    .br (decide (y1.2.2.fst < (↑x0.n : Int))) (
      .el (x0.a) (x0.n) (y1.2.2.fst) fun y2 =>
      .ld false (y2.add (Int.toNat y1.2.2.fst * (1 : Nat))) (.o (.i .i64)) fun y3 =>
      .br (decide (y1.2.2.fst < (↑x1.n : Int))) (
        .el (x1.a) (x1.n) (y1.2.2.fst) fun y4 =>
        .ld false (y4.add (Int.toNat y1.2.2.fst * (1 : Nat))) (.o (.i .i64)) fun y5 =>
        .rq ((1000000000 : Int) ≠ (0 : Int)) <|
        .rq ([Go.Value.int Go.IntKind.i64 ((Go.IntKind.i64.wrap (Go.IntKind.i64.wrap (y1.2.fst + y3) + y5)).tmod (1000000000 : Int))].length = (1 : Nat) * (1 : Nat)) <|
        .rq (one [Go.Value.int Go.IntKind.i64 ((Go.IntKind.i64.wrap (Go.IntKind.i64.wrap (y1.2.fst + y3) + y5)).tmod (1000000000 : Int))] = true ∧ (y1.1.fst + (1 : Nat)) * (8 : Nat) ≤ (140737488355328 : Nat) ∧ y1.1.fst + (1 : Nat) ≤ (9223372036854775807 : Nat)) <|
        .rq ((1000000000 : Int) ≠ (0 : Int)) <|
        .nx 0 [.a 3 (y1.1.fst + (1 : Nat)) (y1.1.snd ++ [Go.Value.int Go.IntKind.i64 ((Go.IntKind.i64.wrap (Go.IntKind.i64.wrap (y1.2.fst + y3) + y5)).tmod (1000000000 : Int))]), .v (.int .i64 (Go.IntKind.i64.wrap ((Go.IntKind.i64.wrap (Go.IntKind.i64.wrap (y1.2.fst + y3) + y5)).tdiv (1000000000 : Int)))), .v (.int .i64 (Go.IntKind.i64.wrap (y1.2.2.fst + (1 : Int))))]) <|
      .rq ((1000000000 : Int) ≠ (0 : Int)) <|
      .rq ([Go.Value.int Go.IntKind.i64 ((Go.IntKind.i64.wrap (y1.2.fst + y3)).tmod (1000000000 : Int))].length = (1 : Nat) * (1 : Nat)) <|
      .rq (one [Go.Value.int Go.IntKind.i64 ((Go.IntKind.i64.wrap (y1.2.fst + y3)).tmod (1000000000 : Int))] = true ∧ (y1.1.fst + (1 : Nat)) * (8 : Nat) ≤ (140737488355328 : Nat) ∧ y1.1.fst + (1 : Nat) ≤ (9223372036854775807 : Nat)) <|
      .rq ((1000000000 : Int) ≠ (0 : Int)) <|
      .nx 0 [.a 3 (y1.1.fst + (1 : Nat)) (y1.1.snd ++ [Go.Value.int Go.IntKind.i64 ((Go.IntKind.i64.wrap (y1.2.fst + y3)).tmod (1000000000 : Int))]), .v (.int .i64 (Go.IntKind.i64.wrap ((Go.IntKind.i64.wrap (y1.2.fst + y3)).tdiv (1000000000 : Int)))), .v (.int .i64 (Go.IntKind.i64.wrap (y1.2.2.fst + (1 : Int))))]) <|
    .br (decide (y1.2.2.fst < (↑x1.n : Int))) (
      .el (x1.a) (x1.n) (y1.2.2.fst) fun y2 =>
      .ld false (y2.add (Int.toNat y1.2.2.fst * (1 : Nat))) (.o (.i .i64)) fun y3 =>
      .rq ((1000000000 : Int) ≠ (0 : Int)) <|
      .rq ([Go.Value.int Go.IntKind.i64 ((Go.IntKind.i64.wrap (y1.2.fst + y3)).tmod (1000000000 : Int))].length = (1 : Nat) * (1 : Nat)) <|
      .rq (one [Go.Value.int Go.IntKind.i64 ((Go.IntKind.i64.wrap (y1.2.fst + y3)).tmod (1000000000 : Int))] = true ∧ (y1.1.fst + (1 : Nat)) * (8 : Nat) ≤ (140737488355328 : Nat) ∧ y1.1.fst + (1 : Nat) ≤ (9223372036854775807 : Nat)) <|
      .rq ((1000000000 : Int) ≠ (0 : Int)) <|
      .nx 0 [.a 3 (y1.1.fst + (1 : Nat)) (y1.1.snd ++ [Go.Value.int Go.IntKind.i64 ((Go.IntKind.i64.wrap (y1.2.fst + y3)).tmod (1000000000 : Int))]), .v (.int .i64 (Go.IntKind.i64.wrap ((Go.IntKind.i64.wrap (y1.2.fst + y3)).tdiv (1000000000 : Int)))), .v (.int .i64 (Go.IntKind.i64.wrap (y1.2.2.fst + (1 : Int))))]) <|
    .rq ((1000000000 : Int) ≠ (0 : Int)) <|
    .rq ([Go.Value.int Go.IntKind.i64 (Int.tmod y1.2.fst (1000000000 : Int))].length = (1 : Nat) * (1 : Nat)) <|
    .rq (one [Go.Value.int Go.IntKind.i64 (Int.tmod y1.2.fst (1000000000 : Int))] = true ∧ (y1.1.fst + (1 : Nat)) * (8 : Nat) ≤ (140737488355328 : Nat) ∧ y1.1.fst + (1 : Nat) ≤ (9223372036854775807 : Nat)) <|
    .rq ((1000000000 : Int) ≠ (0 : Int)) <|
    .nx 0 [.a 3 (y1.1.fst + (1 : Nat)) (y1.1.snd ++ [Go.Value.int Go.IntKind.i64 (Int.tmod y1.2.fst (1000000000 : Int))]), .v (.int .i64 (Go.IntKind.i64.wrap (Int.tdiv y1.2.fst (1000000000 : Int)))), .v (.int .i64 (Go.IntKind.i64.wrap (y1.2.2.fst + (1 : Int))))]) <|
  .rq ([(Sh1.o (Sc.i Go.IntKind.i64)).val y1.2.fst].length = (1 : Nat) * (1 : Nat)) <|
  .rq (one [(Sh1.o (Sc.i Go.IntKind.i64)).val y1.2.fst] = true ∧ (y1.1.fst + (1 : Nat)) * (8 : Nat) ≤ (140737488355328 : Nat) ∧ y1.1.fst + (1 : Nat) ≤ (9223372036854775807 : Nat)) <|
  .fz (y1.1.fst + (1 : Nat)) (y1.1.snd ++ [(Sh1.o (Sc.i Go.IntKind.i64)).val y1.2.fst]) 3 fun b2 c2 =>
  .call false 176 [.slice (some { block := b2, off := (0 : Nat) : Go.Addr }) (y1.1.fst + (1 : Nat)) (c2)] (.v (.o (.l))) fun y3 =>
  .ret [Sc.val .l (y3)]
theorem fI_natAdd (x0 : SlV) (x1 : SlV) : fits Tryz.prog aI_natAdd 182 [Sc.val .l (x0), Sc.val .l (x1)] (tI_natAdd x0 x1) :=
  ⟨Tryz.f182, Tryz.f182.body.getD .skip, by kernel_rfl, by kernel_rfl, by kernel_rfl, by kernel_rfl, by kernel_rfl, by kernel_rfl⟩
/-! loop.example/g00793/impl.natSub -/
def aI_natSub : An := ⟨[(4, [.s 5, .s 6, .s 14], [.a 3, .o (.o (.i .i64)), .o (.o (.i .i64))])], [], []⟩
noncomputable def tI_natSub (x0 : SlV) (x1 : SlV) : T :=
  .rq ((0 : Int) ≤ (↑x0.n : Int) ∧ (↑x0.n : Int) ≤ (↑x0.n : Int) ∧ (↑(8 : Nat) : Int) * (↑x0.n : Int) ≤ (281474976710656 : Int) ∧ (↑x0.n : Int) ≤ (9223372036854775807 : Int)) <|
  .lp [.a 3, .o (.o (.i .i64)), .o (.o (.i .i64))] [.a 3 ((↑x0.n : Int).toNat) ((Go.madeCells { toList := [Go.Value.int Go.IntKind.i64 (0 : Int)] : Array Go.Value } ((↑x0.n : Int).toNat * (1 : Nat))).toList), .v (.int .i64 ((0 : Int))), .v (.int .i64 ((0 : Int)))] fun y1 =>
  .br (decide (y1.2.2.fst < (↑x0.n : Int))) (
    .el (x0.a) (x0.n) (y1.2.2.fst) fun y2 =>
    .ld false (y2.add (Int.toNat y1.2.2.fst * (1 : Nat))) (.o (.i .i64)) fun y3 =>
    .br (decide (y1.2.2.fst < (↑x1.n : Int))) (
      .el (x1.a) (x1.n) (y1.2.2.fst) fun y4 =>
      .ld false (y4.add (Int.toNat y1.2.2.fst * (1 : Nat))) (.o (.i .i64)) fun y5 =>
      .br (decide (Go.IntKind.i64.wrap (Go.IntKind.i64.wrap (y3 - y1.2.fst) - y5) < (0 : Int))) (
        .rq ((0 : Int) ≤ y1.2.2.fst ∧ y1.2.2.fst < (↑y1.1.fst : Int)) <|
        .rq (Int.toNat y1.2.2.fst * (1 : Nat) + [Go.Value.int Go.IntKind.i64 (Go.IntKind.i64.wrap (Go.IntKind.i64.wrap (Go.IntKind.i64.wrap (y3 - y1.2.fst) - y5) + (1000000000 : Int)))].length ≤ y1.1.snd.length) <|
        .nx 0 [.a 3 (y1.1.fst) (setl y1.1.snd (Int.toNat y1.2.2.fst * (1 : Nat)) [Go.Value.int Go.IntKind.i64 (Go.IntKind.i64.wrap (Go.IntKind.i64.wrap (Go.IntKind.i64.wrap (y3 - y1.2.fst) - y5) + (1000000000 : Int)))]), .v (.int .i64 ((1 : Int))), .v (.int .i64 (Go.IntKind.i64.wrap (y1.2.2.fst + (1 : Int))))]) <|
      .rq ((0 : Int) ≤ y1.2.2.fst ∧ y1.2.2.fst < (↑y1.1.fst : Int)) <|
      .rq (Int.toNat y1.2.2.fst * (1 : Nat) + [Go.Value.int Go.IntKind.i64 (Go.IntKind.i64.wrap (Go.IntKind.i64.wrap (y3 - y1.2.fst) - y5))].length ≤ y1.1.snd.length) <|
      .nx 0 [.a 3 (y1.1.fst) (setl y1.1.snd (Int.toNat y1.2.2.fst * (1 : Nat)) [Go.Value.int Go.IntKind.i64 (Go.IntKind.i64.wrap (Go.IntKind.i64.wrap (y3 - y1.2.fst) - y5))]), .v (.int .i64 ((0 : Int))), .v (.int .i64 (Go.IntKind.i64.wrap (y1.2.2.fst + (1 : Int))))]) <|
    .br (decide (Go.IntKind.i64.wrap (y3 - y1.2.fst) < (0 : Int))) (
      .rq ((0 : Int) ≤ y1.2.2.fst ∧ y1.2.2.fst < (↑y1.1.fst : Int)) <|
      .rq (Int.toNat y1.2.2.fst * (1 : Nat) + [Go.Value.int Go.IntKind.i64 (Go.IntKind.i64.wrap (Go.IntKind.i64.wrap (y3 - y1.2.fst) + (1000000000 : Int)))].length ≤ y1.1.snd.length) <|
      .nx 0 [.a 3 (y1.1.fst) (setl y1.1.snd (Int.toNat y1.2.2.fst * (1 : Nat)) [Go.Value.int Go.IntKind.i64 (Go.IntKind.i64.wrap (Go.IntKind.i64.wrap (y3 - y1.2.fst) + (1000000000 : Int)))]), .v (.int .i64 ((1 : Int))), .v (.int .i64 (Go.IntKind.i64.wrap (y1.2.2.fst + (1 : Int))))]) <|
    .rq ((0 : Int) ≤ y1.2.2.fst ∧ y1.2.2.fst < (↑y1.1.fst : Int)) <|
    .rq (Int.toNat y1.2.2.fst * (1 : Nat) + [Go.Value.int Go.IntKind.i64 (Go.IntKind.i64.wrap (y3 - y1.2.fst))].length ≤ y1.1.snd.length) <|
    .nx 0 [.a 3 (y1.1.fst) (setl y1.1.snd (Int.toNat y1.2.2.fst * (1 : Nat)) [Go.Value.int Go.IntKind.i64 (Go.IntKind.i64.wrap (y3 - y1.2.fst))]), .v (.int .i64 ((0 : Int))), .v (.int .i64 (Go.IntKind.i64.wrap (y1.2.2.fst + (1 : Int))))]) <|
  .fz (y1.1.fst) (y1.1.snd) 3 fun b2 c2 =>
  .call false 176 [.slice (some { block := b2, off := (0 : Nat) : Go.Addr }) (y1.1.fst) (c2)] (.v (.o (.l))) fun y3 =>
  .ret [Sc.val .l (y3)]
theorem fI_natSub (x0 : SlV) (x1 : SlV) : fits Tryz.prog aI_natSub 183 [Sc.val .l (x0), Sc.val .l (x1)] (tI_natSub x0 x1) :=
  ⟨Tryz.f183, Tryz.f183.body.getD .skip, by kernel_rfl, by kernel_rfl, by kernel_rfl, by kernel_rfl, by kernel_rfl, by kernel_rfl⟩
end Go.Proofs.YtiadnlilmcdibaaGreatDoor
