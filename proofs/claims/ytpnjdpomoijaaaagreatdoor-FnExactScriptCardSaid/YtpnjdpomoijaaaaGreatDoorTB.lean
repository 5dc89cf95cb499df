/-
  What each function of the seat comes to, as a tree; each tree is checked against the code.
-/
import Derived.Test.YtpnjdpomoijaaaaGreatDoorTA
namespace Go.Proofs.YtpnjdpomoijaaaaGreatDoor
open Sx
set_option maxRecDepth 100000
/-! loop.example/g00793/impl.NatOk -/
def aI_NatOk : An := ⟨[(4, [.s 24], [.o (.o (.i .i64))])], [], []⟩
noncomputable def tI_NatOk (x0 : SlV) : T :=
  .br (decide ((↑x0.n : Int) > (50 : Int))) (
    .ret [.bool (false)]) <|
  .br (decide ((↑x0.n : Int) > (0 : Int))) (
    .el (x0.a) (x0.n) (Go.IntKind.i64.wrap ((↑x0.n : Int) - (1 : Int))) fun y1 =>
    .ld false (y1.add ((Go.IntKind.i64.wrap ((↑x0.n : Int) - (1 : Int))).toNat * (1 : Nat))) (.o (.i .i64)) fun y2 =>
    .br (y2 == (0 : Int)) (
      .ret [.bool (false)]) <|
    .lp [.o (.o (.i .i64))] [.v (.int .i64 ((0 : Int)))] fun y3 =>
    .br (decide (y3.fst < (↑x0.n : Int))) (
      .el (x0.a) (x0.n) (y3.fst) fun y4 =>
      .ld false (y4.add (Int.toNat y3.fst * (1 : Nat))) (.o (.i .i64)) fun y5 =>
      .br (decide (y5 < (0 : Int))) (
        .ret [.bool (false)]) <|
      .br (decide (y5 ≥ (1000000000 : Int))) (
        .ret [.bool (false)]) <|
      .nx 0 [.v (.int .i64 (Go.IntKind.i64.wrap (y3.fst + (1 : Int))))]) <|
    .ret [.bool (true)]) <|
  .lp [.o (.o (.i .i64))] [.v (.int .i64 ((0 : Int)))] fun y1 =>
  .br (decide (y1.fst < (↑x0.n : Int))) (
    .el (x0.a) (x0.n) (y1.fst) fun y2 =>
    .ld false (y2.add (Int.toNat y1.fst * (1 : Nat))) (.o (.i .i64)) fun y3 =>
    .br (decide (y3 < (0 : Int))) (
      .ret [.bool (false)]) <|
    .br (decide (y3 ≥ (1000000000 : Int))) (
      .ret [.bool (false)]) <|
    .nx 0 [.v (.int .i64 (Go.IntKind.i64.wrap (y1.fst + (1 : Int))))]) <|
  .ret [.bool (true)]
theorem fI_NatOk (x0 : SlV) : fits Tryz.prog aI_NatOk 148 [Sc.val .l (x0)] (tI_NatOk x0) :=
  ⟨Tryz.f148, Tryz.f148.body.getD .skip, by kernel_rfl, by kernel_rfl, by kernel_rfl, by kernel_rfl, by kernel_rfl, by kernel_rfl⟩
/-! loop.example/g00793/impl.natGcd -/
def aI_natGcd : An := ⟨[(1, [.s 0, .s 1], [.o (.o (.l)), .o (.o (.l))])], [], []⟩
noncomputable def tI_natGcd (x0 : SlV) (x1 : SlV) : T :=
  .lp [.o (.o (.l)), .o (.o (.l))] [.v (Sc.val .l (x0)), .v (Sc.val .l (x1))] fun y1 =>
  .br (decide ((↑y1.2.1.n : Int) > (0 : Int))) (
    .call false 181 [Sc.val .l (y1.1), Sc.val .l (y1.2.1)] (.t [(.o (.l)), (.o (.l))]) fun y2 =>
    .nx 0 [.v (Sc.val .l (y1.2.1)), .v (Sc.val .l (y2.2.1))]) <|
  .call false 116 [Sc.val .l (y1.1)] (.v (.o (.l))) fun y2 =>
  .ret [Sc.val .l (y2)]
theorem fI_natGcd (x0 : SlV) (x1 : SlV) : fits Tryz.prog aI_natGcd 149 [Sc.val .l (x0), Sc.val .l (x1)] (tI_natGcd x0 x1) :=
  ⟨Tryz.f149, Tryz.f149.body.getD .skip, by kernel_rfl, by kernel_rfl, by kernel_rfl, by kernel_rfl, by kernel_rfl, by kernel_rfl⟩
/-! loop.example/g00793/impl.DecOk -/
def aI_DecOk : An := ⟨[], [], []⟩
noncomputable def tI_DecOk (x0 : Bool × SlV × Int × PUnit) : T :=
  .call false 146 [Sh1.val (.g [.b, .l]) ((x0.fst), x0.2.1, ())] (.v (.o (.b))) fun y1 =>
  .br (y1) (
    .br (decide ((↑x0.2.1.n : Int) ≤ (6 : Int))) (
      .call false 182 [.int .i64 (x0.2.2.fst)] (.v (.o (.b))) fun y2 =>
      .ret [.bool (y2)]) <|
    .ret [.bool (false)]) <|
  .ret [.bool (false)]
theorem fI_DecOk (x0 : Bool × SlV × Int × PUnit) : fits Tryz.prog aI_DecOk 150 [Sh1.val (.g [.b, .l, .i .i64]) (x0)] (tI_DecOk x0) :=
  ⟨Tryz.f150, Tryz.f150.body.getD .skip, by kernel_rfl, by kernel_rfl, by kernel_rfl, by kernel_rfl, by kernel_rfl, by kernel_rfl⟩
/-! loop.example/g00793/impl.MoneySame -/
def aI_MoneySame : An := ⟨[], [], []⟩
noncomputable def tI_MoneySame (x0 : ByteArray × Bool × SlV × PUnit) (x1 : ByteArray × Bool × SlV × PUnit) : T :=
  .br (ByteArray.toList x0.fst == ByteArray.toList x1.fst) (
    .call false 183 [Sh1.val (.g [.b, .l]) (x0.2), Sh1.val (.g [.b, .l]) (x1.2)] (.v (.o (.b))) fun y1 =>
    .ret [.bool (y1)]) <|
  .ret [.bool (false)]
theorem fI_MoneySame (x0 : ByteArray × Bool × SlV × PUnit) (x1 : ByteArray × Bool × SlV × PUnit) : fits Tryz.prog aI_MoneySame 151 [Sh1.val (.g [.s, .b, .l]) (x0), Sh1.val (.g [.s, .b, .l]) (x1)] (tI_MoneySame x0 x1) :=
  ⟨Tryz.f151, Tryz.f151.body.getD .skip, by kernel_rfl, by kernel_rfl, by kernel_rfl, by kernel_rfl, by kernel_rfl, by kernel_rfl⟩
/-! loop.example/g00793/impl.decIsZero -/
def aI_decIsZero : An := ⟨[], [], []⟩
noncomputable def tI_decIsZero (x0 : Bool × SlV × Int × PUnit) : T :=
  .call false 158 [Sh1.val (.g [.b, .l, .i .i64]) (x0), Sh1.val (.g [.b, .l, .i .i64]) ((false), (⟨(none), ((0 : Nat)), ((0 : Nat))⟩ : SlV), (((0 : Int)) : Int), ())] (.v (.o (.b))) fun y1 =>
  .ret [.bool (y1)]
theorem fI_decIsZero (x0 : Bool × SlV × Int × PUnit) : fits Tryz.prog aI_decIsZero 152 [Sh1.val (.g [.b, .l, .i .i64]) (x0)] (tI_decIsZero x0) :=
  ⟨Tryz.f152, Tryz.f152.body.getD .skip, by kernel_rfl, by kernel_rfl, by kernel_rfl, by kernel_rfl, by kernel_rfl, by kernel_rfl⟩
/-! slices.Index[[]int,int] -/
def aX_Index_int : An := ⟨[(2, [.s 8], [.o (.o (.i .i64))])], [], []⟩
noncomputable def tX_Index_int (x0 : SlV) (x1 : Int) : T :=
  .lp [.o (.o (.i .i64))] [.v (.int .i64 ((0 : Int)))] fun y1 =>
  .br (decide (y1.fst < (↑x0.n : Int))) (
    .el (x0.a) (x0.n) (y1.fst) fun y2 =>
    .ld false (y2.add (Int.toNat y1.fst * (1 : Nat))) (.o (.i .i64)) fun y3 =>
    .br (x1 == y3) (
      .ret [.int .i64 (y1.fst)]) <|
    .nx 0 [.v (.int .i64 (Go.IntKind.i64.wrap (y1.fst + (1 : Int))))]) <|
  .ret [.int .i64 ((-1 : Int))]
theorem fX_Index_int (x0 : SlV) (x1 : Int) : fits Tryz.prog aX_Index_int 153 [Sc.val .l (x0), .int .i64 (x1)] (tX_Index_int x0 x1) :=
  ⟨Tryz.f153, Tryz.f153.body.getD .skip, by kernel_rfl, by kernel_rfl, by kernel_rfl, by kernel_rfl, by kernel_rfl, by kernel_rfl⟩
/-! loop.example/g00793/impl.IsCode -/
def aI_IsCode : An := ⟨[(4, [.s 3], [.o (.o (.i .i64))])], [], []⟩
noncomputable def tI_IsCode (x0 : ByteArray) : T :=
  .br ((↑x0.size : Int) != (3 : Int)) (
    .ret [.bool (false)]) <|
  .lp [.o (.o (.i .i64))] [.v (.int .i64 ((0 : Int)))] fun y1 =>
  .br (decide (y1.fst < (3 : Int))) (
    .rq ((0 : Int) ≤ y1.fst ∧ y1.fst < (↑x0.size : Int)) <|
    .br (decide (at0 x0 (Int.toNat y1.fst) < (65 : Int))) (
      .ret [.bool (false)]) <|
    .rq ((0 : Int) ≤ y1.fst ∧ y1.fst < (↑x0.size : Int)) <|
    .br (decide (at0 x0 (Int.toNat y1.fst) > (90 : Int))) (
      .ret [.bool (false)]) <|
    .nx 0 [.v (.int .i64 (Go.IntKind.i64.wrap (y1.fst + (1 : Int))))]) <|
  .ret [.bool (true)]
theorem fI_IsCode (x0 : ByteArray) : fits Tryz.prog aI_IsCode 154 [.string (x0)] (tI_IsCode x0) :=
  ⟨Tryz.f154, Tryz.f154.body.getD .skip, by kernel_rfl, by kernel_rfl, by kernel_rfl, by kernel_rfl, by kernel_rfl, by kernel_rfl⟩
/-! loop.example/g00793/impl.payable -/
def aI_payable : An := ⟨[], [], []⟩
noncomputable def tI_payable (x0 : ByteArray × Bool × SlV × PUnit) : T :=
  .call false 100 [Sh1.val (.g [.s, .b, .l]) (x0)] (.v (.o (.b))) fun y1 =>
  .br (y1) (
    .ret [.bool (!x0.2.fst)]) <|
  .ret [.bool (false)]
theorem fI_payable (x0 : ByteArray × Bool × SlV × PUnit) : fits Tryz.prog aI_payable 155 [Sh1.val (.g [.s, .b, .l]) (x0)] (tI_payable x0) :=
  ⟨Tryz.f155, Tryz.f155.body.getD .skip, by kernel_rfl, by kernel_rfl, by kernel_rfl, by kernel_rfl, by kernel_rfl, by kernel_rfl⟩
/-! loop.example/g00793/impl.dealOk -/
def aI_dealOk : An := ⟨[], [], []⟩
noncomputable def tI_dealOk (x0 : SlV) (x1 : SlV) : T :=
  .br ((↑x0.n : Int) != (↑x1.n : Int)) (
    .ret [.bool (false)]) <|
  .br (decide ((↑x1.n : Int) < (1 : Int))) (
    .ret [.bool (false)]) <|
  .br (decide ((↑x1.n : Int) > (30 : Int))) (
    .ret [.bool (false)]) <|
  .call false 184 [Sc.val .l (x0)] (.v (.o (.b))) fun y1 =>
  .br (!y1) (
    .ret [.bool (false)]) <|
  .call false 185 [Sc.val .l (x1), (Go.Value.func (Go.Fn.func (186 : Nat)) { toList := [] : Array Go.Value } { toList := [] : Array Go.Value })] (.v (.o (.b))) fun y2 =>
  .ret [.bool (!y2)]
theorem fI_dealOk (x0 : SlV) (x1 : SlV) : fits Tryz.prog aI_dealOk 156 [Sc.val .l (x0), Sc.val .l (x1)] (tI_dealOk x0 x1) :=
  ⟨Tryz.f156, Tryz.f156.body.getD .skip, by kernel_rfl, by kernel_rfl, by kernel_rfl, by kernel_rfl, by kernel_rfl, by kernel_rfl⟩
/-! loop.example/g00793/impl.TaxRateOk -/
def aI_TaxRateOk : An := ⟨[], [], []⟩
noncomputable def tI_TaxRateOk (x0 : Bool × SlV × Int × PUnit) : T :=
  .rg <|
  .call true 150 [Sh1.val (.g [.b, .l, .i .i64]) (x0)] (.v (.o (.b))) fun y1 =>
  .br (y1) (
    .br (decide ((↑x0.2.1.n : Int) ≤ (1 : Int))) (
      .br (!x0.fst) (
        .call true 165 [.int .i64 ((1 : Int))] (.v (.g [.b, .l])) fun y2 =>
        .call true 187 [Sh1.val (.g [.b, .l, .i .i64]) (x0), Sh1.val (.g [.b, .l, .i .i64]) ((y2.fst), y2.2.1, (((0 : Int)) : Int), ())] (.v (.o (.i .i64))) fun y3 =>
        .ret [.bool (decide (y3 ≤ (0 : Int)))]) <|
      .ret [.bool (false)]) <|
    .ret [.bool (false)]) <|
  .ret [.bool (false)]
theorem fI_TaxRateOk (x0 : Bool × SlV × Int × PUnit) : fits Tryz.prog aI_TaxRateOk 157 [Sh1.val (.g [.b, .l, .i .i64]) (x0)] (tI_TaxRateOk x0) :=
  ⟨Tryz.f157, Tryz.f157.body.getD .skip, by kernel_rfl, by kernel_rfl, by kernel_rfl, by kernel_rfl, by kernel_rfl, by kernel_rfl⟩
/-! loop.example/g00793/impl.decSame -/
def aI_decSame : An := ⟨[], [], []⟩
noncomputable def tI_decSame (x0 : Bool × SlV × Int × PUnit) (x1 : Bool × SlV × Int × PUnit) : T :=
  .call false 183 [Sh1.val (.g [.b, .l]) ((x0.fst), x0.2.1, ()), Sh1.val (.g [.b, .l]) ((x1.fst), x1.2.1, ())] (.v (.o (.b))) fun y1 =>
  .br (y1) (
    .ret [.bool (x0.2.2.fst == x1.2.2.fst)]) <|
  .ret [.bool (false)]
theorem fI_decSame (x0 : Bool × SlV × Int × PUnit) (x1 : Bool × SlV × Int × PUnit) : fits Tryz.prog aI_decSame 158 [Sh1.val (.g [.b, .l, .i .i64]) (x0), Sh1.val (.g [.b, .l, .i .i64]) (x1)] (tI_decSame x0 x1) :=
  ⟨Tryz.f158, Tryz.f158.body.getD .skip, by kernel_rfl, by kernel_rfl, by kernel_rfl, by kernel_rfl, by kernel_rfl, by kernel_rfl⟩
/-! loop.example/g00793/impl.DecLow -/
def aI_DecLow : An := ⟨[(2, [.s 3, .c 2 0, .c 2 1, .c 2 2], [.o (.o (.i .i64)), .o (.o (.b)), .o (.o (.l)), .o (.o (.i .i64))])], [], []⟩
noncomputable def tI_DecLow (x0 : Bool × SlV × Int × PUnit) : T :=
  .lp [.o (.o (.i .i64)), .o (.o (.b)), .o (.o (.l)), .o (.o (.i .i64))] [.v (.int .i64 ((0 : Int))), .v (.bool (false)), .v (.slice (none) ((0 : Nat)) ((0 : Nat))), .v (.int .i64 ((0 : Int)))] fun y1 =>
  .br (decide (y1.fst ≤ x0.2.2.fst)) (
    .br (decide (y1.fst ≤ (30 : Int))) (
      .call false 188 [Sh1.val (.g [.b, .l, .i .i64]) (x0), .int .i64 (y1.fst)] (.t [(.g [.b, .l, .i .i64]), (.o (.b))]) fun y2 =>
      .br (y2.2.fst) (
        .ret [Sh1.val (.g [.b, .l, .i .i64]) (y2.1)]) <|
      .nx 0 [.v (.int .i64 (Go.IntKind.i64.wrap (y1.fst + (1 : Int)))), .v (.bool (y1.2.fst)), .v (Sc.val .l (y1.2.2.1)), .v (.int .i64 (y1.2.2.2.fst))]) <|
    .ret [Sh1.val (.g [.b, .l, .i .i64]) ((false), (⟨(none), ((0 : Nat)), ((0 : Nat))⟩ : SlV), (((0 : Int)) : Int), ())]) <|
  .ret [Sh1.val (.g [.b, .l, .i .i64]) ((false), (⟨(none), ((0 : Nat)), ((0 : Nat))⟩ : SlV), (((0 : Int)) : Int), ())]
theorem fI_DecLow (x0 : Bool × SlV × Int × PUnit) : fits Tryz.prog aI_DecLow 159 [Sh1.val (.g [.b, .l, .i .i64]) (x0)] (tI_DecLow x0) :=
  ⟨Tryz.f159, Tryz.f159.body.getD .skip, by kernel_rfl, by kernel_rfl, by kernel_rfl, by kernel_rfl, by kernel_rfl, by kernel_rfl⟩
/-! loop.example/g00793/impl.isMode -/
def aI_isMode : An := ⟨[], [], []⟩
noncomputable def tI_isMode (x0 : Int) : T :=
  .br (decide (x0 ≥ (0 : Int))) (
    .ret [.bool (decide (x0 ≤ (6 : Int)))]) <|
  .ret [.bool (false)]
theorem fI_isMode (x0 : Int) : fits Tryz.prog aI_isMode 160 [.int .i64 (x0)] (tI_isMode x0) :=
  ⟨Tryz.f160, Tryz.f160.body.getD .skip, by kernel_rfl, by kernel_rfl, by kernel_rfl, by kernel_rfl, by kernel_rfl, by kernel_rfl⟩
/-! loop.example/g00793/impl.DecText -/
def aI_DecText : An := ⟨[], [], []⟩
noncomputable def tI_DecText (x0 : Bool × SlV × Int × PUnit) : T :=
  .call false 150 [Sh1.val (.g [.b, .l, .i .i64]) (x0)] (.v (.o (.b))) fun y1 =>
  .br (!y1) (
    .ret [.string ({ data := { toList := [] : Array UInt8 } : ByteArray })]) <|
  .rg <|
  .call true 190 [Sc.val .l (x0.2.1)] (.v (.o (.s))) fun y2 =>
  .call true 189 [.string (y2), .int .i64 (Go.IntKind.i64.wrap (x0.2.2.fst + (1 : Int)))] (.v (.o (.s))) fun y3 =>
  .br (decide (x0.2.2.fst > (0 : Int))) (
    .rg <|
    .rq ((0 : Int) ≤ (0 : Int) ∧ (0 : Int) ≤ Go.IntKind.i64.wrap ((↑y3.size : Int) - x0.2.2.fst) ∧ Go.IntKind.i64.wrap ((↑y3.size : Int) - x0.2.2.fst) ≤ (↑y3.size : Int)) <|
    .rq ((y3.extract (Int.toNat (0 : Int)) (Go.IntKind.i64.wrap ((↑y3.size : Int) - x0.2.2.fst)).toNat).size + { data := { toList := [(46 : UInt8)] : Array UInt8 } : ByteArray }.size ≤ (9223372036854775807 : Nat)) <|
    .rq ((0 : Int) ≤ Go.IntKind.i64.wrap ((↑y3.size : Int) - x0.2.2.fst) ∧ Go.IntKind.i64.wrap ((↑y3.size : Int) - x0.2.2.fst) ≤ (↑y3.size : Int) ∧ (↑y3.size : Int) ≤ (↑y3.size : Int)) <|
    .rq ((y3.extract (Int.toNat (0 : Int)) (Go.IntKind.i64.wrap ((↑y3.size : Int) - x0.2.2.fst)).toNat ++ { data := { toList := [(46 : UInt8)] : Array UInt8 } : ByteArray }).size + (y3.extract (Go.IntKind.i64.wrap ((↑y3.size : Int) - x0.2.2.fst)).toNat (↑y3.size : Int).toNat).size ≤ (9223372036854775807 : Nat)) <|
    .br (x0.fst) (
      .rq ({ data := { toList := [(45 : UInt8)] : Array UInt8 } : ByteArray }.size + (y3.extract (Int.toNat (0 : Int)) (Go.IntKind.i64.wrap ((↑y3.size : Int) - x0.2.2.fst)).toNat ++ { data := { toList := [(46 : UInt8)] : Array UInt8 } : ByteArray } ++ y3.extract (Go.IntKind.i64.wrap ((↑y3.size : Int) - x0.2.2.fst)).toNat (↑y3.size : Int).toNat).size ≤ (9223372036854775807 : Nat)) <|
      .ret [.string ({ data := { toList := [(45 : UInt8)] : Array UInt8 } : ByteArray } ++ (y3.extract (Int.toNat (0 : Int)) (Go.IntKind.i64.wrap ((↑y3.size : Int) - x0.2.2.fst)).toNat ++ { data := { toList := [(46 : UInt8)] : Array UInt8 } : ByteArray } ++ y3.extract (Go.IntKind.i64.wrap ((↑y3.size : Int) - x0.2.2.fst)).toNat (↑y3.size : Int).toNat))]) <|
    .ret [.string (y3.extract (Int.toNat (0 : Int)) (Go.IntKind.i64.wrap ((↑y3.size : Int) - x0.2.2.fst)).toNat ++ { data := { toList := [(46 : UInt8)] : Array UInt8 } : ByteArray } ++ y3.extract (Go.IntKind.i64.wrap ((↑y3.size : Int) - x0.2.2.fst)).toNat (↑y3.size : Int).toNat)]) <|
  .br (x0.fst) (
    .rq ({ data := { toList := [(45 : UInt8)] : Array UInt8 } : ByteArray }.size + y3.size ≤ (9223372036854775807 : Nat)) <|
    .ret [.string ({ data := { toList := [(45 : UInt8)] : Array UInt8 } : ByteArray } ++ y3)]) <|
  .ret [.string (y3)]
theorem fI_DecText (x0 : Bool × SlV × Int × PUnit) : fits Tryz.prog aI_DecText 161 [Sh1.val (.g [.b, .l, .i .i64]) (x0)] (tI_DecText x0) :=
  ⟨Tryz.f161, Tryz.f161.body.getD .skip, by kernel_rfl, by kernel_rfl, by kernel_rfl, by kernel_rfl, by kernel_rfl, by kernel_rfl⟩
/-! loop.example/g00793/impl.CurPlaces -/
def aI_CurPlaces : An := ⟨[], [], []⟩
noncomputable def tI_CurPlaces (x0 : ByteArray) : T :=
  .call false 147 [.string (x0)] (.t [(.g [.s, .s, .i .i64, .i .i64]), (.o (.b))]) fun y1 =>
  .ret [.int .i64 (y1.1.2.2.fst)]
theorem fI_CurPlaces (x0 : ByteArray) : fits Tryz.prog aI_CurPlaces 162 [.string (x0)] (tI_CurPlaces x0) :=
  ⟨Tryz.f162, Tryz.f162.body.getD .skip, by kernel_rfl, by kernel_rfl, by kernel_rfl, by kernel_rfl, by kernel_rfl, by kernel_rfl⟩
/-! loop.example/g00793/impl.IntText -/
def aI_IntText : An := ⟨[], [], []⟩
noncomputable def tI_IntText (x0 : Int) : T :=
  .call false 191 [.int .i64 (x0)] (.v (.o (.s))) fun y1 =>
  .ret [.string (y1)]
theorem fI_IntText (x0 : Int) : fits Tryz.prog aI_IntText 163 [.int .i64 (x0)] (tI_IntText x0) :=
  ⟨Tryz.f163, Tryz.f163.body.getD .skip, by kernel_rfl, by kernel_rfl, by kernel_rfl, by kernel_rfl, by kernel_rfl, by kernel_rfl⟩
/-! loop.example/g00793/impl.DecMul -/
def aI_DecMul : An := ⟨[], [], []⟩
noncomputable def tI_DecMul (x0 : Bool × SlV × Int × PUnit) (x1 : Bool × SlV × Int × PUnit) : T :=
  .call false 150 [Sh1.val (.g [.b, .l, .i .i64]) (x0)] (.v (.o (.b))) fun y1 =>
  .br (!y1) (
    .ret [Sh1.val (.g [.b, .l, .i .i64]) ((false), (⟨(none), ((0 : Nat)), ((0 : Nat))⟩ : SlV), (((0 : Int)) : Int), ()), .bool (false)]) <|
  .call false 150 [Sh1.val (.g [.b, .l, .i .i64]) (x1)] (.v (.o (.b))) fun y2 =>
  .br (!y2) (
    .ret [Sh1.val (.g [.b, .l, .i .i64]) ((false), (⟨(none), ((0 : Nat)), ((0 : Nat))⟩ : SlV), (((0 : Int)) : Int), ()), .bool (false)]) <|
  .rg <|
  .call true 193 [Sh1.val (.g [.b, .l]) ((x0.fst), x0.2.1, ()), Sh1.val (.g [.b, .l]) ((x1.fst), x1.2.1, ())] (.v (.g [.b, .l])) fun y3 =>
  .call true 192 [Sh1.val (.g [.b, .l]) (y3), .int .i64 (Go.IntKind.i64.wrap (x0.2.2.fst + x1.2.2.fst))] (.t [(.g [.b, .l, .i .i64]), (.o (.b))]) fun y4 =>
  .ret [Sh1.val (.g [.b, .l, .i .i64]) (y4.1), .bool (y4.2.fst)]
theorem fI_DecMul (x0 : Bool × SlV × Int × PUnit) (x1 : Bool × SlV × Int × PUnit) : fits Tryz.prog aI_DecMul 164 [Sh1.val (.g [.b, .l, .i .i64]) (x0), Sh1.val (.g [.b, .l, .i .i64]) (x1)] (tI_DecMul x0 x1) :=
  ⟨Tryz.f164, Tryz.f164.body.getD .skip, by kernel_rfl, by kernel_rfl, by kernel_rfl, by kernel_rfl, by kernel_rfl, by kernel_rfl⟩
/-! loop.example/g00793/impl.IntOf -/
def aI_IntOf : An := ⟨[], [], []⟩
noncomputable def tI_IntOf (x0 : Int) : T :=
  .br (decide (x0 < (0 : Int))) (
    .call false 194 [.int .u64 (Go.IntKind.u64.wrap ((0 : Int) - Go.IntKind.u64.wrap x0))] (.v (.o (.l))) fun y1 =>
    .ret [Sh1.val (.g [.b, .l]) ((true), y1, ())]) <|
  .call false 194 [.int .u64 (Go.IntKind.u64.wrap x0)] (.v (.o (.l))) fun y1 =>
  .ret [Sh1.val (.g [.b, .l]) ((false), y1, ())]
theorem fI_IntOf (x0 : Int) : fits Tryz.prog aI_IntOf 165 [.int .i64 (x0)] (tI_IntOf x0) :=
  ⟨Tryz.f165, Tryz.f165.body.getD .skip, by kernel_rfl, by kernel_rfl, by kernel_rfl, by kernel_rfl, by kernel_rfl, by kernel_rfl⟩
/-! loop.example/g00793/impl.roundModes -/
def aI_roundModes : An := ⟨[], [], []⟩
noncomputable def tI_roundModes  : T :=
  .ret [.agg #[.string ({ data := { toList := [(100 : UInt8), (111 : UInt8), (119 : UInt8), (110 : UInt8)] : Array UInt8 } : ByteArray }), (Go.Value.func (Go.Fn.func (195 : Nat)) { toList := [] : Array Go.Value } { toList := [] : Array Go.Value }), .string ({ data := { toList := [(117 : UInt8), (112 : UInt8)] : Array UInt8 } : ByteArray }), (Go.Value.func (Go.Fn.func (196 : Nat)) { toList := [] : Array Go.Value } { toList := [] : Array Go.Value }), .string ({ data := { toList := [(102 : UInt8), (108 : UInt8), (111 : UInt8), (111 : UInt8), (114 : UInt8)] : Array UInt8 } : ByteArray }), (Go.Value.func (Go.Fn.func (197 : Nat)) { toList := [] : Array Go.Value } { toList := [] : Array Go.Value }), .string ({ data := { toList := [(99 : UInt8), (101 : UInt8), (105 : UInt8), (108 : UInt8)] : Array UInt8 } : ByteArray }), (Go.Value.func (Go.Fn.func (198 : Nat)) { toList := [] : Array Go.Value } { toList := [] : Array Go.Value }), .string ({ data := { toList := [(104 : UInt8), (97 : UInt8), (108 : UInt8), (102 : UInt8), (100 : UInt8), (111 : UInt8), (119 : UInt8), (110 : UInt8)] : Array UInt8 } : ByteArray }), (Go.Value.func (Go.Fn.func (199 : Nat)) { toList := [] : Array Go.Value } { toList := [] : Array Go.Value }), .string ({ data := { toList := [(104 : UInt8), (97 : UInt8), (108 : UInt8), (102 : UInt8), (117 : UInt8), (112 : UInt8)] : Array UInt8 } : ByteArray }), (Go.Value.func (Go.Fn.func (200 : Nat)) { toList := [] : Array Go.Value } { toList := [] : Array Go.Value }), .string ({ data := { toList := [(104 : UInt8), (97 : UInt8), (108 : UInt8), (102 : UInt8), (101 : UInt8), (118 : UInt8), (101 : UInt8), (110 : UInt8)] : Array UInt8 } : ByteArray }), (Go.Value.func (Go.Fn.func (201 : Nat)) { toList := [] : Array Go.Value } { toList := [] : Array Go.Value })]]
theorem fI_roundModes  : fits Tryz.prog aI_roundModes 166 [] (tI_roundModes ) :=
  ⟨Tryz.f166, Tryz.f166.body.getD .skip, by kernel_rfl, by kernel_rfl, by kernel_rfl, by kernel_rfl, by kernel_rfl, by kernel_rfl⟩
/-! loop.example/g00793/laws.eqMoney -/
def aL_eqMoney : An := ⟨[], [], []⟩
noncomputable def tL_eqMoney (x0 : ByteArray × Bool × SlV × PUnit) (x1 : ByteArray × Bool × SlV × PUnit) : T :=
  .br (!ByteArray.toList x0.fst == ByteArray.toList x1.fst) (
    .ret [.bool (false)]) <|
  .call false 171 [Sh1.val (.g [.b, .l]) (x0.2), Sh1.val (.g [.b, .l]) (x1.2)] (.v (.o (.b))) fun y1 =>
  .br (!y1) (
    .ret [.bool (false)]) <|
  .ret [.bool (true)]
theorem fL_eqMoney (x0 : ByteArray × Bool × SlV × PUnit) (x1 : ByteArray × Bool × SlV × PUnit) : fits Tryz.prog aL_eqMoney 170 [Sh1.val (.g [.s, .b, .l]) (x0), Sh1.val (.g [.s, .b, .l]) (x1)] (tL_eqMoney x0 x1) :=
  ⟨Tryz.f170, Tryz.f170.body.getD .skip, by kernel_rfl, by kernel_rfl, by kernel_rfl, by kernel_rfl, by kernel_rfl, by kernel_rfl⟩
/-! loop.example/g00793/laws.eqSigned -/
def aL_eqSigned : An := ⟨[], [], []⟩
noncomputable def tL_eqSigned (x0 : Bool × SlV × PUnit) (x1 : Bool × SlV × PUnit) : T :=
  .br (!x0.fst == x1.fst) (
    .ret [.bool (false)]) <|
  .call false 172 [Sc.val .l (x0.2.1), Sc.val .l (x1.2.1)] (.v (.o (.b))) fun y1 =>
  .br (!y1) (
    .ret [.bool (false)]) <|
  .ret [.bool (true)]
theorem fL_eqSigned (x0 : Bool × SlV × PUnit) (x1 : Bool × SlV × PUnit) : fits Tryz.prog aL_eqSigned 171 [Sh1.val (.g [.b, .l]) (x0), Sh1.val (.g [.b, .l]) (x1)] (tL_eqSigned x0 x1) :=
  ⟨Tryz.f171, Tryz.f171.body.getD .skip, by kernel_rfl, by kernel_rfl, by kernel_rfl, by kernel_rfl, by kernel_rfl, by kernel_rfl⟩
/-! loop.example/g00793/laws.eqIntS -/
def aL_eqIntS : An := ⟨[(4, [.s 5], [.o (.o (.i .i64))])], [], []⟩
noncomputable def tL_eqIntS (x0 : SlV) (x1 : SlV) : T :=
  .br ((↑x0.n : Int) != (↑x1.n : Int)) (
    .ret [.bool (false)]) <|
  .lp [.o (.o (.i .i64))] [.v (.int .i64 ((0 : Int)))] fun y1 =>
  .br (decide (y1.fst < (↑x0.n : Int))) (
    .rg <|
    .el (x0.a) (x0.n) (y1.fst) fun y2 =>
    .ld true (y2.add (Int.toNat y1.fst * (1 : Nat))) (.o (.i .i64)) fun y3 =>
    .el (x1.a) (x1.n) (y1.fst) fun y4 =>
    .ld true (y4.add (Int.toNat y1.fst * (1 : Nat))) (.o (.i .i64)) fun y5 =>
    .br (y3 != y5) (
      .ret [.bool (false)]) <|
    .nx 0 [.v (.int .i64 (Go.IntKind.i64.wrap (y1.fst + (1 : Int))))]) <|
  .ret [.bool (true)]
theorem fL_eqIntS (x0 : SlV) (x1 : SlV) : fits Tryz.prog aL_eqIntS 172 [Sc.val .l (x0), Sc.val .l (x1)] (tL_eqIntS x0 x1) :=
  ⟨Tryz.f172, Tryz.f172.body.getD .skip, by kernel_rfl, by kernel_rfl, by kernel_rfl, by kernel_rfl, by kernel_rfl, by kernel_rfl⟩
/-! loop.example/g00793/laws.eqDec -/
def aL_eqDec : An := ⟨[], [], []⟩
noncomputable def tL_eqDec (x0 : Bool × SlV × Int × PUnit) (x1 : Bool × SlV × Int × PUnit) : T :=
  .call false 171 [Sh1.val (.g [.b, .l]) ((x0.fst), x0.2.1, ()), Sh1.val (.g [.b, .l]) ((x1.fst), x1.2.1, ())] (.v (.o (.b))) fun y1 =>
  .br (!y1) (
    .ret [.bool (false)]) <|
  .br (x0.2.2.fst != x1.2.2.fst) (
    .ret [.bool (false)]) <|
  .ret [.bool (true)]
theorem fL_eqDec (x0 : Bool × SlV × Int × PUnit) (x1 : Bool × SlV × Int × PUnit) : fits Tryz.prog aL_eqDec 173 [Sh1.val (.g [.b, .l, .i .i64]) (x0), Sh1.val (.g [.b, .l, .i .i64]) (x1)] (tL_eqDec x0 x1) :=
  ⟨Tryz.f173, Tryz.f173.body.getD .skip, by kernel_rfl, by kernel_rfl, by kernel_rfl, by kernel_rfl, by kernel_rfl, by kernel_rfl⟩
/-! loop.example/g00793/spec.l08Table -/
def aS_l08Table : An := ⟨[], [], []⟩
noncomputable def tS_l08Table  : T :=
  .fz ((20 : Nat)) [.string ({ data := { toList := [(65 : UInt8), (85 : UInt8), (68 : UInt8)] : Array UInt8 } : ByteArray }), .string ({ data := { toList := [(48 : UInt8), (51 : UInt8), (54 : UInt8)] : Array UInt8 } : ByteArray }), .int .i64 ((2 : Int)), .int .i64 ((5 : Int)), .string ({ data := { toList := [(66 : UInt8), (72 : UInt8), (68 : UInt8)] : Array UInt8 } : ByteArray }), .string ({ data := { toList := [(48 : UInt8), (52 : UInt8), (56 : UInt8)] : Array UInt8 } : ByteArray }), .int .i64 ((3 : Int)), .int .i64 ((5 : Int)), .string ({ data := { toList := [(67 : UInt8), (65 : UInt8), (68 : UInt8)] : Array UInt8 } : ByteArray }), .string ({ data := { toList := [(49 : UInt8), (50 : UInt8), (52 : UInt8)] : Array UInt8 } : ByteArray }), .int .i64 ((2 : Int)), .int .i64 ((5 : Int)), .string ({ data := { toList := [(67 : UInt8), (72 : UInt8), (70 : UInt8)] : Array UInt8 } : ByteArray }), .string ({ data := { toList := [(55 : UInt8), (53 : UInt8), (54 : UInt8)] : Array UInt8 } : ByteArray }), .int .i64 ((2 : Int)), .int .i64 ((5 : Int)), .string ({ data := { toList := [(67 : UInt8), (76 : UInt8), (70 : UInt8)] : Array UInt8 } : ByteArray }), .string ({ data := { toList := [(57 : UInt8), (57 : UInt8), (48 : UInt8)] : Array UInt8 } : ByteArray }), .int .i64 ((4 : Int)), .int .i64 ((1 : Int)), .string ({ data := { toList := [(67 : UInt8), (90 : UInt8), (75 : UInt8)] : Array UInt8 } : ByteArray }), .string ({ data := { toList := [(50 : UInt8), (48 : UInt8), (51 : UInt8)] : Array UInt8 } : ByteArray }), .int .i64 ((2 : Int)), .int .i64 ((100 : Int)), .string ({ data := { toList := [(68 : UInt8), (75 : UInt8), (75 : UInt8)] : Array UInt8 } : ByteArray }), .string ({ data := { toList := [(50 : UInt8), (48 : UInt8), (56 : UInt8)] : Array UInt8 } : ByteArray }), .int .i64 ((2 : Int)), .int .i64 ((50 : Int)), .string ({ data := { toList := [(69 : UInt8), (85 : UInt8), (82 : UInt8)] : Array UInt8 } : ByteArray }), .string ({ data := { toList := [(57 : UInt8), (55 : UInt8), (56 : UInt8)] : Array UInt8 } : ByteArray }), .int .i64 ((2 : Int)), .int .i64 ((1 : Int)), .string ({ data := { toList := [(71 : UInt8), (66 : UInt8), (80 : UInt8)] : Array UInt8 } : ByteArray }), .string ({ data := { toList := [(56 : UInt8), (50 : UInt8), (54 : UInt8)] : Array UInt8 } : ByteArray }), .int .i64 ((2 : Int)), .int .i64 ((1 : Int)), .string ({ data := { toList := [(72 : UInt8), (85 : UInt8), (70 : UInt8)] : Array UInt8 } : ByteArray }), .string ({ data := { toList := [(51 : UInt8), (52 : UInt8), (56 : UInt8)] : Array UInt8 } : ByteArray }), .int .i64 ((2 : Int)), .int .i64 ((500 : Int)), .string ({ data := { toList := [(73 : UInt8), (83 : UInt8), (75 : UInt8)] : Array UInt8 } : ByteArray }), .string ({ data := { toList := [(51 : UInt8), (53 : UInt8), (50 : UInt8)] : Array UInt8 } : ByteArray }), .int .i64 ((0 : Int)), .int .i64 ((1 : Int)), .string ({ data := { toList := [(74 : UInt8), (80 : UInt8), (89 : UInt8)] : Array UInt8 } : ByteArray }), .string ({ data := { toList := [(51 : UInt8), (57 : UInt8), (50 : UInt8)] : Array UInt8 } : ByteArray }), .int .i64 ((0 : Int)), .int .i64 ((1 : Int)), .string ({ data := { toList := [(75 : UInt8), (82 : UInt8), (87 : UInt8)] : Array UInt8 } : ByteArray }), .string ({ data := { toList := [(52 : UInt8), (49 : UInt8), (48 : UInt8)] : Array UInt8 } : ByteArray }), .int .i64 ((0 : Int)), .int .i64 ((10 : Int)), .string ({ data := { toList := [(75 : UInt8), (87 : UInt8), (68 : UInt8)] : Array UInt8 } : ByteArray }), .string ({ data := { toList := [(52 : UInt8), (49 : UInt8), (52 : UInt8)] : Array UInt8 } : ByteArray }), .int .i64 ((3 : Int)), .int .i64 ((5 : Int)), .string ({ data := { toList := [(78 : UInt8), (79 : UInt8), (75 : UInt8)] : Array UInt8 } : ByteArray }), .string ({ data := { toList := [(53 : UInt8), (55 : UInt8), (56 : UInt8)] : Array UInt8 } : ByteArray }), .int .i64 ((2 : Int)), .int .i64 ((100 : Int)), .string ({ data := { toList := [(78 : UInt8), (90 : UInt8), (68 : UInt8)] : Array UInt8 } : ByteArray }), .string ({ data := { toList := [(53 : UInt8), (53 : UInt8), (52 : UInt8)] : Array UInt8 } : ByteArray }), .int .i64 ((2 : Int)), .int .i64 ((10 : Int)), .string ({ data := { toList := [(80 : UInt8), (76 : UInt8), (78 : UInt8)] : Array UInt8 } : ByteArray }), .string ({ data := { toList := [(57 : UInt8), (56 : UInt8), (53 : UInt8)] : Array UInt8 } : ByteArray }), .int .i64 ((2 : Int)), .int .i64 ((1 : Int)), .string ({ data := { toList := [(83 : UInt8), (69 : UInt8), (75 : UInt8)] : Array UInt8 } : ByteArray }), .string ({ data := { toList := [(55 : UInt8), (53 : UInt8), (50 : UInt8)] : Array UInt8 } : ByteArray }), .int .i64 ((2 : Int)), .int .i64 ((100 : Int)), .string ({ data := { toList := [(84 : UInt8), (78 : UInt8), (68 : UInt8)] : Array UInt8 } : ByteArray }), .string ({ data := { toList := [(55 : UInt8), (56 : UInt8), (56 : UInt8)] : Array UInt8 } : ByteArray }), .int .i64 ((3 : Int)), .int .i64 ((10 : Int)), .string ({ data := { toList := [(85 : UInt8), (83 : UInt8), (68 : UInt8)] : Array UInt8 } : ByteArray }), .string ({ data := { toList := [(56 : UInt8), (52 : UInt8), (48 : UInt8)] : Array UInt8 } : ByteArray }), .int .i64 ((2 : Int)), .int .i64 ((1 : Int))] 164 fun b1 c1 =>
  .ret [.slice (some { block := b1, off := (0 : Nat) : Go.Addr }) ((20 : Nat)) (c1)]
theorem fS_l08Table  : fits Tryz.prog aS_l08Table 174 [] (tS_l08Table ) :=
  ⟨Tryz.f174, Tryz.f174.body.getD .skip, by kernel_rfl, by kernel_rfl, by kernel_rfl, by kernel_rfl, by kernel_rfl, by kernel_rfl⟩
/-! loop.example/g00793/spec.l03Div -/
def aS_l03Div : An := ⟨[(7, [.s 8, .s 9, .s 10], [.a 3, .o (.o (.l)), .o (.o (.i .i64))])], [], []⟩
noncomputable def tS_l03Div (x0 : SlV) (x1 : SlV) : T :=
  .br ((↑x1.n : Int) == (1 : Int)) (
    .el (x1.a) (x1.n) ((0 : Int)) fun y1 =>
    .ld false (y1.add (Int.toNat (0 : Int) * (1 : Nat))) (.o (.i .i64)) fun y2 =>
    .call false 204 [Sc.val .l (x0), .int .i64 (y2)] (.t [(.o (.l)), (.o (.i .i64))]) fun y3 =>
    .call false 138 [.int .i64 (y3.2.fst)] (.v (.o (.l))) fun y4 =>
    .ret [Sc.val .l (y3.1), Sc.val .l (y4)]) <|
  .rq ((0 : Int) ≤ (↑x0.n : Int) ∧ (↑x0.n : Int) ≤ (↑x0.n : Int) ∧ (↑(8 : Nat) : Int) * (↑x0.n : Int) ≤ (281474976710656 : Int) ∧ (↑x0.n : Int) ≤ (9223372036854775807 : Int)) <|
  .fz ((0 : Nat)) [] 3 fun b1 c1 =>
  .lp [.a 3, .o (.o (.l)), .o (.o (.i .i64))] [.a 3 ((↑x0.n : Int).toNat) ((Go.madeCells { toList := [Go.Value.int Go.IntKind.i64 (0 : Int)] : Array Go.Value } ((↑x0.n : Int).toNat * (1 : Nat))).toList), .v (.slice (some { block := b1, off := (0 : Nat) : Go.Addr }) ((0 : Nat)) (c1)), .v (.int .i64 (Go.IntKind.i64.wrap ((↑x0.n : Int) - (1 : Int))))] fun y2 =>
  .br (decide (y2.2.2.fst ≥ (0 : Int))) (
    .el (x0.a) (x0.n) (y2.2.2.fst) fun y3 =>
    .ld false (y3.add (Int.toNat y2.2.2.fst * (1 : Nat))) (.o (.i .i64)) fun y4 =>
    .rd ({ a := y2.2.1.a, n := y2.2.1.n, c := y2.2.1.c : SlV }) ((1 : Nat)) fun y5 =>
    .rq (one y5 = true ∧ ((1 : Nat) + y2.2.1.n) * (8 : Nat) ≤ (140737488355328 : Nat) ∧ (1 : Nat) + y2.2.1.n ≤ (9223372036854775807 : Nat)) <|
    .fz ((1 : Nat) + y2.2.1.n) ([(Sh1.o (Sc.i Go.IntKind.i64)).val y4] ++ y5) 3 fun b6 c6 =>
    .call false 180 [.slice (some { block := b6, off := (0 : Nat) : Go.Addr }) ((1 : Nat) + y2.2.1.n) (c6)] (.v (.o (.l))) fun y7 =>
    .call false 94 [Sc.val .l (y7), Sc.val .l (x1)] (.v (.o (.i .i64))) fun y8 =>
    .br (decide (y8 < (0 : Int))) (
      .nx 0 [.a 3 (y2.1.fst) (y2.1.snd), .v (Sc.val .l (y7)), .v (.int .i64 (Go.IntKind.i64.wrap (y2.2.2.fst - (1 : Int))))]) <|
    .call false 205 [Sc.val .l (y7), Sc.val .l (x1)] (.v (.o (.i .i64))) fun y9 =>
    .rq ((0 : Int) ≤ y2.2.2.fst ∧ y2.2.2.fst < (↑y2.1.fst : Int)) <|
    .rq (Int.toNat y2.2.2.fst * (1 : Nat) + [(Sh1.o (Sc.i Go.IntKind.i64)).val y9].length ≤ y2.1.snd.length) <|
    .call false 138 [.int .i64 (y9)] (.v (.o (.l))) fun y10 =>
    .call false 176 [Sc.val .l (x1), Sc.val .l (y10)] (.v (.o (.l))) fun y11 =>
    .call false 206 [Sc.val .l (y7), Sc.val .l (y11)] (.v (.o (.l))) fun y12 =>
    .nx 0 [.a 3 (y2.1.fst) (setl y2.1.snd (Int.toNat y2.2.2.fst * (1 : Nat)) [(Sh1.o (Sc.i Go.IntKind.i64)).val y9]), .v (Sc.val .l (y12)), .v (.int .i64 (Go.IntKind.i64.wrap (y2.2.2.fst - (1 : Int))))]) <|
  .fz (y2.1.fst) (y2.1.snd) 3 fun b3 c3 =>
  .call false 180 [.slice (some { block := b3, off := (0 : Nat) : Go.Addr }) (y2.1.fst) (c3)] (.v (.o (.l))) fun y4 =>
  .ret [Sc.val .l (y4), Sc.val .l (y2.2.1)]
theorem fS_l03Div (x0 : SlV) (x1 : SlV) : fits Tryz.prog aS_l03Div 175 [Sc.val .l (x0), Sc.val .l (x1)] (tS_l03Div x0 x1) :=
  ⟨Tryz.f175, Tryz.f175.body.getD .skip, by kernel_rfl, by kernel_rfl, by kernel_rfl, by kernel_rfl, by kernel_rfl, by kernel_rfl⟩
/-! loop.example/g00793/spec.l02Mul -/
def aS_l02Mul : An := ⟨[(5, [.s 5, .s 28], [.a 3, .o (.o (.i .i64))]), (9, [.s 5, .s 8, .s 35], [.a 3, .o (.o (.i .i64)), .o (.o (.i .i64))])], [], []⟩
noncomputable def tS_l02Mul (x0 : SlV) (x1 : SlV) : T :=
  .br ((↑x0.n : Int) == (0 : Int)) (
    .ret [.slice (none) ((0 : Nat)) ((0 : Nat))]) <|
  .br ((↑x1.n : Int) == (0 : Int)) (
    .ret [.slice (none) ((0 : Nat)) ((0 : Nat))]) <|
  .rq ((0 : Int) ≤ Go.IntKind.i64.wrap ((↑x0.n : Int) + (↑x1.n : Int)) ∧ Go.IntKind.i64.wrap ((↑x0.n : Int) + (↑x1.n : Int)) ≤ Go.IntKind.i64.wrap ((↑x0.n : Int) + (↑x1.n : Int)) ∧ (↑(8 : Nat) : Int) * Go.IntKind.i64.wrap ((↑x0.n : Int) + (↑x1.n : Int)) ≤ (281474976710656 : Int) ∧ Go.IntKind.i64.wrap ((↑x0.n : Int) + (↑x1.n : Int)) ≤ (9223372036854775807 : Int)) <|
  .lp [.a 3, .o (.o (.i .i64))] [.a 3 ((Go.IntKind.i64.wrap ((↑x0.n : Int) + (↑x1.n : Int))).toNat) ((Go.madeCells { toList := [Go.Value.int Go.IntKind.i64 (0 : Int)] : Array Go.Value } ((Go.IntKind.i64.wrap ((↑x0.n : Int) + (↑x1.n : Int))).toNat * (1 : Nat))).toList), .v (.int .i64 ((0 : Int)))] fun y1 =>
  .br (decide (y1.2.fst < (↑x0.n : Int))) (
    .el (x0.a) (x0.n) (y1.2.fst) fun y2 =>
    .ld false (y2.add (Int.toNat y1.2.fst * (1 : Nat))) (.o (.i .i64)) fun y3 =>
    .lp [.a 3, .o (.o (.i .i64)), .o (.o (.i .i64))] [.a 3 (y1.1.fst) (y1.1.snd), .v (.int .i64 ((0 : Int))), .v (.int .i64 ((0 : Int)))] fun y4 =>
    .br (decide (y4.2.2.fst < (↑x1.n : Int))) (
      .el (x1.a) (x1.n) (y4.2.2.fst) fun y5 =>
      .ld false (y5.add (Int.toNat y4.2.2.fst * (1 : Nat))) (.o (.i .i64)) fun y6 =>
      .rq ((0 : Int) ≤ Go.IntKind.i64.wrap (y1.2.fst + y4.2.2.fst) ∧ Go.IntKind.i64.wrap (y1.2.fst + y4.2.2.fst) < (↑y4.1.fst : Int)) <|
      .xs (y4.1.snd) ((Go.IntKind.i64.wrap (y1.2.fst + y4.2.2.fst)).toNat * (1 : Nat)) (.o (.i .i64)) fun y7 =>
      .rq ((1000000000 : Int) ≠ (0 : Int)) <|
      .rq ((0 : Int) ≤ Go.IntKind.i64.wrap (y1.2.fst + y4.2.2.fst) ∧ Go.IntKind.i64.wrap (y1.2.fst + y4.2.2.fst) < (↑y4.1.fst : Int)) <|
      .rq ((Go.IntKind.i64.wrap (y1.2.fst + y4.2.2.fst)).toNat * (1 : Nat) + [Go.Value.int Go.IntKind.i64 ((Go.IntKind.i64.wrap (Go.IntKind.i64.wrap (y7 + Go.IntKind.i64.wrap (y3 * y6)) + y4.2.fst)).tmod (1000000000 : Int))].length ≤ y4.1.snd.length) <|
      .rq ((1000000000 : Int) ≠ (0 : Int)) <|
      .nx 1 [.a 3 (y4.1.fst) (setl y4.1.snd ((Go.IntKind.i64.wrap (y1.2.fst + y4.2.2.fst)).toNat * (1 : Nat)) [Go.Value.int Go.IntKind.i64 ((Go.IntKind.i64.wrap (Go.IntKind.i64.wrap (y7 + Go.IntKind.i64.wrap (y3 * y6)) + y4.2.fst)).tmod (1000000000 : Int))]), .v (.int .i64 (Go.IntKind.i64.wrap ((Go.IntKind.i64.wrap (Go.IntKind.i64.wrap (y7 + Go.IntKind.i64.wrap (y3 * y6)) + y4.2.fst)).tdiv (1000000000 : Int)))), .v (.int .i64 (Go.IntKind.i64.wrap (y4.2.2.fst + (1 : Int))))]) <|
    .rq ((0 : Int) ≤ Go.IntKind.i64.wrap (y1.2.fst + (↑x1.n : Int)) ∧ Go.IntKind.i64.wrap (y1.2.fst + (↑x1.n : Int)) < (↑y4.1.fst : Int)) <|
    .rq ((Go.IntKind.i64.wrap (y1.2.fst + (↑x1.n : Int))).toNat * (1 : Nat) + [(Sh1.o (Sc.i Go.IntKind.i64)).val y4.2.fst].length ≤ y4.1.snd.length) <|
    .nx 0 [.a 3 (y4.1.fst) (setl y4.1.snd ((Go.IntKind.i64.wrap (y1.2.fst + (↑x1.n : Int))).toNat * (1 : Nat)) [(Sh1.o (Sc.i Go.IntKind.i64)).val y4.2.fst]), .v (.int .i64 (Go.IntKind.i64.wrap (y1.2.fst + (1 : Int))))]) <|
  .fz (y1.1.fst) (y1.1.snd) 3 fun b2 c2 =>
  .call false 180 [.slice (some { block := b2, off := (0 : Nat) : Go.Addr }) (y1.1.fst) (c2)] (.v (.o (.l))) fun y3 =>
  .ret [Sc.val .l (y3)]
theorem fS_l02Mul (x0 : SlV) (x1 : SlV) : fits Tryz.prog aS_l02Mul 176 [Sc.val .l (x0), Sc.val .l (x1)] (tS_l02Mul x0 x1) :=
  ⟨Tryz.f176, Tryz.f176.body.getD .skip, by kernel_rfl, by kernel_rfl, by kernel_rfl, by kernel_rfl, by kernel_rfl, by kernel_rfl⟩
/-! loop.example/g00793/spec.l07Both -/
def aS_l07Both : An := ⟨[], [], []⟩
noncomputable def tS_l07Both (x0 : Bool × SlV × Int × PUnit) (x1 : Bool × SlV × Int × PUnit) : T :=
  .br (decide (x1.2.2.fst > x0.2.2.fst)) (
    .rg <|
    .call true 178 [.int .i64 (Go.IntKind.i64.wrap (x1.2.2.fst - x0.2.2.fst))] (.v (.g [.b, .l])) fun y1 =>
    .call true 137 [Sh1.val (.g [.b, .l]) ((x0.fst), x0.2.1, ()), Sh1.val (.g [.b, .l]) (y1)] (.v (.g [.b, .l])) fun y2 =>
    .call true 178 [.int .i64 (Go.IntKind.i64.wrap (x1.2.2.fst - x1.2.2.fst))] (.v (.g [.b, .l])) fun y3 =>
    .call true 137 [Sh1.val (.g [.b, .l]) ((x1.fst), x1.2.1, ()), Sh1.val (.g [.b, .l]) (y3)] (.v (.g [.b, .l])) fun y4 =>
    .ret [Sh1.val (.g [.b, .l]) (y2), Sh1.val (.g [.b, .l]) (y4), .int .i64 (x1.2.2.fst)]) <|
  .rg <|
  .call true 178 [.int .i64 (Go.IntKind.i64.wrap (x0.2.2.fst - x0.2.2.fst))] (.v (.g [.b, .l])) fun y1 =>
  .call true 137 [Sh1.val (.g [.b, .l]) ((x0.fst), x0.2.1, ()), Sh1.val (.g [.b, .l]) (y1)] (.v (.g [.b, .l])) fun y2 =>
  .call true 178 [.int .i64 (Go.IntKind.i64.wrap (x0.2.2.fst - x1.2.2.fst))] (.v (.g [.b, .l])) fun y3 =>
  .call true 137 [Sh1.val (.g [.b, .l]) ((x1.fst), x1.2.1, ()), Sh1.val (.g [.b, .l]) (y3)] (.v (.g [.b, .l])) fun y4 =>
  .ret [Sh1.val (.g [.b, .l]) (y2), Sh1.val (.g [.b, .l]) (y4), .int .i64 (x0.2.2.fst)]
theorem fS_l07Both (x0 : Bool × SlV × Int × PUnit) (x1 : Bool × SlV × Int × PUnit) : fits Tryz.prog aS_l07Both 177 [Sh1.val (.g [.b, .l, .i .i64]) (x0), Sh1.val (.g [.b, .l, .i .i64]) (x1)] (tS_l07Both x0 x1) :=
  ⟨Tryz.f177, Tryz.f177.body.getD .skip, by kernel_rfl, by kernel_rfl, by kernel_rfl, by kernel_rfl, by kernel_rfl, by kernel_rfl⟩
/-! loop.example/g00793/spec.l07Ten -/
def aS_l07Ten : An := ⟨[], [], []⟩
noncomputable def tS_l07Ten (x0 : Int) : T :=
  .call false 207 [.int .i64 (x0)] (.v (.o (.l))) fun y1 =>
  .ret [Sh1.val (.g [.b, .l]) ((false), y1, ())]
theorem fS_l07Ten (x0 : Int) : fits Tryz.prog aS_l07Ten 178 [.int .i64 (x0)] (tS_l07Ten x0) :=
  ⟨Tryz.f178, Tryz.f178.body.getD .skip, by kernel_rfl, by kernel_rfl, by kernel_rfl, by kernel_rfl, by kernel_rfl, by kernel_rfl⟩
/-! loop.example/g00793/spec.NatCut -/
def aS_NatCut : An := ⟨[], [], []⟩
noncomputable def tS_NatCut (x0 : SlV) (x1 : Int) : T :=
  .call false 88 [.int .i64 (x1), .int .i64 ((0 : Int)), .int .i64 ((440 : Int))] (.v (.o (.b))) fun y1 =>
  .br (!y1) (
    .ret [.slice (none) ((0 : Nat)) ((0 : Nat)), .slice (none) ((0 : Nat)) ((0 : Nat))]) <|
  .call false 207 [.int .i64 (x1)] (.v (.o (.l))) fun y2 =>
  .call false 208 [Sc.val .l (x0), Sc.val .l (y2)] (.t [(.o (.l)), (.o (.l))]) fun y3 =>
  .ret [Sc.val .l (y3.1), Sc.val .l (y3.2.1)]
theorem fS_NatCut (x0 : SlV) (x1 : Int) : fits Tryz.prog aS_NatCut 179 [Sc.val .l (x0), .int .i64 (x1)] (tS_NatCut x0 x1) :=
  ⟨Tryz.f179, Tryz.f179.body.getD .skip, by kernel_rfl, by kernel_rfl, by kernel_rfl, by kernel_rfl, by kernel_rfl, by kernel_rfl⟩
/-! loop.example/g00793/spec.l02Trim -/
def aS_l02Trim : An := ⟨[(2, [.s 3], [.o (.o (.i .i64))])], [], []⟩
noncomputable def tS_l02Trim (x0 : SlV) : T :=
  .lp [.o (.o (.i .i64))] [.v (.int .i64 ((↑x0.n : Int)))] fun y1 =>
  .br (decide (y1.fst > (0 : Int))) (
    .el (x0.a) (x0.n) (Go.IntKind.i64.wrap (y1.fst - (1 : Int))) fun y2 =>
    .ld false (y2.add ((Go.IntKind.i64.wrap (y1.fst - (1 : Int))).toNat * (1 : Nat))) (.o (.i .i64)) fun y3 =>
    .br (y3 == (0 : Int)) (
      .nx 0 [.v (.int .i64 (Go.IntKind.i64.wrap (y1.fst - (1 : Int))))]) <|
    .rq ((0 : Int) ≤ (0 : Int) ∧ (0 : Int) ≤ y1.fst ∧ y1.fst ≤ (↑x0.c : Int) ∧ (↑x0.c : Int) ≤ (↑x0.c : Int)) <|
    .ret [.slice (if (↑x0.c : Int).toNat = Int.toNat (0 : Int) then x0.a else Option.map (fun x => x.add (Int.toNat (0 : Int) * Go.Proofs.Tryz.prog.types[(3 : Nat)].size)) x0.a) (Int.toNat y1.fst - Int.toNat (0 : Int)) ((↑x0.c : Int).toNat - Int.toNat (0 : Int))]) <|
  .rq ((0 : Int) ≤ (0 : Int) ∧ (0 : Int) ≤ y1.fst ∧ y1.fst ≤ (↑x0.c : Int) ∧ (↑x0.c : Int) ≤ (↑x0.c : Int)) <|
  .ret [.slice (if (↑x0.c : Int).toNat = Int.toNat (0 : Int) then x0.a else Option.map (fun x => x.add (Int.toNat (0 : Int) * Go.Proofs.Tryz.prog.types[(3 : Nat)].size)) x0.a) (Int.toNat y1.fst - Int.toNat (0 : Int)) ((↑x0.c : Int).toNat - Int.toNat (0 : Int))]
theorem fS_l02Trim (x0 : SlV) : fits Tryz.prog aS_l02Trim 180 [Sc.val .l (x0)] (tS_l02Trim x0) :=
  ⟨Tryz.f180, Tryz.f180.body.getD .skip, by kernel_rfl, by kernel_rfl, by kernel_rfl, by kernel_rfl, by kernel_rfl, by kernel_rfl⟩
/-! loop.example/g00793/impl.natDiv -/
def aI_natDiv : An := ⟨[(9, [.s 9], [.o (.o (.l))]), (14, [.s 12, .s 13], [.a 3, .o (.o (.i .i64))])], [], []⟩
noncomputable def tI_natDiv (x0 : SlV) (x1 : SlV) : T :=
  .call false 209 [Sc.val .l (x0), Sc.val .l (x1)] (.v (.o (.i .i64))) fun y1 =>
  .br (decide (y1 < (0 : Int))) (
    .call false 116 [Sc.val .l (x0)] (.v (.o (.l))) fun y2 =>
    .fz ((0 : Nat)) [] 3 fun b3 c3 =>
    .ret [.slice (some { block := b3, off := (0 : Nat) : Go.Addr }) ((0 : Nat)) (c3), Sc.val .l (y2)]) <|
  .br ((↑x1.n : Int) == (1 : Int)) (
    .el (x1.a) (x1.n) ((0 : Int)) fun y2 =>
    .ld false (y2.add (Int.toNat (0 : Int) * (1 : Nat))) (.o (.i .i64)) fun y3 =>
    .call false 210 [Sc.val .l (x0), .int .i64 (y3)] (.t [(.o (.l)), (.o (.i .i64))]) fun y4 =>
    .call false 211 [.int .i64 (y4.2.fst)] (.v (.o (.l))) fun y5 =>
    .ret [Sc.val .l (y4.1), Sc.val .l (y5)]) <|
  .el (x1.a) (x1.n) (Go.IntKind.i64.wrap ((↑x1.n : Int) - (1 : Int))) fun y2 =>
  .ld false (y2.add ((Go.IntKind.i64.wrap ((↑x1.n : Int) - (1 : Int))).toNat * (1 : Nat))) (.o (.i .i64)) fun y3 =>
  .rq (Go.IntKind.i64.wrap (y3 + (1 : Int)) ≠ (0 : Int)) <|
  .fz ((1 : Nat)) [.int .i64 (Go.IntKind.i64.wrap (Int.tdiv (1000000000 : Int) (Go.IntKind.i64.wrap (y3 + (1 : Int)))))] 3 fun b4 c4 =>
  .call false 212 [Sc.val .l (x0), .slice (some { block := b4, off := (0 : Nat) : Go.Addr }) ((1 : Nat)) (c4)] (.v (.o (.l))) fun y5 =>
  .fz ((1 : Nat)) [.int .i64 (Go.IntKind.i64.wrap (Int.tdiv (1000000000 : Int) (Go.IntKind.i64.wrap (y3 + (1 : Int)))))] 3 fun b6 c6 =>
  .call false 212 [Sc.val .l (x1), .slice (some { block := b6, off := (0 : Nat) : Go.Addr }) ((1 : Nat)) (c6)] (.v (.o (.l))) fun y7 =>
  .lp [.o (.o (.l))] [.v (Sc.val .l (y5))] fun y8 =>
  .br (decide ((↑y8.1.n : Int) ≤ (↑x0.n : Int))) (
    .rq ([Go.Value.int Go.IntKind.i64 (0 : Int)].length = (1 : Nat) * (1 : Nat)) <|
    .rq (one [Go.Value.int Go.IntKind.i64 (0 : Int)] = true) <|
    .ap ({ a := y8.1.a, n := y8.1.n, c := y8.1.c : SlV }) 1 8 [.int .i64 ((0 : Int))] ((1 : Nat)) 3 fun y9 =>
    .nx 0 [.v (Sc.val .l (y9))]) <|
  .rq ((0 : Int) ≤ Go.IntKind.i64.wrap ((↑y8.1.n : Int) - (↑y7.n : Int)) ∧ Go.IntKind.i64.wrap ((↑y8.1.n : Int) - (↑y7.n : Int)) ≤ Go.IntKind.i64.wrap ((↑y8.1.n : Int) - (↑y7.n : Int)) ∧ (↑(8 : Nat) : Int) * Go.IntKind.i64.wrap ((↑y8.1.n : Int) - (↑y7.n : Int)) ≤ (281474976710656 : Int) ∧ Go.IntKind.i64.wrap ((↑y8.1.n : Int) - (↑y7.n : Int)) ≤ (9223372036854775807 : Int)) <|
  .lp [.a 3, .o (.o (.i .i64))] [.a 3 ((Go.IntKind.i64.wrap ((↑y8.1.n : Int) - (↑y7.n : Int))).toNat) ((Go.madeCells { toList := [Go.Value.int Go.IntKind.i64 (0 : Int)] : Array Go.Value } ((Go.IntKind.i64.wrap ((↑y8.1.n : Int) - (↑y7.n : Int))).toNat * (1 : Nat))).toList), .v (.int .i64 (Go.IntKind.i64.wrap ((↑(Go.IntKind.i64.wrap ((↑y8.1.n : Int) - (↑y7.n : Int))).toNat : Int) - (1 : Int))))] fun y9 =>
  .br (decide (y9.2.fst ≥ (0 : Int))) (
    .rq ((0 : Int) ≤ y9.2.fst ∧ y9.2.fst ≤ Go.IntKind.i64.wrap (Go.IntKind.i64.wrap (y9.2.fst + (↑y7.n : Int)) + (1 : Int)) ∧ Go.IntKind.i64.wrap (Go.IntKind.i64.wrap (y9.2.fst + (↑y7.n : Int)) + (1 : Int)) ≤ (↑y8.1.c : Int) ∧ (↑y8.1.c : Int) ≤ (↑y8.1.c : Int)) <|
    .call false 213 [.slice (if (↑y8.1.c : Int).toNat = Int.toNat y9.2.fst then y8.1.a else Option.map (fun x => x.add (Int.toNat y9.snd.fst * Go.Proofs.Tryz.prog.types[(3 : Nat)].size)) y8.1.a) ((Go.IntKind.i64.wrap (Go.IntKind.i64.wrap (y9.2.fst + (↑y7.n : Int)) + (1 : Int))).toNat - Int.toNat y9.2.fst) ((↑y8.1.c : Int).toNat - Int.toNat y9.2.fst), Sc.val .l (y7)] (.v (.o (.i .i64))) fun y10 =>
    .rq ((0 : Int) ≤ y9.2.fst ∧ y9.2.fst < (↑y9.1.fst : Int)) <|
    .rq (Int.toNat y9.2.fst * (1 : Nat) + [(Sh1.o (Sc.i Go.IntKind.i64)).val y10].length ≤ y9.1.snd.length) <|
    .nx 1 [.a 3 (y9.1.fst) (setl y9.1.snd (Int.toNat y9.2.fst * (1 : Nat)) [(Sh1.o (Sc.i Go.IntKind.i64)).val y10]), .v (.int .i64 (Go.IntKind.i64.wrap (y9.2.fst - (1 : Int))))]) <|
  .call false 214 [Sc.val .l (y8.1)] (.v (.o (.l))) fun y10 =>
  .call false 210 [Sc.val .l (y10), .int .i64 (Go.IntKind.i64.wrap (Int.tdiv (1000000000 : Int) (Go.IntKind.i64.wrap (y3 + (1 : Int)))))] (.t [(.o (.l)), (.o (.i .i64))]) fun y11 =>
  .fz (y9.1.fst) (y9.1.snd) 3 fun b12 c12 =>
  .call false 214 [.slice (some { block := b12, off := (0 : Nat) : Go.Addr }) (y9.1.fst) (c12)] (.v (.o (.l))) fun y13 =>
  .ret [Sc.val .l (y13), Sc.val .l (y11.1)]
theorem fI_natDiv (x0 : SlV) (x1 : SlV) : fits Tryz.prog aI_natDiv 181 [Sc.val .l (x0), Sc.val .l (x1)] (tI_natDiv x0 x1) :=
  ⟨Tryz.f181, Tryz.f181.body.getD .skip, by kernel_rfl, by kernel_rfl, by kernel_rfl, by kernel_rfl, by kernel_rfl, by kernel_rfl⟩
/-! loop.example/g00793/impl.isScale -/
def aI_isScale : An := ⟨[], [], []⟩
noncomputable def tI_isScale (x0 : Int) : T :=
  .br (decide (x0 ≥ (0 : Int))) (
    .ret [.bool (decide (x0 ≤ (30 : Int)))]) <|
  .ret [.bool (false)]
theorem fI_isScale (x0 : Int) : fits Tryz.prog aI_isScale 182 [.int .i64 (x0)] (tI_isScale x0) :=
  ⟨Tryz.f182, Tryz.f182.body.getD .skip, by kernel_rfl, by kernel_rfl, by kernel_rfl, by kernel_rfl, by kernel_rfl, by kernel_rfl⟩
/-! loop.example/g00793/impl.intSame -/
def aI_intSame : An := ⟨[], [], []⟩
noncomputable def tI_intSame (x0 : Bool × SlV × PUnit) (x1 : Bool × SlV × PUnit) : T :=
  .br (x0.fst == x1.fst) (
    .call false 215 [Sc.val .l (x0.2.1), Sc.val .l (x1.2.1)] (.v (.o (.b))) fun y1 =>
    .ret [.bool (y1)]) <|
  .ret [.bool (false)]
theorem fI_intSame (x0 : Bool × SlV × PUnit) (x1 : Bool × SlV × PUnit) : fits Tryz.prog aI_intSame 183 [Sh1.val (.g [.b, .l]) (x0), Sh1.val (.g [.b, .l]) (x1)] (tI_intSame x0 x1) :=
  ⟨Tryz.f183, Tryz.f183.body.getD .skip, by kernel_rfl, by kernel_rfl, by kernel_rfl, by kernel_rfl, by kernel_rfl, by kernel_rfl⟩
/-! loop.example/g00793/impl.areNames -/
def aI_areNames : An := ⟨[(2, [.s 7], [.o (.o (.i .i64))])], [], []⟩
noncomputable def tI_areNames (x0 : SlV) : T :=
  .lp [.o (.o (.i .i64))] [.v (.int .i64 ((0 : Int)))] fun y1 =>
  .br (decide (y1.fst < (↑x0.n : Int))) (
    .el (x0.a) (x0.n) (y1.fst) fun y2 =>
    .ld false (y2.add (Int.toNat y1.fst * (1 : Nat))) (.o (.s)) fun y3 =>
    .call false 99 [.string (y3)] (.v (.o (.b))) fun y4 =>
    .br (!y4) (
      .ret [.bool (false)]) <|
    .nx 0 [.v (.int .i64 (Go.IntKind.i64.wrap (y1.fst + (1 : Int))))]) <|
  .ret [.bool (true)]
theorem fI_areNames (x0 : SlV) : fits Tryz.prog aI_areNames 184 [Sc.val .l (x0)] (tI_areNames x0) :=
  ⟨Tryz.f184, Tryz.f184.body.getD .skip, by kernel_rfl, by kernel_rfl, by kernel_rfl, by kernel_rfl, by kernel_rfl, by kernel_rfl⟩
/-! slices.ContainsFunc[[]int,int] -/
def aX_ContainsFunc_int : An := ⟨[], [], []⟩
noncomputable def tX_ContainsFunc_int (x0 : SlV) (x1 : Nat) : T :=
  .call false 216 [Sc.val .l (x0), (Go.Value.func (Go.Fn.func x1) { toList := [] : Array Go.Value } { toList := [] : Array Go.Value })] (.v (.o (.i .i64))) fun y1 =>
  .ret [.bool (decide (y1 ≥ (0 : Int)))]
theorem fX_ContainsFunc_int (x0 : SlV) (x1 : Nat) : fits Tryz.prog aX_ContainsFunc_int 185 [Sc.val .l (x0), (Go.Value.func (Go.Fn.func x1) { toList := [] : Array Go.Value } { toList := [] : Array Go.Value })] (tX_ContainsFunc_int x0 x1) :=
  ⟨Tryz.f185, Tryz.f185.body.getD .skip, by kernel_rfl, by kernel_rfl, by kernel_rfl, by kernel_rfl, by kernel_rfl, by kernel_rfl⟩
/-! loop.example/g00793/impl.dealOk$1 -/
def aI_dealOk_1 : An := ⟨[], [], []⟩
noncomputable def tI_dealOk_1 (x0 : Int) : T :=
  .br (decide (x0 < (0 : Int))) (
    .ret [.bool (true)]) <|
  .ret [.bool (decide (x0 > (1000000000 : Int)))]
theorem fI_dealOk_1 (x0 : Int) : fits Tryz.prog aI_dealOk_1 186 [.int .i64 (x0)] (tI_dealOk_1 x0) :=
  ⟨Tryz.f186, Tryz.f186.body.getD .skip, by kernel_rfl, by kernel_rfl, by kernel_rfl, by kernel_rfl, by kernel_rfl, by kernel_rfl⟩
/-! loop.example/g00793/impl.DecCmp -/
def aI_DecCmp : An := ⟨[], [], []⟩
noncomputable def tI_DecCmp (x0 : Bool × SlV × Int × PUnit) (x1 : Bool × SlV × Int × PUnit) : T :=
  .call false 150 [Sh1.val (.g [.b, .l, .i .i64]) (x0)] (.v (.o (.b))) fun y1 =>
  .br (!y1) (
    .ret [.int .i64 ((0 : Int))]) <|
  .call false 150 [Sh1.val (.g [.b, .l, .i .i64]) (x1)] (.v (.o (.b))) fun y2 =>
  .br (!y2) (
    .ret [.int .i64 ((0 : Int))]) <|
  .call false 217 [.int .i64 (if x1.2.2.fst > x0.2.2.fst then x1.2.2.fst else x0.2.2.fst)] (.v (.o (.c))) fun y3 =>
  .rg <|
  .call true (y3.1) [Sh1.val (.g [.b, .l, .i .i64]) (x0), .pointer (some y3.snd)] (.v (.g [.b, .l])) fun y4 =>
  .call true (y3.1) [Sh1.val (.g [.b, .l, .i .i64]) (x1), .pointer (some y3.snd)] (.v (.g [.b, .l])) fun y5 =>
  .call true 218 [Sh1.val (.g [.b, .l]) (y4), Sh1.val (.g [.b, .l]) (y5)] (.v (.o (.i .i64))) fun y6 =>
  .ret [.int .i64 (y6)]
theorem fI_DecCmp (x0 : Bool × SlV × Int × PUnit) (x1 : Bool × SlV × Int × PUnit) : fits Tryz.prog aI_DecCmp 187 [Sh1.val (.g [.b, .l, .i .i64]) (x0), Sh1.val (.g [.b, .l, .i .i64]) (x1)] (tI_DecCmp x0 x1) :=
  ⟨Tryz.f187, Tryz.f187.body.getD .skip, by kernel_rfl, by kernel_rfl, by kernel_rfl, by kernel_rfl, by kernel_rfl, by kernel_rfl⟩
/-! loop.example/g00793/impl.DecAt -/
def aI_DecAt : An := ⟨[], [], []⟩
noncomputable def tI_DecAt (x0 : Bool × SlV × Int × PUnit) (x1 : Int) : T :=
  .call false 150 [Sh1.val (.g [.b, .l, .i .i64]) (x0)] (.v (.o (.b))) fun y1 =>
  .br (!y1) (
    .ret [Sh1.val (.g [.b, .l, .i .i64]) ((false), (⟨(none), ((0 : Nat)), ((0 : Nat))⟩ : SlV), (((0 : Int)) : Int), ()), .bool (false)]) <|
  .call false 182 [.int .i64 (x1)] (.v (.o (.b))) fun y2 =>
  .br (!y2) (
    .ret [Sh1.val (.g [.b, .l, .i .i64]) ((false), (⟨(none), ((0 : Nat)), ((0 : Nat))⟩ : SlV), (((0 : Int)) : Int), ()), .bool (false)]) <|
  .br (decide (x1 ≥ x0.2.2.fst)) (
    .rg <|
    .call true 217 [.int .i64 (x1)] (.v (.o (.c))) fun y3 =>
    .call true (y3.1) [Sh1.val (.g [.b, .l, .i .i64]) (x0), .pointer (some y3.snd)] (.v (.g [.b, .l])) fun y4 =>
    .call true 192 [Sh1.val (.g [.b, .l]) (y4), .int .i64 (x1)] (.t [(.g [.b, .l, .i .i64]), (.o (.b))]) fun y5 =>
    .ret [Sh1.val (.g [.b, .l, .i .i64]) (y5.1), .bool (y5.2.fst)]) <|
  .rg <|
  .call true 219 [.int .i64 (Go.IntKind.i64.wrap (x0.2.2.fst - x1))] (.v (.o (.l))) fun y3 =>
  .call true 181 [Sc.val .l (x0.2.1), Sc.val .l (y3)] (.t [(.o (.l)), (.o (.l))]) fun y4 =>
  .br (decide ((↑y4.2.1.n : Int) > (0 : Int))) (
    .ret [Sh1.val (.g [.b, .l, .i .i64]) ((false), (⟨(none), ((0 : Nat)), ((0 : Nat))⟩ : SlV), (((0 : Int)) : Int), ()), .bool (false)]) <|
  .call false 115 [.bool (x0.fst), Sc.val .l (y4.1)] (.v (.g [.b, .l])) fun y5 =>
  .call false 192 [Sh1.val (.g [.b, .l]) (y5), .int .i64 (x1)] (.t [(.g [.b, .l, .i .i64]), (.o (.b))]) fun y6 =>
  .ret [Sh1.val (.g [.b, .l, .i .i64]) (y6.1), .bool (y6.2.fst)]
theorem fI_DecAt (x0 : Bool × SlV × Int × PUnit) (x1 : Int) : fits Tryz.prog aI_DecAt 188 [Sh1.val (.g [.b, .l, .i .i64]) (x0), .int .i64 (x1)] (tI_DecAt x0 x1) :=
  ⟨Tryz.f188, Tryz.f188.body.getD .skip, by kernel_rfl, by kernel_rfl, by kernel_rfl, by kernel_rfl, by kernel_rfl, by kernel_rfl⟩
/-! loop.example/g00793/impl.Pad -/
def aI_Pad : An := ⟨[], [], []⟩
noncomputable def tI_Pad (x0 : ByteArray) (x1 : Int) : T :=
  .br (decide ((↑x0.size : Int) ≥ x1)) (
    .ret [.string (x0)]) <|
  .br (decide (x1 > (2000 : Int))) (
    .ret [.string (x0)]) <|
  .call false 220 [.string ({ data := { toList := [(48 : UInt8)] : Array UInt8 } : ByteArray }), .int .i64 (Go.IntKind.i64.wrap (x1 - (↑x0.size : Int)))] (.v (.o (.s))) fun y1 =>
  .rq (y1.size + x0.size ≤ (9223372036854775807 : Nat)) <|
  .ret [.string (y1 ++ x0)]
theorem fI_Pad (x0 : ByteArray) (x1 : Int) : fits Tryz.prog aI_Pad 189 [.string (x0), .int .i64 (x1)] (tI_Pad x0 x1) :=
  ⟨Tryz.f189, Tryz.f189.body.getD .skip, by kernel_rfl, by kernel_rfl, by kernel_rfl, by kernel_rfl, by kernel_rfl, by kernel_rfl⟩
/-! loop.example/g00793/impl.natText -/
def aI_natText : An := ⟨[(5, [.s 3, .s 4], [.o (.o (.s)), .o (.o (.i .i64))])], [], []⟩
noncomputable def tI_natText (x0 : SlV) : T :=
  .br ((↑x0.n : Int) == (0 : Int)) (
    .ret [.string ({ data := { toList := [(48 : UInt8)] : Array UInt8 } : ByteArray })]) <|
  .el (x0.a) (x0.n) (Go.IntKind.i64.wrap ((↑x0.n : Int) - (1 : Int))) fun y1 =>
  .ld false (y1.add ((Go.IntKind.i64.wrap ((↑x0.n : Int) - (1 : Int))).toNat * (1 : Nat))) (.o (.i .i64)) fun y2 =>
  .call false 163 [.int .i64 (y2)] (.v (.o (.s))) fun y3 =>
  .lp [.o (.o (.s)), .o (.o (.i .i64))] [.v (.string (y3)), .v (.int .i64 (Go.IntKind.i64.wrap ((↑x0.n : Int) - (2 : Int))))] fun y4 =>
  .br (decide (y4.2.fst ≥ (0 : Int))) (
    .el (x0.a) (x0.n) (y4.2.fst) fun y5 =>
    .ld false (y5.add (Int.toNat y4.2.fst * (1 : Nat))) (.o (.i .i64)) fun y6 =>
    .call false 163 [.int .i64 (y6)] (.v (.o (.s))) fun y7 =>
    .call false 189 [.string (y7), .int .i64 ((9 : Int))] (.v (.o (.s))) fun y8 =>
    .rq (ByteArray.size y4.fst + y8.size ≤ (9223372036854775807 : Nat)) <|
    .nx 0 [.v (.string (y4.fst ++ y8)), .v (.int .i64 (Go.IntKind.i64.wrap (y4.2.fst - (1 : Int))))]) <|
  .ret [.string (y4.fst)]
theorem fI_natText (x0 : SlV) : fits Tryz.prog aI_natText 190 [Sc.val .l (x0)] (tI_natText x0) :=
  ⟨Tryz.f190, Tryz.f190.body.getD .skip, by kernel_rfl, by kernel_rfl, by kernel_rfl, by kernel_rfl, by kernel_rfl, by kernel_rfl⟩
/-! loop.example/g00793/impl.decOf -/
def aI_decOf : An := ⟨[], [], []⟩
noncomputable def tI_decOf (x0 : Bool × SlV × PUnit) (x1 : Int) : T :=
  .call false 150 [Sh1.val (.g [.b, .l, .i .i64]) ((x0.fst), x0.2.1, ((x1) : Int), ())] (.v (.o (.b))) fun y1 =>
  .br (y1) (
    .ret [Sh1.val (.g [.b, .l, .i .i64]) ((x0.fst), x0.2.1, ((x1) : Int), ()), .bool (true)]) <|
  .ret [Sh1.val (.g [.b, .l, .i .i64]) ((false), (⟨(none), ((0 : Nat)), ((0 : Nat))⟩ : SlV), (((0 : Int)) : Int), ()), .bool (false)]
theorem fI_decOf (x0 : Bool × SlV × PUnit) (x1 : Int) : fits Tryz.prog aI_decOf 192 [Sh1.val (.g [.b, .l]) (x0), .int .i64 (x1)] (tI_decOf x0 x1) :=
  ⟨Tryz.f192, Tryz.f192.body.getD .skip, by kernel_rfl, by kernel_rfl, by kernel_rfl, by kernel_rfl, by kernel_rfl, by kernel_rfl⟩
/-! loop.example/g00793/impl.intMul -/
def aI_intMul : An := ⟨[], [], []⟩
noncomputable def tI_intMul (x0 : Bool × SlV × PUnit) (x1 : Bool × SlV × PUnit) : T :=
  .rg <|
  .call true 212 [Sc.val .l (x0.2.1), Sc.val .l (x1.2.1)] (.v (.o (.l))) fun y1 =>
  .call true 115 [.bool (!x0.fst == x1.fst), Sc.val .l (y1)] (.v (.g [.b, .l])) fun y2 =>
  .ret [Sh1.val (.g [.b, .l]) (y2)]
theorem fI_intMul (x0 : Bool × SlV × PUnit) (x1 : Bool × SlV × PUnit) : fits Tryz.prog aI_intMul 193 [Sh1.val (.g [.b, .l]) (x0), Sh1.val (.g [.b, .l]) (x1)] (tI_intMul x0 x1) :=
  ⟨Tryz.f193, Tryz.f193.body.getD .skip, by kernel_rfl, by kernel_rfl, by kernel_rfl, by kernel_rfl, by kernel_rfl, by kernel_rfl⟩
/-! loop.example/g00793/impl.natOf -/
def aI_natOf : An := ⟨[(2, [.s 0, .s 3], [.o (.o (.i .u64)), .a 3])], [], []⟩
noncomputable def tI_natOf (x0 : Int) : T :=
  .lp [.o (.o (.i .u64)), .a 3] [.v (.int .u64 (x0)), .a 3 ((0 : Nat)) []] fun y1 =>
  .br (decide (y1.fst > (0 : Int))) (
    .rq ((1000000000 : Int) ≠ (0 : Int)) <|
    .rq ([Go.Value.int Go.IntKind.i64 (Go.IntKind.i64.wrap (Int.tmod y1.fst (1000000000 : Int)))].length = (1 : Nat) * (1 : Nat)) <|
    .rq (one [Go.Value.int Go.IntKind.i64 (Go.IntKind.i64.wrap (Int.tmod y1.fst (1000000000 : Int)))] = true ∧ (y1.2.1.fst + (1 : Nat)) * (8 : Nat) ≤ (140737488355328 : Nat) ∧ y1.2.1.fst + (1 : Nat) ≤ (9223372036854775807 : Nat)) <|
    .rq ((1000000000 : Int) ≠ (0 : Int)) <|
    .nx 0 [.v (.int .u64 (Go.IntKind.u64.wrap (Int.tdiv y1.fst (1000000000 : Int)))), .a 3 (y1.2.1.fst + (1 : Nat)) (y1.2.1.snd ++ [Go.Value.int Go.IntKind.i64 (Go.IntKind.i64.wrap (Int.tmod y1.fst (1000000000 : Int)))])]) <|
  .fz (y1.2.1.fst) (y1.2.1.snd) 3 fun b2 c2 =>
  .ret [.slice (some { block := b2, off := (0 : Nat) : Go.Addr }) (y1.2.1.fst) (c2)]
theorem fI_natOf (x0 : Int) : fits Tryz.prog aI_natOf 194 [.int .u64 (x0)] (tI_natOf x0) :=
  ⟨Tryz.f194, Tryz.f194.body.getD .skip, by kernel_rfl, by kernel_rfl, by kernel_rfl, by kernel_rfl, by kernel_rfl, by kernel_rfl⟩
/-! loop.example/g00793/spec.l03Small -/
def aS_l03Small : An := ⟨[(4, [.s 6, .s 7, .s 8], [.a 3, .o (.o (.i .i64)), .o (.o (.i .i64))])], [], []⟩
noncomputable def tS_l03Small (x0 : SlV) (x1 : Int) : T :=
  .rq ((0 : Int) ≤ (↑x0.n : Int) ∧ (↑x0.n : Int) ≤ (↑x0.n : Int) ∧ (↑(8 : Nat) : Int) * (↑x0.n : Int) ≤ (281474976710656 : Int) ∧ (↑x0.n : Int) ≤ (9223372036854775807 : Int)) <|
  .lp [.a 3, .o (.o (.i .i64)), .o (.o (.i .i64))] [.a 3 ((↑x0.n : Int).toNat) ((Go.madeCells { toList := [Go.Value.int Go.IntKind.i64 (0 : Int)] : Array Go.Value } ((↑x0.n : Int).toNat * (1 : Nat))).toList), .v (.int .i64 ((0 : Int))), .v (.int .i64 (Go.IntKind.i64.wrap ((↑x0.n : Int) - (1 : Int))))] fun y1 =>
  .br (decide (y1.2.2.fst ≥ (0 : Int))) (
    .el (x0.a) (x0.n) (y1.2.2.fst) fun y2 =>
    .ld false (y2.add (Int.toNat y1.2.2.fst * (1 : Nat))) (.o (.i .i64)) fun y3 =>
    .rq (x1 ≠ (0 : Int)) <|
    .rq ((0 : Int) ≤ y1.2.2.fst ∧ y1.2.2.fst < (↑y1.1.fst : Int)) <|
    .rq (Int.toNat y1.2.2.fst * (1 : Nat) + [Go.Value.int Go.IntKind.i64 (Go.IntKind.i64.wrap ((Go.IntKind.i64.wrap (Go.IntKind.i64.wrap (y1.2.fst * (1000000000 : Int)) + y3)).tdiv x1))].length ≤ y1.1.snd.length) <|
    .rq (x1 ≠ (0 : Int)) <|
    .nx 0 [.a 3 (y1.1.fst) (setl y1.1.snd (Int.toNat y1.2.2.fst * (1 : Nat)) [Go.Value.int Go.IntKind.i64 (Go.IntKind.i64.wrap ((Go.IntKind.i64.wrap (Go.IntKind.i64.wrap (y1.2.fst * (1000000000 : Int)) + y3)).tdiv x1))]), .v (.int .i64 ((Go.IntKind.i64.wrap (Go.IntKind.i64.wrap (y1.2.fst * (1000000000 : Int)) + y3)).tmod x1)), .v (.int .i64 (Go.IntKind.i64.wrap (y1.2.2.fst - (1 : Int))))]) <|
  .fz (y1.1.fst) (y1.1.snd) 3 fun b2 c2 =>
  .call false 180 [.slice (some { block := b2, off := (0 : Nat) : Go.Addr }) (y1.1.fst) (c2)] (.v (.o (.l))) fun y3 =>
  .ret [Sc.val .l (y3), .int .i64 (y1.2.fst)]
theorem fS_l03Small (x0 : SlV) (x1 : Int) : fits Tryz.prog aS_l03Small 204 [Sc.val .l (x0), .int .i64 (x1)] (tS_l03Small x0 x1) :=
  ⟨Tryz.f204, Tryz.f204.body.getD .skip, by kernel_rfl, by kernel_rfl, by kernel_rfl, by kernel_rfl, by kernel_rfl, by kernel_rfl⟩
/-! loop.example/g00793/spec.l03Digit -/
def aS_l03Digit : An := ⟨[(3, [.s 5, .s 6], [.o (.o (.i .i64)), .o (.o (.i .i64))])], [], []⟩
noncomputable def tS_l03Digit (x0 : SlV) (x1 : SlV) : T :=
  .lp [.o (.o (.i .i64)), .o (.o (.i .i64))] [.v (.int .i64 ((0 : Int))), .v (.int .i64 ((999999999 : Int)))] fun y1 =>
  .br (decide (y1.fst < y1.2.fst)) (
    .rq ((2 : Int) ≠ (0 : Int)) <|
    .call false 138 [.int .i64 (Go.IntKind.i64.wrap ((Go.IntKind.i64.wrap (Go.IntKind.i64.wrap (y1.fst + y1.2.fst) + (1 : Int))).tdiv (2 : Int)))] (.v (.o (.l))) fun y2 =>
    .call false 176 [Sc.val .l (x1), Sc.val .l (y2)] (.v (.o (.l))) fun y3 =>
    .call false 94 [Sc.val .l (y3), Sc.val .l (x0)] (.v (.o (.i .i64))) fun y4 =>
    .br (decide (y4 ≤ (0 : Int))) (
      .nx 0 [.v (.int .i64 (Go.IntKind.i64.wrap ((Go.IntKind.i64.wrap (Go.IntKind.i64.wrap (y1.fst + y1.2.fst) + (1 : Int))).tdiv (2 : Int)))), .v (.int .i64 (y1.2.fst))]) <|
    .nx 0 [.v (.int .i64 (y1.fst)), .v (.int .i64 (Go.IntKind.i64.wrap (Go.IntKind.i64.wrap ((Go.IntKind.i64.wrap (Go.IntKind.i64.wrap (y1.fst + y1.2.fst) + (1 : Int))).tdiv (2 : Int)) - (1 : Int))))]) <|
  .ret [.int .i64 (y1.fst)]
theorem fS_l03Digit (x0 : SlV) (x1 : SlV) : fits Tryz.prog aS_l03Digit 205 [Sc.val .l (x0), Sc.val .l (x1)] (tS_l03Digit x0 x1) :=
  ⟨Tryz.f205, Tryz.f205.body.getD .skip, by kernel_rfl, by kernel_rfl, by kernel_rfl, by kernel_rfl, by kernel_rfl, by kernel_rfl⟩
/-! loop.example/g00793/spec.l02Sub -/
def aS_l02Sub : An := ⟨[(4, [.s 5, .s 6, .s 12], [.a 3, .o (.o (.i .i64)), .o (.o (.i .i64))])], [], []⟩
noncomputable def tS_l02Sub (x0 : SlV) (x1 : SlV) : T :=
  .lp [.a 3, .o (.o (.i .i64)), .o (.o (.i .i64))] [.a 3 ((0 : Nat)) [], .v (.int .i64 ((0 : Int))), .v (.int .i64 ((0 : Int)))] fun y1 =>
  .br (decide (y1.2.2.fst < (↑x0.n : Int))) (
    .el (x0.a) (x0.n) (y1.2.2.fst) fun y2 =>
    .ld false (y2.add (Int.toNat y1.2.2.fst * (1 : Nat))) (.o (.i .i64)) fun y3 =>
    .br (decide (y1.2.2.fst < (↑x1.n : Int))) (
      .el (x1.a) (x1.n) (y1.2.2.fst) fun y4 =>
      .ld false (y4.add (Int.toNat y1.2.2.fst * (1 : Nat))) (.o (.i .i64)) fun y5 =>
      .br (decide (Go.IntKind.i64.wrap (Go.IntKind.i64.wrap (y3 - y1.2.fst) - y5) < (0 : Int))) (
        .rq ([Go.Value.int Go.IntKind.i64 (Go.IntKind.i64.wrap (Go.IntKind.i64.wrap (Go.IntKind.i64.wrap (y3 - y1.2.fst) - y5) + (1000000000 : Int)))].length = (1 : Nat) * (1 : Nat)) <|
        .rq (one [Go.Value.int Go.IntKind.i64 (Go.IntKind.i64.wrap (Go.IntKind.i64.wrap (Go.IntKind.i64.wrap (y3 - y1.2.fst) - y5) + (1000000000 : Int)))] = true ∧ (y1.1.fst + (1 : Nat)) * (8 : Nat) ≤ (140737488355328 : Nat) ∧ y1.1.fst + (1 : Nat) ≤ (9223372036854775807 : Nat)) <|
        .nx 0 [.a 3 (y1.1.fst + (1 : Nat)) (y1.1.snd ++ [Go.Value.int Go.IntKind.i64 (Go.IntKind.i64.wrap (Go.IntKind.i64.wrap (Go.IntKind.i64.wrap (y3 - y1.2.fst) - y5) + (1000000000 : Int)))]), .v (.int .i64 ((1 : Int))), .v (.int .i64 (Go.IntKind.i64.wrap (y1.2.2.fst + (1 : Int))))]) <|
      .rq ([Go.Value.int Go.IntKind.i64 (Go.IntKind.i64.wrap (Go.IntKind.i64.wrap (y3 - y1.2.fst) - y5))].length = (1 : Nat) * (1 : Nat)) <|
      .rq (one [Go.Value.int Go.IntKind.i64 (Go.IntKind.i64.wrap (Go.IntKind.i64.wrap (y3 - y1.2.fst) - y5))] = true ∧ (y1.1.fst + (1 : Nat)) * (8 : Nat) ≤ (140737488355328 : Nat) ∧ y1.1.fst + (1 : Nat) ≤ (9223372036854775807 : Nat)) <|
      .nx 0 [.a 3 (y1.1.fst + (1 : Nat)) (y1.1.snd ++ [Go.Value.int Go.IntKind.i64 (Go.IntKind.i64.wrap (Go.IntKind.i64.wrap (y3 - y1.2.fst) - y5))]), .v (.int .i64 ((0 : Int))), .v (.int .i64 (Go.IntKind.i64.wrap (y1.2.2.fst + (1 : Int))))]) <|
    .br (decide (Go.IntKind.i64.wrap (y3 - y1.2.fst) < (0 : Int))) (
      .rq ([Go.Value.int Go.IntKind.i64 (Go.IntKind.i64.wrap (Go.IntKind.i64.wrap (y3 - y1.2.fst) + (1000000000 : Int)))].length = (1 : Nat) * (1 : Nat)) <|
      .rq (one [Go.Value.int Go.IntKind.i64 (Go.IntKind.i64.wrap (Go.IntKind.i64.wrap (y3 - y1.2.fst) + (1000000000 : Int)))] = true ∧ (y1.1.fst + (1 : Nat)) * (8 : Nat) ≤ (140737488355328 : Nat) ∧ y1.1.fst + (1 : Nat) ≤ (9223372036854775807 : Nat)) <|
      .nx 0 [.a 3 (y1.1.fst + (1 : Nat)) (y1.1.snd ++ [Go.Value.int Go.IntKind.i64 (Go.IntKind.i64.wrap (Go.IntKind.i64.wrap (y3 - y1.2.fst) + (1000000000 : Int)))]), .v (.int .i64 ((1 : Int))), .v (.int .i64 (Go.IntKind.i64.wrap (y1.2.2.fst + (1 : Int))))]) <|
    .rq ([Go.Value.int Go.IntKind.i64 (Go.IntKind.i64.wrap (y3 - y1.2.fst))].length = (1 : Nat) * (1 : Nat)) <|
    .rq (one [Go.Value.int Go.IntKind.i64 (Go.IntKind.i64.wrap (y3 - y1.2.fst))] = true ∧ (y1.1.fst + (1 : Nat)) * (8 : Nat) ≤ (140737488355328 : Nat) ∧ y1.1.fst + (1 : Nat) ≤ (9223372036854775807 : Nat)) <|
    .nx 0 [.a 3 (y1.1.fst + (1 : Nat)) (y1.1.snd ++ [Go.Value.int Go.IntKind.i64 (Go.IntKind.i64.wrap (y3 - y1.2.fst))]), .v (.int .i64 ((0 : Int))), .v (.int .i64 (Go.IntKind.i64.wrap (y1.2.2.fst + (1 : Int))))]) <|
  .fz (y1.1.fst) (y1.1.snd) 3 fun b2 c2 =>
  .call false 180 [.slice (some { block := b2, off := (0 : Nat) : Go.Addr }) (y1.1.fst) (c2)] (.v (.o (.l))) fun y3 =>
  .ret [Sc.val .l (y3)]
theorem fS_l02Sub (x0 : SlV) (x1 : SlV) : fits Tryz.prog aS_l02Sub 206 [Sc.val .l (x0), Sc.val .l (x1)] (tS_l02Sub x0 x1) :=
  ⟨Tryz.f206, Tryz.f206.body.getD .skip, by kernel_rfl, by kernel_rfl, by kernel_rfl, by kernel_rfl, by kernel_rfl, by kernel_rfl⟩
/-! loop.example/g00793/spec.NatTen -/
def aS_NatTen : An := ⟨[(6, [.s 4, .s 5], [.o (.o (.i .i64)), .o (.o (.i .i64))])], [], []⟩
noncomputable def tS_NatTen (x0 : Int) : T :=
  .call false 88 [.int .i64 (x0), .int .i64 ((0 : Int)), .int .i64 ((449 : Int))] (.v (.o (.b))) fun y1 =>
  .br (!y1) (
    .ret [.slice (none) ((0 : Nat)) ((0 : Nat))]) <|
  .rq ((9 : Int) ≠ (0 : Int)) <|
  .rq ((0 : Int) ≤ Go.IntKind.i64.wrap (x0.tdiv (9 : Int)) ∧ Go.IntKind.i64.wrap (x0.tdiv (9 : Int)) ≤ Go.IntKind.i64.wrap (x0.tdiv (9 : Int)) ∧ (↑(8 : Nat) : Int) * Go.IntKind.i64.wrap (x0.tdiv (9 : Int)) ≤ (281474976710656 : Int) ∧ Go.IntKind.i64.wrap (x0.tdiv (9 : Int)) ≤ (9223372036854775807 : Int)) <|
  .lp [.o (.o (.i .i64)), .o (.o (.i .i64))] [.v (.int .i64 ((1 : Int))), .v (.int .i64 ((0 : Int)))] fun y2 =>
  .rq ((9 : Int) ≠ (0 : Int)) <|
  .br (decide (y2.2.fst < x0.tmod (9 : Int))) (
    .nx 0 [.v (.int .i64 (Go.IntKind.i64.wrap (y2.fst * (10 : Int)))), .v (.int .i64 (Go.IntKind.i64.wrap (y2.2.fst + (1 : Int))))]) <|
  .rq ([(Sh1.o (Sc.i Go.IntKind.i64)).val y2.fst].length = (1 : Nat) * (1 : Nat)) <|
  .rq (one [(Sh1.o (Sc.i Go.IntKind.i64)).val y2.fst] = true ∧ ((Go.IntKind.i64.wrap (x0.tdiv (9 : Int))).toNat + (1 : Nat)) * (8 : Nat) ≤ (140737488355328 : Nat) ∧ (Go.IntKind.i64.wrap (x0.tdiv (9 : Int))).toNat + (1 : Nat) ≤ (9223372036854775807 : Nat)) <|
  .fz ((Go.IntKind.i64.wrap (x0.tdiv (9 : Int))).toNat + (1 : Nat)) ((Go.madeCells { toList := [Go.Value.int Go.IntKind.i64 (0 : Int)] : Array Go.Value } ((Go.IntKind.i64.wrap (x0.tdiv (9 : Int))).toNat * (1 : Nat))).toList ++ [(Sh1.o (Sc.i Go.IntKind.i64)).val y2.fst]) 3 fun b3 c3 =>
  .ret [.slice (some { block := b3, off := (0 : Nat) : Go.Addr }) ((Go.IntKind.i64.wrap (x0.tdiv (9 : Int))).toNat + (1 : Nat)) (c3)]
theorem fS_NatTen (x0 : Int) : fits Tryz.prog aS_NatTen 207 [.int .i64 (x0)] (tS_NatTen x0) :=
  ⟨Tryz.f207, Tryz.f207.body.getD .skip, by kernel_rfl, by kernel_rfl, by kernel_rfl, by kernel_rfl, by kernel_rfl, by kernel_rfl⟩
/-! loop.example/g00793/spec.NatDiv -/
def aS_NatDiv : An := ⟨[], [], []⟩
noncomputable def tS_NatDiv (x0 : SlV) (x1 : SlV) : T :=
  .call false 126 [Sc.val .l (x0)] (.v (.o (.b))) fun y1 =>
  .br (!y1) (
    .ret [.slice (none) ((0 : Nat)) ((0 : Nat)), .slice (none) ((0 : Nat)) ((0 : Nat))]) <|
  .call false 126 [Sc.val .l (x1)] (.v (.o (.b))) fun y2 =>
  .br (!y2) (
    .ret [.slice (none) ((0 : Nat)) ((0 : Nat)), .slice (none) ((0 : Nat)) ((0 : Nat))]) <|
  .br ((↑x1.n : Int) == (0 : Int)) (
    .ret [.slice (none) ((0 : Nat)) ((0 : Nat)), .slice (none) ((0 : Nat)) ((0 : Nat))]) <|
  .call false 175 [Sc.val .l (x0), Sc.val .l (x1)] (.t [(.o (.l)), (.o (.l))]) fun y3 =>
  .ret [Sc.val .l (y3.1), Sc.val .l (y3.2.1)]
theorem fS_NatDiv (x0 : SlV) (x1 : SlV) : fits Tryz.prog aS_NatDiv 208 [Sc.val .l (x0), Sc.val .l (x1)] (tS_NatDiv x0 x1) :=
  ⟨Tryz.f208, Tryz.f208.body.getD .skip, by kernel_rfl, by kernel_rfl, by kernel_rfl, by kernel_rfl, by kernel_rfl, by kernel_rfl⟩
/-! loop.example/g00793/impl.natCmp -/
def aI_natCmp : An := ⟨[(6, [.s 5], [.o (.o (.i .i64))])], [], []⟩
noncomputable def tI_natCmp (x0 : SlV) (x1 : SlV) : T :=
  .br ((↑x0.n : Int) != (↑x1.n : Int)) (
    .br (decide ((↑x0.n : Int) < (↑x1.n : Int))) (
      .ret [.int .i64 ((-1 : Int))]) <|
    .ret [.int .i64 ((1 : Int))]) <|
  .lp [.o (.o (.i .i64))] [.v (.int .i64 (Go.IntKind.i64.wrap ((↑x0.n : Int) - (1 : Int))))] fun y1 =>
  .br (decide (y1.fst ≥ (0 : Int))) (
    .rg <|
    .el (x0.a) (x0.n) (y1.fst) fun y2 =>
    .ld true (y2.add (Int.toNat y1.fst * (1 : Nat))) (.o (.i .i64)) fun y3 =>
    .el (x1.a) (x1.n) (y1.fst) fun y4 =>
    .ld true (y4.add (Int.toNat y1.fst * (1 : Nat))) (.o (.i .i64)) fun y5 =>
    .br (y3 != y5) (
      .rg <|
      .el (x0.a) (x0.n) (y1.fst) fun y6 =>
      .ld true (y6.add (Int.toNat y1.fst * (1 : Nat))) (.o (.i .i64)) fun y7 =>
      .el (x1.a) (x1.n) (y1.fst) fun y8 =>
      .ld true (y8.add (Int.toNat y1.fst * (1 : Nat))) (.o (.i .i64)) fun y9 =>
      .br (decide (y7 < y9)) (
        .ret [.int .i64 ((-1 : Int))]) <|
      .ret [.int .i64 ((1 : Int))]) <|
    .nx 0 [.v (.int .i64 (Go.IntKind.i64.wrap (y1.fst - (1 : Int))))]) <|
  .ret [.int .i64 ((0 : Int))]
theorem fI_natCmp (x0 : SlV) (x1 : SlV) : fits Tryz.prog aI_natCmp 209 [Sc.val .l (x0), Sc.val .l (x1)] (tI_natCmp x0 x1) :=
  ⟨Tryz.f209, Tryz.f209.body.getD .skip, by kernel_rfl, by kernel_rfl, by kernel_rfl, by kernel_rfl, by kernel_rfl, by kernel_rfl⟩
/-! loop.example/g00793/impl.natSmall -/
def aI_natSmall : An := ⟨[(4, [.s 6, .s 7, .s 8], [.a 3, .o (.o (.i .i64)), .o (.o (.i .i64))])], [], []⟩
noncomputable def tI_natSmall (x0 : SlV) (x1 : Int) : T :=
  .rq ((0 : Int) ≤ (↑x0.n : Int) ∧ (↑x0.n : Int) ≤ (↑x0.n : Int) ∧ (↑(8 : Nat) : Int) * (↑x0.n : Int) ≤ (281474976710656 : Int) ∧ (↑x0.n : Int) ≤ (9223372036854775807 : Int)) <|
  .lp [.a 3, .o (.o (.i .i64)), .o (.o (.i .i64))] [.a 3 ((↑x0.n : Int).toNat) ((Go.madeCells { toList := [Go.Value.int Go.IntKind.i64 (0 : Int)] : Array Go.Value } ((↑x0.n : Int).toNat * (1 : Nat))).toList), .v (.int .i64 ((0 : Int))), .v (.int .i64 (Go.IntKind.i64.wrap ((↑x0.n : Int) - (1 : Int))))] fun y1 =>
  .br (decide (y1.2.2.fst ≥ (0 : Int))) (
    .el (x0.a) (x0.n) (y1.2.2.fst) fun y2 =>
    .ld false (y2.add (Int.toNat y1.2.2.fst * (1 : Nat))) (.o (.i .i64)) fun y3 =>
    .rq (x1 ≠ (0 : Int)) <|
    .rq ((0 : Int) ≤ y1.2.2.fst ∧ y1.2.2.fst < (↑y1.1.fst : Int)) <|
    .rq (Int.toNat y1.2.2.fst * (1 : Nat) + [Go.Value.int Go.IntKind.i64 (Go.IntKind.i64.wrap ((Go.IntKind.i64.wrap (Go.IntKind.i64.wrap (y1.2.fst * (1000000000 : Int)) + y3)).tdiv x1))].length ≤ y1.1.snd.length) <|
    .rq (x1 ≠ (0 : Int)) <|
    .nx 0 [.a 3 (y1.1.fst) (setl y1.1.snd (Int.toNat y1.2.2.fst * (1 : Nat)) [Go.Value.int Go.IntKind.i64 (Go.IntKind.i64.wrap ((Go.IntKind.i64.wrap (Go.IntKind.i64.wrap (y1.2.fst * (1000000000 : Int)) + y3)).tdiv x1))]), .v (.int .i64 ((Go.IntKind.i64.wrap (Go.IntKind.i64.wrap (y1.2.fst * (1000000000 : Int)) + y3)).tmod x1)), .v (.int .i64 (Go.IntKind.i64.wrap (y1.2.2.fst - (1 : Int))))]) <|
  .fz (y1.1.fst) (y1.1.snd) 3 fun b2 c2 =>
  .call false 214 [.slice (some { block := b2, off := (0 : Nat) : Go.Addr }) (y1.1.fst) (c2)] (.v (.o (.l))) fun y3 =>
  .ret [Sc.val .l (y3), .int .i64 (y1.2.fst)]
theorem fI_natSmall (x0 : SlV) (x1 : Int) : fits Tryz.prog aI_natSmall 210 [Sc.val .l (x0), .int .i64 (x1)] (tI_natSmall x0 x1) :=
  ⟨Tryz.f210, Tryz.f210.body.getD .skip, by kernel_rfl, by kernel_rfl, by kernel_rfl, by kernel_rfl, by kernel_rfl, by kernel_rfl⟩
/-! loop.example/g00793/impl.NatOf -/
def aI_NatOf : An := ⟨[], [], []⟩
noncomputable def tI_NatOf (x0 : Int) : T :=
  .br (decide (x0 < (0 : Int))) (
    .ret [.slice (none) ((0 : Nat)) ((0 : Nat))]) <|
  .call false 194 [.int .u64 (Go.IntKind.u64.wrap x0)] (.v (.o (.l))) fun y1 =>
  .ret [Sc.val .l (y1)]
theorem fI_NatOf (x0 : Int) : fits Tryz.prog aI_NatOf 211 [.int .i64 (x0)] (tI_NatOf x0) :=
  ⟨Tryz.f211, Tryz.f211.body.getD .skip, by kernel_rfl, by kernel_rfl, by kernel_rfl, by kernel_rfl, by kernel_rfl, by kernel_rfl⟩
/-! loop.example/g00793/impl.natMul -/
def aI_natMul : An := ⟨[(3, [.s 5, .s 21], [.a 3, .o (.o (.i .i64))]), (7, [.s 5, .s 8, .s 28], [.a 3, .o (.o (.i .i64)), .o (.o (.i .i64))]), (14, [.s 5, .s 8, .s 11], [.a 3, .o (.o (.i .i64)), .o (.o (.i .i64))])], [], []⟩
noncomputable def tI_natMul (x0 : SlV) (x1 : SlV) : T :=
  .rq ((0 : Int) ≤ Go.IntKind.i64.wrap (Go.IntKind.i64.wrap ((↑x0.n : Int) + (↑x1.n : Int)) + (1 : Int)) ∧ Go.IntKind.i64.wrap (Go.IntKind.i64.wrap ((↑x0.n : Int) + (↑x1.n : Int)) + (1 : Int)) ≤ Go.IntKind.i64.wrap (Go.IntKind.i64.wrap ((↑x0.n : Int) + (↑x1.n : Int)) + (1 : Int)) ∧ (↑(8 : Nat) : Int) * Go.IntKind.i64.wrap (Go.IntKind.i64.wrap ((↑x0.n : Int) + (↑x1.n : Int)) + (1 : Int)) ≤ (281474976710656 : Int) ∧ Go.IntKind.i64.wrap (Go.IntKind.i64.wrap ((↑x0.n : Int) + (↑x1.n : Int)) + (1 : Int)) ≤ (9223372036854775807 : Int)) <|
  .lp [.a 3, .o (.o (.i .i64))] [.a 3 ((Go.IntKind.i64.wrap (Go.IntKind.i64.wrap ((↑x0.n : Int) + (↑x1.n : Int)) + (1 : Int))).toNat) ((Go.madeCells { toList := [Go.Value.int Go.IntKind.i64 (0 : Int)] : Array Go.Value } ((Go.IntKind.i64.wrap (Go.IntKind.i64.wrap ((↑x0.n : Int) + (↑x1.n : Int)) + (1 : Int))).toNat * (1 : Nat))).toList), .v (.int .i64 ((0 : Int)))] fun y1 =>
  .br (decide (y1.2.fst < (↑x0.n : Int))) (
    .el (x0.a) (x0.n) (y1.2.fst) fun y2 =>
    .ld false (y2.add (Int.toNat y1.2.fst * (1 : Nat))) (.o (.i .i64)) fun y3 =>
    .lp [.a 3, .o (.o (.i .i64)), .o (.o (.i .i64))] [.a 3 (y1.1.fst) (y1.1.snd), .v (.int .i64 ((0 : Int))), .v (.int .i64 ((0 : Int)))] fun y4 =>
    .br (decide (y4.2.2.fst < (↑x1.n : Int))) (
      .el (x1.a) (x1.n) (y4.2.2.fst) fun y5 =>
      .ld false (y5.add (Int.toNat y4.2.2.fst * (1 : Nat))) (.o (.i .i64)) fun y6 =>
      .rq ((0 : Int) ≤ Go.IntKind.i64.wrap (y1.2.fst + y4.2.2.fst) ∧ Go.IntKind.i64.wrap (y1.2.fst + y4.2.2.fst) < (↑y4.1.fst : Int)) <|
      .xs (y4.1.snd) ((Go.IntKind.i64.wrap (y1.2.fst + y4.2.2.fst)).toNat * (1 : Nat)) (.o (.i .i64)) fun y7 =>
      .rq ((1000000000 : Int) ≠ (0 : Int)) <|
      .rq ((0 : Int) ≤ Go.IntKind.i64.wrap (y1.2.fst + y4.2.2.fst) ∧ Go.IntKind.i64.wrap (y1.2.fst + y4.2.2.fst) < (↑y4.1.fst : Int)) <|
      .rq ((Go.IntKind.i64.wrap (y1.2.fst + y4.2.2.fst)).toNat * (1 : Nat) + [Go.Value.int Go.IntKind.i64 ((Go.IntKind.i64.wrap (y4.2.fst + Go.IntKind.i64.wrap (y7 + Go.IntKind.i64.wrap (y3 * y6)))).tmod (1000000000 : Int))].length ≤ y4.1.snd.length) <|
      .rq ((1000000000 : Int) ≠ (0 : Int)) <|
      .nx 1 [.a 3 (y4.1.fst) (setl y4.1.snd ((Go.IntKind.i64.wrap (y1.2.fst + y4.2.2.fst)).toNat * (1 : Nat)) [Go.Value.int Go.IntKind.i64 ((Go.IntKind.i64.wrap (y4.2.fst + Go.IntKind.i64.wrap (y7 + Go.IntKind.i64.wrap (y3 * y6)))).tmod (1000000000 : Int))]), .v (.int .i64 (Go.IntKind.i64.wrap ((Go.IntKind.i64.wrap (y4.2.fst + Go.IntKind.i64.wrap (y7 + Go.IntKind.i64.wrap (y3 * y6)))).tdiv (1000000000 : Int)))), .v (.int .i64 (Go.IntKind.i64.wrap (y4.2.2.fst + (1 : Int))))]) <|
    .lp [.a 3, .o (.o (.i .i64)), .o (.o (.i .i64))] [.a 3 (y4.1.fst) (y4.1.snd), .v (.int .i64 (y4.2.fst)), .v (.int .i64 (Go.IntKind.i64.wrap (y1.2.fst + (↑x1.n : Int))))] fun y5 =>
    .br (decide (y5.2.fst > (0 : Int))) (
      .rq ((0 : Int) ≤ y5.2.2.fst ∧ y5.2.2.fst < (↑y5.1.fst : Int)) <|
      .xs (y5.1.snd) (Int.toNat y5.2.2.fst * (1 : Nat)) (.o (.i .i64)) fun y6 =>
      .rq ((1000000000 : Int) ≠ (0 : Int)) <|
      .rq ((0 : Int) ≤ y5.2.2.fst ∧ y5.2.2.fst < (↑y5.1.fst : Int)) <|
      .rq (Int.toNat y5.2.2.fst * (1 : Nat) + [Go.Value.int Go.IntKind.i64 ((Go.IntKind.i64.wrap (y5.2.fst + y6)).tmod (1000000000 : Int))].length ≤ y5.1.snd.length) <|
      .rq ((1000000000 : Int) ≠ (0 : Int)) <|
      .nx 2 [.a 3 (y5.1.fst) (setl y5.1.snd (Int.toNat y5.2.2.fst * (1 : Nat)) [Go.Value.int Go.IntKind.i64 ((Go.IntKind.i64.wrap (y5.2.fst + y6)).tmod (1000000000 : Int))]), .v (.int .i64 (Go.IntKind.i64.wrap ((Go.IntKind.i64.wrap (y5.2.fst + y6)).tdiv (1000000000 : Int)))), .v (.int .i64 (Go.IntKind.i64.wrap (y5.2.2.fst + (1 : Int))))]) <|
    .nx 0 [.a 3 (y5.1.fst) (y5.1.snd), .v (.int .i64 (Go.IntKind.i64.wrap (y1.2.fst + (1 : Int))))]) <|
  .fz (y1.1.fst) (y1.1.snd) 3 fun b2 c2 =>
  .call false 214 [.slice (some { block := b2, off := (0 : Nat) : Go.Addr }) (y1.1.fst) (c2)] (.v (.o (.l))) fun y3 =>
  .ret [Sc.val .l (y3)]
theorem fI_natMul (x0 : SlV) (x1 : SlV) : fits Tryz.prog aI_natMul 212 [Sc.val .l (x0), Sc.val .l (x1)] (tI_natMul x0 x1) :=
  ⟨Tryz.f212, Tryz.f212.body.getD .skip, by kernel_rfl, by kernel_rfl, by kernel_rfl, by kernel_rfl, by kernel_rfl, by kernel_rfl⟩
/-! loop.example/g00793/impl.divStep -/
def aI_divStep : An := ⟨[(4, [.s 7], [.o (.o (.i .i64))])], [], []⟩
noncomputable def tI_divStep (x0 : SlV) (x1 : SlV) : T :=
  .rg <|
  .el (x0.a) (x0.n) ((↑x1.n : Int)) fun y1 =>
  .ld true (y1.add ((↑x1.n : Int).toNat * (1 : Nat))) (.o (.i .i64)) fun y2 =>
  .el (x0.a) (x0.n) (Go.IntKind.i64.wrap ((↑x1.n : Int) - (1 : Int))) fun y3 =>
  .ld true (y3.add ((Go.IntKind.i64.wrap ((↑x1.n : Int) - (1 : Int))).toNat * (1 : Nat))) (.o (.i .i64)) fun y4 =>
  .el (x1.a) (x1.n) (Go.IntKind.i64.wrap ((↑x1.n : Int) - (1 : Int))) fun y5 =>
  .ld false (y5.add ((Go.IntKind.i64.wrap ((↑x1.n : Int) - (1 : Int))).toNat * (1 : Nat))) (.o (.i .i64)) fun y6 =>
  .rq (y6 ≠ (0 : Int)) <|
  .lp [.o (.o (.i .i64))] [.v (.int .i64 (if (999999999 : Int) < Go.IntKind.i64.wrap ((Go.IntKind.i64.wrap (Go.IntKind.i64.wrap (y2 * (1000000000 : Int)) + y4)).tdiv y6) then (999999999 : Int) else Go.IntKind.i64.wrap ((Go.IntKind.i64.wrap (Go.IntKind.i64.wrap (y2 * (1000000000 : Int)) + y4)).tdiv y6)))] fun y7 =>
  .rg <|
  .br (decide (y7.fst > (0 : Int))) (
    .el (x1.a) (x1.n) (Go.IntKind.i64.wrap ((↑x1.n : Int) - (1 : Int))) fun y8 =>
    .ld true (y8.add ((Go.IntKind.i64.wrap ((↑x1.n : Int) - (1 : Int))).toNat * (1 : Nat))) (.o (.i .i64)) fun y9 =>
    .br (decide (Go.IntKind.i64.wrap (Go.IntKind.i64.wrap (Go.IntKind.i64.wrap (y2 * (1000000000 : Int)) + y4) - Go.IntKind.i64.wrap (y7.fst * y9)) < (1000000000 : Int))) (
      .el (x1.a) (x1.n) (Go.IntKind.i64.wrap ((↑x1.n : Int) - (2 : Int))) fun y10 =>
      .ld true (y10.add ((Go.IntKind.i64.wrap ((↑x1.n : Int) - (2 : Int))).toNat * (1 : Nat))) (.o (.i .i64)) fun y11 =>
      .el (x1.a) (x1.n) (Go.IntKind.i64.wrap ((↑x1.n : Int) - (1 : Int))) fun y12 =>
      .ld true (y12.add ((Go.IntKind.i64.wrap ((↑x1.n : Int) - (1 : Int))).toNat * (1 : Nat))) (.o (.i .i64)) fun y13 =>
      .el (x0.a) (x0.n) (Go.IntKind.i64.wrap ((↑x1.n : Int) - (2 : Int))) fun y14 =>
      .ld true (y14.add ((Go.IntKind.i64.wrap ((↑x1.n : Int) - (2 : Int))).toNat * (1 : Nat))) (.o (.i .i64)) fun y15 =>
      .br (decide (Go.IntKind.i64.wrap (y7.fst * y11) > Go.IntKind.i64.wrap (Go.IntKind.i64.wrap (Go.IntKind.i64.wrap (Go.IntKind.i64.wrap (Go.IntKind.i64.wrap (y2 * (1000000000 : Int)) + y4) - Go.IntKind.i64.wrap (y7.fst * y13)) * (1000000000 : Int)) + y15))) (
        .nx 0 [.v (.int .i64 (Go.IntKind.i64.wrap (y7.fst - (1 : Int))))]) <|
      .call false 224 [Sc.val .l (x0), Sc.val .l (x1), .int .i64 (y7.fst)] (.v (.o (.b))) fun y16 =>
      .br (y16) (
        .call false 225 [Sc.val .l (x0), Sc.val .l (x1)] (.t []) fun _ =>
        .ret [.int .i64 (Go.IntKind.i64.wrap (y7.fst - (1 : Int)))]) <|
      .ret [.int .i64 (y7.fst)]) <|
    .call false 224 [Sc.val .l (x0), Sc.val .l (x1), .int .i64 (y7.fst)] (.v (.o (.b))) fun y10 =>
    .br (y10) (
      .call false 225 [Sc.val .l (x0), Sc.val .l (x1)] (.t []) fun _ =>
      .ret [.int .i64 (Go.IntKind.i64.wrap (y7.fst - (1 : Int)))]) <|
    .ret [.int .i64 (y7.fst)]) <|
  .call false 224 [Sc.val .l (x0), Sc.val .l (x1), .int .i64 (y7.fst)] (.v (.o (.b))) fun y8 =>
  .br (y8) (
    .call false 225 [Sc.val .l (x0), Sc.val .l (x1)] (.t []) fun _ =>
    .ret [.int .i64 (Go.IntKind.i64.wrap (y7.fst - (1 : Int)))]) <|
  .ret [.int .i64 (y7.fst)]
theorem fI_divStep (x0 : SlV) (x1 : SlV) : fits Tryz.prog aI_divStep 213 [Sc.val .l (x0), Sc.val .l (x1)] (tI_divStep x0 x1) :=
  ⟨Tryz.f213, Tryz.f213.body.getD .skip, by kernel_rfl, by kernel_rfl, by kernel_rfl, by kernel_rfl, by kernel_rfl, by kernel_rfl⟩
/-! loop.example/g00793/impl.trim -/
def aI_trim : An := ⟨[(1, [.s 0], [.o (.o (.l))])], [], []⟩
noncomputable def tI_trim (x0 : SlV) : T :=
  .lp [.o (.o (.l))] [.v (Sc.val .l (x0))] fun y1 =>
  .br (decide ((↑y1.1.n : Int) > (0 : Int))) (
    .el (y1.1.a) (y1.1.n) (Go.IntKind.i64.wrap ((↑y1.1.n : Int) - (1 : Int))) fun y2 =>
    .ld false (y2.add ((Go.IntKind.i64.wrap ((↑y1.1.n : Int) - (1 : Int))).toNat * (1 : Nat))) (.o (.i .i64)) fun y3 =>
    .br (y3 == (0 : Int)) (
      .rq ((0 : Int) ≤ (0 : Int) ∧ (0 : Int) ≤ Go.IntKind.i64.wrap ((↑y1.1.n : Int) - (1 : Int)) ∧ Go.IntKind.i64.wrap ((↑y1.1.n : Int) - (1 : Int)) ≤ (↑y1.1.c : Int) ∧ (↑y1.1.c : Int) ≤ (↑y1.1.c : Int)) <|
      .nx 0 [.v (.slice (if (↑y1.1.c : Int).toNat = Int.toNat (0 : Int) then y1.1.a else Option.map (fun x => x.add (Int.toNat (0 : Int) * Go.Proofs.Tryz.prog.types[(3 : Nat)].size)) y1.1.a) ((Go.IntKind.i64.wrap ((↑y1.1.n : Int) - (1 : Int))).toNat - Int.toNat (0 : Int)) ((↑y1.1.c : Int).toNat - Int.toNat (0 : Int)))]) <|
    .ret [Sc.val .l (y1.1)]) <|
  .ret [Sc.val .l (y1.1)]
theorem fI_trim (x0 : SlV) : fits Tryz.prog aI_trim 214 [Sc.val .l (x0)] (tI_trim x0) :=
  ⟨Tryz.f214, Tryz.f214.body.getD .skip, by kernel_rfl, by kernel_rfl, by kernel_rfl, by kernel_rfl, by kernel_rfl, by kernel_rfl⟩
/-! loop.example/g00793/impl.sameInts -/
def aI_sameInts : An := ⟨[(4, [.s 13], [.o (.o (.i .i64))])], [], []⟩
noncomputable def tI_sameInts (x0 : SlV) (x1 : SlV) : T :=
  .br ((↑x0.n : Int) != (↑x1.n : Int)) (
    .ret [.bool (false)]) <|
  .lp [.o (.o (.i .i64))] [.v (.int .i64 ((0 : Int)))] fun y1 =>
  .br (decide (y1.fst < (↑x0.n : Int))) (
    .rg <|
    .el (x0.a) (x0.n) (y1.fst) fun y2 =>
    .ld true (y2.add (Int.toNat y1.fst * (1 : Nat))) (.o (.i .i64)) fun y3 =>
    .el (x1.a) (x1.n) (y1.fst) fun y4 =>
    .ld true (y4.add (Int.toNat y1.fst * (1 : Nat))) (.o (.i .i64)) fun y5 =>
    .br (y3 != y5) (
      .ret [.bool (false)]) <|
    .nx 0 [.v (.int .i64 (Go.IntKind.i64.wrap (y1.fst + (1 : Int))))]) <|
  .ret [.bool (true)]
theorem fI_sameInts (x0 : SlV) (x1 : SlV) : fits Tryz.prog aI_sameInts 215 [Sc.val .l (x0), Sc.val .l (x1)] (tI_sameInts x0 x1) :=
  ⟨Tryz.f215, Tryz.f215.body.getD .skip, by kernel_rfl, by kernel_rfl, by kernel_rfl, by kernel_rfl, by kernel_rfl, by kernel_rfl⟩
/-! slices.IndexFunc[[]int,int] -/
def aX_IndexFunc_int : An := ⟨[(2, [.s 8], [.o (.o (.i .i64))])], [], []⟩
noncomputable def tX_IndexFunc_int (x0 : SlV) (x1 : Nat) : T :=
  .lp [.o (.o (.i .i64))] [.v (.int .i64 ((0 : Int)))] fun y1 =>
  .br (decide (y1.fst < (↑x0.n : Int))) (
    .el (x0.a) (x0.n) (y1.fst) fun y2 =>
    .ld false (y2.add (Int.toNat y1.fst * (1 : Nat))) (.o (.i .i64)) fun y3 =>
    .call false (x1) [.int .i64 (y3)] (.v (.o (.b))) fun y4 =>
    .br (y4) (
      .ret [.int .i64 (y1.fst)]) <|
    .nx 0 [.v (.int .i64 (Go.IntKind.i64.wrap (y1.fst + (1 : Int))))]) <|
  .ret [.int .i64 ((-1 : Int))]
theorem fX_IndexFunc_int (x0 : SlV) (x1 : Nat) : fits Tryz.prog aX_IndexFunc_int 216 [Sc.val .l (x0), (Go.Value.func (Go.Fn.func x1) { toList := [] : Array Go.Value } { toList := [] : Array Go.Value })] (tX_IndexFunc_int x0 x1) :=
  ⟨Tryz.f216, Tryz.f216.body.getD .skip, by kernel_rfl, by kernel_rfl, by kernel_rfl, by kernel_rfl, by kernel_rfl, by kernel_rfl⟩
/-! loop.example/g00793/impl.scaled -/
def aI_scaled : An := ⟨[], [], []⟩
noncomputable def tI_scaled (x0 : Int) : T :=
  .es [.int .i64 (x0)] 3 fun b1 =>
  .ret [(Go.Value.func (Go.Fn.func (226 : Nat)) { toList := [] : Array Go.Value } { toList := [Go.Value.pointer (some { block := b1, off := (0 : Nat) : Go.Addr })] : Array Go.Value })]
theorem fI_scaled (x0 : Int) : fits Tryz.prog aI_scaled 217 [.int .i64 (x0)] (tI_scaled x0) :=
  ⟨Tryz.f217, Tryz.f217.body.getD .skip, by kernel_rfl, by kernel_rfl, by kernel_rfl, by kernel_rfl, by kernel_rfl, by kernel_rfl⟩
/-! loop.example/g00793/impl.intCmp -/
def aI_intCmp : An := ⟨[], [], []⟩
noncomputable def tI_intCmp (x0 : Bool × SlV × PUnit) (x1 : Bool × SlV × PUnit) : T :=
  .rg <|
  .call true 62 [Sh1.val (.g [.b, .l]) (x1)] (.v (.g [.b, .l])) fun y1 =>
  .call true 227 [Sh1.val (.g [.b, .l]) (x0), Sh1.val (.g [.b, .l]) (y1)] (.v (.g [.b, .l])) fun y2 =>
  .call true 25 [Sh1.val (.g [.b, .l]) (y2)] (.v (.o (.i .i64))) fun y3 =>
  .ret [.int .i64 (y3)]
theorem fI_intCmp (x0 : Bool × SlV × PUnit) (x1 : Bool × SlV × PUnit) : fits Tryz.prog aI_intCmp 218 [Sh1.val (.g [.b, .l]) (x0), Sh1.val (.g [.b, .l]) (x1)] (tI_intCmp x0 x1) :=
  ⟨Tryz.f218, Tryz.f218.body.getD .skip, by kernel_rfl, by kernel_rfl, by kernel_rfl, by kernel_rfl, by kernel_rfl, by kernel_rfl⟩
/-! loop.example/g00793/impl.natTen -/
def aI_natTen : An := ⟨[(4, [.s 4, .s 13], [.o (.o (.i .i64)), .o (.o (.i .i64))])], [], []⟩
noncomputable def tI_natTen (x0 : Int) : T :=
  .rq ((9 : Int) ≠ (0 : Int)) <|
  .rq ((9 : Int) ≠ (0 : Int)) <|
  .rq ((0 : Int) ≤ Go.IntKind.i64.wrap (x0.tdiv (9 : Int)) ∧ Go.IntKind.i64.wrap (x0.tdiv (9 : Int)) ≤ Go.IntKind.i64.wrap (Go.IntKind.i64.wrap (x0.tdiv (9 : Int)) + (1 : Int)) ∧ (↑(8 : Nat) : Int) * Go.IntKind.i64.wrap (Go.IntKind.i64.wrap (x0.tdiv (9 : Int)) + (1 : Int)) ≤ (281474976710656 : Int) ∧ Go.IntKind.i64.wrap (Go.IntKind.i64.wrap (x0.tdiv (9 : Int)) + (1 : Int)) ≤ (9223372036854775807 : Int)) <|
  .rq ((9 : Int) ≠ (0 : Int)) <|
  .lp [.o (.o (.i .i64)), .o (.o (.i .i64))] [.v (.int .i64 ((1 : Int))), .v (.int .i64 ((0 : Int)))] fun y1 =>
  .br (decide (y1.2.fst < x0.tmod (9 : Int))) (
    .nx 0 [.v (.int .i64 (Go.IntKind.i64.wrap (y1.fst * (10 : Int)))), .v (.int .i64 (Go.IntKind.i64.wrap (y1.2.fst + (1 : Int))))]) <|
  .rq ([(Sh1.o (Sc.i Go.IntKind.i64)).val y1.fst].length = (1 : Nat) * (1 : Nat)) <|
  .rq (one [(Sh1.o (Sc.i Go.IntKind.i64)).val y1.fst] = true ∧ ((Go.IntKind.i64.wrap (x0.tdiv (9 : Int))).toNat + (1 : Nat)) * (8 : Nat) ≤ (140737488355328 : Nat) ∧ (Go.IntKind.i64.wrap (x0.tdiv (9 : Int))).toNat + (1 : Nat) ≤ (9223372036854775807 : Nat)) <|
  .fz ((Go.IntKind.i64.wrap (x0.tdiv (9 : Int))).toNat + (1 : Nat)) ((Go.madeCells { toList := [Go.Value.int Go.IntKind.i64 (0 : Int)] : Array Go.Value } ((Go.IntKind.i64.wrap (x0.tdiv (9 : Int))).toNat * (1 : Nat))).toList ++ [(Sh1.o (Sc.i Go.IntKind.i64)).val y1.fst]) 3 fun b2 c2 =>
  .ret [.slice (some { block := b2, off := (0 : Nat) : Go.Addr }) ((Go.IntKind.i64.wrap (x0.tdiv (9 : Int))).toNat + (1 : Nat)) (c2)]
theorem fI_natTen (x0 : Int) : fits Tryz.prog aI_natTen 219 [.int .i64 (x0)] (tI_natTen x0) :=
  ⟨Tryz.f219, Tryz.f219.body.getD .skip, by kernel_rfl, by kernel_rfl, by kernel_rfl, by kernel_rfl, by kernel_rfl, by kernel_rfl⟩
/-! loop.example/g00793/impl.subTimes -/
def aI_subTimes : An := ⟨[(3, [.s 0, .s 7, .s 13], [.o (.o (.l)), .o (.o (.i .i64)), .o (.o (.i .i64))])], [], []⟩
noncomputable def tI_subTimes (x0 : SlV) (x1 : SlV) (x2 : Int) : T :=
  .lp [.o (.o (.l)), .o (.o (.i .i64)), .o (.o (.i .i64))] [.v (Sc.val .l (x0)), .v (.int .i64 ((0 : Int))), .v (.int .i64 ((0 : Int)))] fun y1 =>
  .br (decide (y1.2.2.fst < (↑x1.n : Int))) (
    .el (x1.a) (x1.n) (y1.2.2.fst) fun y2 =>
    .ld false (y2.add (Int.toNat y1.2.2.fst * (1 : Nat))) (.o (.i .i64)) fun y3 =>
    .el (y1.1.a) (y1.1.n) (y1.2.2.fst) fun y4 =>
    .ld false (y4.add (Int.toNat y1.2.2.fst * (1 : Nat))) (.o (.i .i64)) fun y5 =>
    .br (decide (Go.IntKind.i64.wrap (Go.IntKind.i64.wrap (y5 - Go.IntKind.i64.wrap (y3 * x2)) - y1.2.fst) < (0 : Int))) (
      .rq ((1000000000 : Int) ≠ (0 : Int)) <|
      .el (y1.1.a) (y1.1.n) (y1.2.2.fst) fun y6 =>
      .st (y6.add (Int.toNat y1.2.2.fst * (1 : Nat))) [.int .i64 (Go.IntKind.i64.wrap (Go.IntKind.i64.wrap (Go.IntKind.i64.wrap (y5 - Go.IntKind.i64.wrap (y3 * x2)) - y1.2.fst) + Go.IntKind.i64.wrap (Go.IntKind.i64.wrap ((Go.IntKind.i64.wrap (Go.IntKind.i64.wrap (Go.IntKind.i64.wrap ((0 : Int) - Go.IntKind.i64.wrap (Go.IntKind.i64.wrap (y5 - Go.IntKind.i64.wrap (y3 * x2)) - y1.2.fst)) + (1000000000 : Int)) - (1 : Int))).tdiv (1000000000 : Int)) * (1000000000 : Int))))] <|
      .nx 0 [.v (Sc.val .l (y1.1)), .v (.int .i64 (Go.IntKind.i64.wrap ((Go.IntKind.i64.wrap (Go.IntKind.i64.wrap (Go.IntKind.i64.wrap ((0 : Int) - Go.IntKind.i64.wrap (Go.IntKind.i64.wrap (y5 - Go.IntKind.i64.wrap (y3 * x2)) - y1.2.fst)) + (1000000000 : Int)) - (1 : Int))).tdiv (1000000000 : Int)))), .v (.int .i64 (Go.IntKind.i64.wrap (y1.2.2.fst + (1 : Int))))]) <|
    .el (y1.1.a) (y1.1.n) (y1.2.2.fst) fun y6 =>
    .st (y6.add (Int.toNat y1.2.2.fst * (1 : Nat))) [.int .i64 (Go.IntKind.i64.wrap (Go.IntKind.i64.wrap (y5 - Go.IntKind.i64.wrap (y3 * x2)) - y1.2.fst))] <|
    .nx 0 [.v (Sc.val .l (y1.1)), .v (.int .i64 ((0 : Int))), .v (.int .i64 (Go.IntKind.i64.wrap (y1.2.2.fst + (1 : Int))))]) <|
  .el (y1.1.a) (y1.1.n) ((↑x1.n : Int)) fun y2 =>
  .ld false (y2.add ((↑x1.n : Int).toNat * (1 : Nat))) (.o (.i .i64)) fun y3 =>
  .el (y1.1.a) (y1.1.n) ((↑x1.n : Int)) fun y4 =>
  .st (y4.add ((↑x1.n : Int).toNat * (1 : Nat))) [.int .i64 (Go.IntKind.i64.wrap (y3 - y1.2.fst))] <|
  .el (y1.1.a) (y1.1.n) ((↑x1.n : Int)) fun y5 =>
  .ld false (y5.add ((↑x1.n : Int).toNat * (1 : Nat))) (.o (.i .i64)) fun y6 =>
  .ret [.bool (decide (y6 < (0 : Int)))]
theorem fI_subTimes (x0 : SlV) (x1 : SlV) (x2 : Int) : fits Tryz.prog aI_subTimes 224 [Sc.val .l (x0), Sc.val .l (x1), .int .i64 (x2)] (tI_subTimes x0 x1 x2) :=
  ⟨Tryz.f224, Tryz.f224.body.getD .skip, by kernel_rfl, by kernel_rfl, by kernel_rfl, by kernel_rfl, by kernel_rfl, by kernel_rfl⟩
/-! loop.example/g00793/impl.addBack -/
def aI_addBack : An := ⟨[(2, [.s 0, .s 4, .s 9], [.o (.o (.l)), .o (.o (.i .i64)), .o (.o (.i .i64))])], [], []⟩
noncomputable def tI_addBack (x0 : SlV) (x1 : SlV) : T :=
  .lp [.o (.o (.l)), .o (.o (.i .i64)), .o (.o (.i .i64))] [.v (Sc.val .l (x0)), .v (.int .i64 ((0 : Int))), .v (.int .i64 ((0 : Int)))] fun y1 =>
  .br (decide (y1.2.2.fst < (↑x1.n : Int))) (
    .el (x1.a) (x1.n) (y1.2.2.fst) fun y2 =>
    .ld false (y2.add (Int.toNat y1.2.2.fst * (1 : Nat))) (.o (.i .i64)) fun y3 =>
    .el (y1.1.a) (y1.1.n) (y1.2.2.fst) fun y4 =>
    .ld false (y4.add (Int.toNat y1.2.2.fst * (1 : Nat))) (.o (.i .i64)) fun y5 =>
    .rq ((1000000000 : Int) ≠ (0 : Int)) <|
    .el (y1.1.a) (y1.1.n) (y1.2.2.fst) fun y6 =>
    .st (y6.add (Int.toNat y1.2.2.fst * (1 : Nat))) [.int .i64 ((Go.IntKind.i64.wrap (y1.2.fst + Go.IntKind.i64.wrap (y5 + y3))).tmod (1000000000 : Int))] <|
    .rq ((1000000000 : Int) ≠ (0 : Int)) <|
    .nx 0 [.v (Sc.val .l (y1.1)), .v (.int .i64 (Go.IntKind.i64.wrap ((Go.IntKind.i64.wrap (y1.2.fst + Go.IntKind.i64.wrap (y5 + y3))).tdiv (1000000000 : Int)))), .v (.int .i64 (Go.IntKind.i64.wrap (y1.2.2.fst + (1 : Int))))]) <|
  .el (y1.1.a) (y1.1.n) ((↑x1.n : Int)) fun y2 =>
  .ld false (y2.add ((↑x1.n : Int).toNat * (1 : Nat))) (.o (.i .i64)) fun y3 =>
  .el (y1.1.a) (y1.1.n) ((↑x1.n : Int)) fun y4 =>
  .st (y4.add ((↑x1.n : Int).toNat * (1 : Nat))) [.int .i64 (Go.IntKind.i64.wrap (y3 + y1.2.fst))] <|
  .ret []
theorem fI_addBack (x0 : SlV) (x1 : SlV) : fits Tryz.prog aI_addBack 225 [Sc.val .l (x0), Sc.val .l (x1)] (tI_addBack x0 x1) :=
  ⟨Tryz.f225, Tryz.f225.body.getD .skip, by kernel_rfl, by kernel_rfl, by kernel_rfl, by kernel_rfl, by kernel_rfl, by kernel_rfl⟩
/-! loop.example/g00793/impl.scaled$1 -/
def aI_scaled_1 : An := ⟨[], [], []⟩
noncomputable def tI_scaled_1 (x0 : Bool × SlV × Int × PUnit) (x1 : Go.Addr) : T :=
  .rg <|
  .ld true (x1) (.o (.i .i64)) fun y1 =>
  .call true 219 [.int .i64 (Go.IntKind.i64.wrap (y1 - x0.2.2.fst))] (.v (.o (.l))) fun y2 =>
  .call true 212 [Sc.val .l (x0.2.1), Sc.val .l (y2)] (.v (.o (.l))) fun y3 =>
  .call true 115 [.bool (x0.fst), Sc.val .l (y3)] (.v (.g [.b, .l])) fun y4 =>
  .ret [Sh1.val (.g [.b, .l]) (y4)]
theorem fI_scaled_1 (x0 : Bool × SlV × Int × PUnit) (x1 : Go.Addr) : fits Tryz.prog aI_scaled_1 226 [Sh1.val (.g [.b, .l, .i .i64]) (x0), .pointer (some x1)] (tI_scaled_1 x0 x1) :=
  ⟨Tryz.f226, Tryz.f226.body.getD .skip, by kernel_rfl, by kernel_rfl, by kernel_rfl, by kernel_rfl, by kernel_rfl, by kernel_rfl⟩
/-! loop.example/g00793/impl.intAdd -/
def aI_intAdd : An := ⟨[], [], []⟩
noncomputable def tI_intAdd (x0 : Bool × SlV × PUnit) (x1 : Bool × SlV × PUnit) : T :=
  .br (x0.fst == x1.fst) (
    .rg <|
    .call true 232 [Sc.val .l (x0.2.1), Sc.val .l (x1.2.1)] (.v (.o (.l))) fun y1 =>
    .call true 115 [.bool (x0.fst), Sc.val .l (y1)] (.v (.g [.b, .l])) fun y2 =>
    .ret [Sh1.val (.g [.b, .l]) (y2)]) <|
  .call false 209 [Sc.val .l (x0.2.1), Sc.val .l (x1.2.1)] (.v (.o (.i .i64))) fun y1 =>
  .br (decide (y1 < (0 : Int))) (
    .rg <|
    .call true 233 [Sc.val .l (x1.2.1), Sc.val .l (x0.2.1)] (.v (.o (.l))) fun y2 =>
    .call true 115 [.bool (x1.fst), Sc.val .l (y2)] (.v (.g [.b, .l])) fun y3 =>
    .ret [Sh1.val (.g [.b, .l]) (y3)]) <|
  .rg <|
  .call true 233 [Sc.val .l (x0.2.1), Sc.val .l (x1.2.1)] (.v (.o (.l))) fun y2 =>
  .call true 115 [.bool (x0.fst), Sc.val .l (y2)] (.v (.g [.b, .l])) fun y3 =>
  .ret [Sh1.val (.g [.b, .l]) (y3)]
theorem fI_intAdd (x0 : Bool × SlV × PUnit) (x1 : Bool × SlV × PUnit) : fits Tryz.prog aI_intAdd 227 [Sh1.val (.g [.b, .l]) (x0), Sh1.val (.g [.b, .l]) (x1)] (tI_intAdd x0 x1) :=
  ⟨Tryz.f227, Tryz.f227.body.getD .skip, by kernel_rfl, by kernel_rfl, by kernel_rfl, by kernel_rfl, by kernel_rfl, by kernel_rfl⟩
/-! loop.example/g00793/impl.natAdd -/
def aI_natAdd : An := ⟨[(4, [.s 5, .s 6, .s 7], [.a 3, .o (.o (.i .i64)), .o (.o (.i .i64))])], [], []⟩
noncomputable def tI_natAdd (x0 : SlV) (x1 : SlV) : T :=
  .rq ((0 : Int) ≤ (0 : Int) ∧ (0 : Int) ≤ Go.IntKind.i64.wrap ((if (↑x1.n : Int) > (↑x0.n : Int) then (↑x1.n : Int) else (↑x0.n : Int)) + (1 : Int)) ∧ (↑(8 : Nat) : Int) * Go.IntKind.i64.wrap ((if (↑x1.n : Int) > (↑x0.n : Int) then (↑x1.n : Int) else (↑x0.n : Int)) + (1 : Int)) ≤ (281474976710656 : Int) ∧ Go.IntKind.i64.wrap ((if (↑x1.n : Int) > (↑x0.n : Int) then (↑x1.n : Int) else (↑x0.n : Int)) + (1 : Int)) ≤ (9223372036854775807 : Int)) <|
  .lp [.a 3, .o (.o (.i .i64)), .o (.o (.i .i64))] [.a 3 (Int.toNat (0 : Int)) [], .v (.int .i64 ((0 : Int))), .v (.int .i64 ((0 : Int)))] fun y1 =>
  .br (decide (y1.2.2.fst < if (↑x1.n : Int) > (↑x0.n : Int) then (↑x1.n : Int) else (↑x0.n : Int))) (
    .br (decide (y1.2.2.fst < (↑x0.n : Int))) (
      .el (x0.a) (x0.n) (y1.2.2.fst) fun y2 =>
      .ld false (y2.add (Int.toNat y1.2.2.fst * (1 : Nat))) (.o (.i .i64)) fun y3 =>
      .br (decide (y1.2.2.fst < (↑x1.n : Int))) (
        .el (x1.a) (x1.n) (y1.2.2.fst) fun y4 =>
        .ld false (y4.add (Int.toNat y1.2.2.fst * (1 : Nat))) (.o (.i .i64)) fun y5 =>
        .rq ((1000000000 : Int) ≠ (0 : Int)) <|
        .rq ([Go.Value.int Go.IntKind.i64 ((Go.IntKind.i64.wrap (Go.IntKind.i64.wrap (y1.2.fst + y3) + y5)).tmod (1000000000 : Int))].length = (1 : Nat) * (1 : Nat)) <|
        .rq (one [Go.Value.int Go.IntKind.i64 ((Go.IntKind.i64.wrap (Go.IntKind.i64.wrap (y1.2.fst + y3) + y5)).tmod (1000000000 : Int))] = true ∧ (y1.1.fst + (1 : Nat)) * (8 : Nat) ≤ (140737488355328 : Nat) ∧ y1.1.fst + (1 : Nat) ≤ (9223372036854775807 : Nat)) <|
        .rq ((1000000000 : Int) ≠ (0 : Int)) <|
        .nx 0 [.a 3 (y1.1.fst + (1 : Nat)) (y1.1.snd ++ [Go.Value.int Go.IntKind.i64 ((Go.IntKind.i64.wrap (Go.IntKind.i64.wrap (y1.2.fst + y3) + y5)).tmod (1000000000 : Int))]), .v (.int .i64 (Go.IntKind.i64.wrap ((Go.IntKind.i64.wrap (Go.IntKind.i64.wrap (y1.2.fst + y3) + y5)).tdiv (1000000000 : Int)))), .v (.int .i64 (Go.IntKind.i64.wrap (y1.2.2.fst + (1 : Int))))]) <|
      .rq ((1000000000 : Int) ≠ (0 : Int)) <|
      .rq ([Go.Value.int Go.IntKind.i64 ((Go.IntKind.i64.wrap (y1.2.fst + y3)).tmod (1000000000 : Int))].length = (1 : Nat) * (1 : Nat)) <|
      .rq (one [Go.Value.int Go.IntKind.i64 ((Go.IntKind.i64.wrap (y1.2.fst + y3)).tmod (1000000000 : Int))] = true ∧ (y1.1.fst + (1 : Nat)) * (8 : Nat) ≤ (140737488355328 : Nat) ∧ y1.1.fst + (1 : Nat) ≤ (9223372036854775807 : Nat)) <|
      .rq ((1000000000 : Int) ≠ (0 : Int)) <|
      .nx 0 [.a 3 (y1.1.fst + (1 : Nat)) (y1.1.snd ++ [Go.Value.int Go.IntKind.i64 ((Go.IntKind.i64.wrap (y1.2.fst + y3)).tmod (1000000000 : Int))]), .v (.int .i64 (Go.IntKind.i64.wrap ((Go.IntKind.i64.wrap (y1.2.fst + y3)).tdiv (1000000000 : Int)))), .v (.int .i64 (Go.IntKind.i64.wrap (y1.2.2.fst + (1 : Int))))]) <|
    .br (decide (y1.2.2.fst < (↑x1.n : Int))) (
      .el (x1.a) (x1.n) (y1.2.2.fst) fun y2 =>
      .ld false (y2.add (Int.toNat y1.2.2.fst * (1 : Nat))) (.o (.i .i64)) fun y3 =>
      .rq ((1000000000 : Int) ≠ (0 : Int)) <|
      .rq ([Go.Value.int Go.IntKind.i64 ((Go.IntKind.i64.wrap (y1.2.fst + y3)).tmod (1000000000 : Int))].length = (1 : Nat) * (1 : Nat)) <|
      .rq (one [Go.Value.int Go.IntKind.i64 ((Go.IntKind.i64.wrap (y1.2.fst + y3)).tmod (1000000000 : Int))] = true ∧ (y1.1.fst + (1 : Nat)) * (8 : Nat) ≤ (140737488355328 : Nat) ∧ y1.1.fst + (1 : Nat) ≤ (9223372036854775807 : Nat)) <|
      .rq ((1000000000 : Int) ≠ (0 : Int)) <|
      .nx 0 [.a 3 (y1.1.fst + (1 : Nat)) (y1.1.snd ++ [Go.Value.int Go.IntKind.i64 ((Go.IntKind.i64.wrap (y1.2.fst + y3)).tmod (1000000000 : Int))]), .v (.int .i64 (Go.IntKind.i64.wrap ((Go.IntKind.i64.wrap (y1.2.fst + y3)).tdiv (1000000000 : Int)))), .v (.int .i64 (Go.IntKind.i64.wrap (y1.2.2.fst + (1 : Int))))]) <|
    .rq ((1000000000 : Int) ≠ (0 : Int)) <|
    .rq ([Go.Value.int Go.IntKind.i64 (Int.tmod y1.2.fst (1000000000 : Int))].length = (1 : Nat) * (1 : Nat)) <|
    .rq (one [Go.Value.int Go.IntKind.i64 (Int.tmod y1.2.fst (1000000000 : Int))] = true ∧ (y1.1.fst + (1 : Nat)) * (8 : Nat) ≤ (140737488355328 : Nat) ∧ y1.1.fst + (1 : Nat) ≤ (9223372036854775807 : Nat)) <|
    .rq ((1000000000 : Int) ≠ (0 : Int)) <|
    .nx 0 [.a 3 (y1.1.fst + (1 : Nat)) (y1.1.snd ++ [Go.Value.int Go.IntKind.i64 (Int.tmod y1.2.fst (1000000000 : Int))]), .v (.int .i64 (Go.IntKind.i64.wrap (Int.tdiv y1.2.fst (1000000000 : Int)))), .v (.int .i64 (Go.IntKind.i64.wrap (y1.2.2.fst + (1 : Int))))]) <|
  .rq ([(Sh1.o (Sc.i Go.IntKind.i64)).val y1.2.fst].length = (1 : Nat) * (1 : Nat)) <|
  .rq (one [(Sh1.o (Sc.i Go.IntKind.i64)).val y1.2.fst] = true ∧ (y1.1.fst + (1 : Nat)) * (8 : Nat) ≤ (140737488355328 : Nat) ∧ y1.1.fst + (1 : Nat) ≤ (9223372036854775807 : Nat)) <|
  .fz (y1.1.fst + (1 : Nat)) (y1.1.snd ++ [(Sh1.o (Sc.i Go.IntKind.i64)).val y1.2.fst]) 3 fun b2 c2 =>
  .call false 214 [.slice (some { block := b2, off := (0 : Nat) : Go.Addr }) (y1.1.fst + (1 : Nat)) (c2)] (.v (.o (.l))) fun y3 =>
  .ret [Sc.val .l (y3)]
theorem fI_natAdd (x0 : SlV) (x1 : SlV) : fits Tryz.prog aI_natAdd 232 [Sc.val .l (x0), Sc.val .l (x1)] (tI_natAdd x0 x1) :=
  ⟨Tryz.f232, Tryz.f232.body.getD .skip, by kernel_rfl, by kernel_rfl, by kernel_rfl, by kernel_rfl, by kernel_rfl, by kernel_rfl⟩
/-! loop.example/g00793/impl.natSub -/
def aI_natSub : An := ⟨[(4, [.s 5, .s 6, .s 14], [.a 3, .o (.o (.i .i64)), .o (.o (.i .i64))])], [], []⟩
noncomputable def tI_natSub (x0 : SlV) (x1 : SlV) : T :=
  .rq ((0 : Int) ≤ (↑x0.n : Int) ∧ (↑x0.n : Int) ≤ (↑x0.n : Int) ∧ (↑(8 : Nat) : Int) * (↑x0.n : Int) ≤ (281474976710656 : Int) ∧ (↑x0.n : Int) ≤ (9223372036854775807 : Int)) <|
  .lp [.a 3, .o (.o (.i .i64)), .o (.o (.i .i64))] [.a 3 ((↑x0.n : Int).toNat) ((Go.madeCells { toList := [Go.Value.int Go.IntKind.i64 (0 : Int)] : Array Go.Value } ((↑x0.n : Int).toNat * (1 : Nat))).toList), .v (.int .i64 ((0 : Int))), .v (.int .i64 ((0 : Int)))] fun y1 =>
  .br (decide (y1.2.2.fst < (↑x0.n : Int))) (
    .el (x0.a) (x0.n) (y1.2.2.fst) fun y2 =>
    .ld false (y2.add (Int.toNat y1.2.2.fst * (1 : Nat))) (.o (.i .i64)) fun y3 =>
    .br (decide (y1.2.2.fst < (↑x1.n : Int))) (
      .el (x1.a) (x1.n) (y1.2.2.fst) fun y4 =>
      .ld false (y4.add (Int.toNat y1.2.2.fst * (1 : Nat))) (.o (.i .i64)) fun y5 =>
      .br (decide (Go.IntKind.i64.wrap (Go.IntKind.i64.wrap (y3 - y1.2.fst) - y5) < (0 : Int))) (
        .rq ((0 : Int) ≤ y1.2.2.fst ∧ y1.2.2.fst < (↑y1.1.fst : Int)) <|
        .rq (Int.toNat y1.2.2.fst * (1 : Nat) + [Go.Value.int Go.IntKind.i64 (Go.IntKind.i64.wrap (Go.IntKind.i64.wrap (Go.IntKind.i64.wrap (y3 - y1.2.fst) - y5) + (1000000000 : Int)))].length ≤ y1.1.snd.length) <|
        .nx 0 [.a 3 (y1.1.fst) (setl y1.1.snd (Int.toNat y1.2.2.fst * (1 : Nat)) [Go.Value.int Go.IntKind.i64 (Go.IntKind.i64.wrap (Go.IntKind.i64.wrap (Go.IntKind.i64.wrap (y3 - y1.2.fst) - y5) + (1000000000 : Int)))]), .v (.int .i64 ((1 : Int))), .v (.int .i64 (Go.IntKind.i64.wrap (y1.2.2.fst + (1 : Int))))]) <|
      .rq ((0 : Int) ≤ y1.2.2.fst ∧ y1.2.2.fst < (↑y1.1.fst : Int)) <|
      .rq (Int.toNat y1.2.2.fst * (1 : Nat) + [Go.Value.int Go.IntKind.i64 (Go.IntKind.i64.wrap (Go.IntKind.i64.wrap (y3 - y1.2.fst) - y5))].length ≤ y1.1.snd.length) <|
      .nx 0 [.a 3 (y1.1.fst) (setl y1.1.snd (Int.toNat y1.2.2.fst * (1 : Nat)) [Go.Value.int Go.IntKind.i64 (Go.IntKind.i64.wrap (Go.IntKind.i64.wrap (y3 - y1.2.fst) - y5))]), .v (.int .i64 ((0 : Int))), .v (.int .i64 (Go.IntKind.i64.wrap (y1.2.2.fst + (1 : Int))))]) <|
    .br (decide (Go.IntKind.i64.wrap (y3 - y1.2.fst) < (0 : Int))) (
      .rq ((0 : Int) ≤ y1.2.2.fst ∧ y1.2.2.fst < (↑y1.1.fst : Int)) <|
      .rq (Int.toNat y1.2.2.fst * (1 : Nat) + [Go.Value.int Go.IntKind.i64 (Go.IntKind.i64.wrap (Go.IntKind.i64.wrap (y3 - y1.2.fst) + (1000000000 : Int)))].length ≤ y1.1.snd.length) <|
      .nx 0 [.a 3 (y1.1.fst) (setl y1.1.snd (Int.toNat y1.2.2.fst * (1 : Nat)) [Go.Value.int Go.IntKind.i64 (Go.IntKind.i64.wrap (Go.IntKind.i64.wrap (y3 - y1.2.fst) + (1000000000 : Int)))]), .v (.int .i64 ((1 : Int))), .v (.int .i64 (Go.IntKind.i64.wrap (y1.2.2.fst + (1 : Int))))]) <|
    .rq ((0 : Int) ≤ y1.2.2.fst ∧ y1.2.2.fst < (↑y1.1.fst : Int)) <|
    .rq (Int.toNat y1.2.2.fst * (1 : Nat) + [Go.Value.int Go.IntKind.i64 (Go.IntKind.i64.wrap (y3 - y1.2.fst))].length ≤ y1.1.snd.length) <|
    .nx 0 [.a 3 (y1.1.fst) (setl y1.1.snd (Int.toNat y1.2.2.fst * (1 : Nat)) [Go.Value.int Go.IntKind.i64 (Go.IntKind.i64.wrap (y3 - y1.2.fst))]), .v (.int .i64 ((0 : Int))), .v (.int .i64 (Go.IntKind.i64.wrap (y1.2.2.fst + (1 : Int))))]) <|
  .fz (y1.1.fst) (y1.1.snd) 3 fun b2 c2 =>
  .call false 214 [.slice (some { block := b2, off := (0 : Nat) : Go.Addr }) (y1.1.fst) (c2)] (.v (.o (.l))) fun y3 =>
  .ret [Sc.val .l (y3)]
theorem fI_natSub (x0 : SlV) (x1 : SlV) : fits Tryz.prog aI_natSub 233 [Sc.val .l (x0), Sc.val .l (x1)] (tI_natSub x0 x1) :=
  ⟨Tryz.f233, Tryz.f233.body.getD .skip, by kernel_rfl, by kernel_rfl, by kernel_rfl, by kernel_rfl, by kernel_rfl, by kernel_rfl⟩
end Go.Proofs.YtpnjdpomoijaaaaGreatDoor
