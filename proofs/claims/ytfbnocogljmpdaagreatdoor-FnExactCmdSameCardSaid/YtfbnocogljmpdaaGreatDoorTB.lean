/-
  What each function of the seat comes to, as a tree; each tree is checked against the code.
-/
import Derived.Test.YtfbnocogljmpdaaGreatDoorTA
namespace Go.Proofs.YtfbnocogljmpdaaGreatDoor
open Sx
set_option maxRecDepth 100000
/-! loop.example/g00793/impl.currencyOf -/
def aI_currencyOf : An := ⟨[(2, [.s 7, .c 2 0, .c 2 1, .c 2 2, .c 2 3], [.o (.o (.i .i64)), .o (.o (.s)), .o (.o (.s)), .o (.o (.i .i64)), .o (.o (.i .i64))])], [], []⟩
noncomputable def tI_currencyOf (x0 : ByteArray) : T :=
  .ld false ({ block := (0 : Nat), off := (0 : Nat) : Go.Addr }) (.g [.s, .s, .i .i64, .i .i64, .s, .s, .i .i64, .i .i64, .s, .s, .i .i64, .i .i64, .s, .s, .i .i64, .i .i64, .s, .s, .i .i64, .i .i64, .s, .s, .i .i64, .i .i64, .s, .s, .i .i64, .i .i64, .s, .s, .i .i64, .i .i64, .s, .s, .i .i64, .i .i64, .s, .s, .i .i64, .i .i64, .s, .s, .i .i64, .i .i64, .s, .s, .i .i64, .i .i64, .s, .s, .i .i64, .i .i64, .s, .s, .i .i64, .i .i64, .s, .s, .i .i64, .i .i64, .s, .s, .i .i64, .i .i64, .s, .s, .i .i64, .i .i64, .s, .s, .i .i64, .i .i64, .s, .s, .i .i64, .i .i64, .s, .s, .i .i64, .i .i64]) fun y1 =>
  .lp [.o (.o (.i .i64)), .o (.o (.s)), .o (.o (.s)), .o (.o (.i .i64)), .o (.o (.i .i64))] [.v (.int .i64 ((0 : Int))), .v (.string ({ data := { toList := [] : Array UInt8 } : ByteArray })), .v (.string ({ data := { toList := [] : Array UInt8 } : ByteArray })), .v (.int .i64 ((0 : Int))), .v (.int .i64 ((0 : Int)))] fun y2 =>
  .br (decide (y2.fst < (20 : Int))) (
    .rq ((0 : Int) ≤ y2.fst ∧ y2.fst < (↑(20 : Nat) : Int)) <|
    .xs [.string (y1.fst), .string (y1.2.fst), .int .i64 (y1.2.2.fst), .int .i64 (y1.2.2.2.fst), .string (y1.2.2.2.2.fst), .string (y1.2.2.2.2.2.fst), .int .i64 (y1.2.2.2.2.2.2.fst), .int .i64 (y1.2.2.2.2.2.2.2.fst), .string (y1.2.2.2.2.2.2.2.2.fst), .string (y1.2.2.2.2.2.2.2.2.2.fst), .int .i64 (y1.2.2.2.2.2.2.2.2.2.2.fst), .int .i64 (y1.2.2.2.2.2.2.2.2.2.2.2.fst), .string (y1.2.2.2.2.2.2.2.2.2.2.2.2.fst), .string (y1.2.2.2.2.2.2.2.2.2.2.2.2.2.fst), .int .i64 (y1.2.2.2.2.2.2.2.2.2.2.2.2.2.2.fst), .int .i64 (y1.2.2.2.2.2.2.2.2.2.2.2.2.2.2.2.fst), .string (y1.2.2.2.2.2.2.2.2.2.2.2.2.2.2.2.2.fst), .string (y1.2.2.2.2.2.2.2.2.2.2.2.2.2.2.2.2.2.fst), .int .i64 (y1.2.2.2.2.2.2.2.2.2.2.2.2.2.2.2.2.2.2.fst), .int .i64 (y1.2.2.2.2.2.2.2.2.2.2.2.2.2.2.2.2.2.2.2.fst), .string (y1.2.2.2.2.2.2.2.2.2.2.2.2.2.2.2.2.2.2.2.2.fst), .string (y1.2.2.2.2.2.2.2.2.2.2.2.2.2.2.2.2.2.2.2.2.2.fst), .int .i64 (y1.2.2.2.2.2.2.2.2.2.2.2.2.2.2.2.2.2.2.2.2.2.2.fst), .int .i64 (y1.2.2.2.2.2.2.2.2.2.2.2.2.2.2.2.2.2.2.2.2.2.2.2.fst), .string (y1.2.2.2.2.2.2.2.2.2.2.2.2.2.2.2.2.2.2.2.2.2.2.2.2.fst), .string (y1.2.2.2.2.2.2.2.2.2.2.2.2.2.2.2.2.2.2.2.2.2.2.2.2.2.fst), .int .i64 (y1.2.2.2.2.2.2.2.2.2.2.2.2.2.2.2.2.2.2.2.2.2.2.2.2.2.2.fst), .int .i64 (y1.2.2.2.2.2.2.2.2.2.2.2.2.2.2.2.2.2.2.2.2.2.2.2.2.2.2.2.fst), .string (y1.2.2.2.2.2.2.2.2.2.2.2.2.2.2.2.2.2.2.2.2.2.2.2.2.2.2.2.2.fst), .string (y1.2.2.2.2.2.2.2.2.2.2.2.2.2.2.2.2.2.2.2.2.2.2.2.2.2.2.2.2.2.fst), .int .i64 (y1.2.2.2.2.2.2.2.2.2.2.2.2.2.2.2.2.2.2.2.2.2.2.2.2.2.2.2.2.2.2.fst), .int .i64 (y1.2.2.2.2.2.2.2.2.2.2.2.2.2.2.2.2.2.2.2.2.2.2.2.2.2.2.2.2.2.2.2.fst), .string (y1.2.2.2.2.2.2.2.2.2.2.2.2.2.2.2.2.2.2.2.2.2.2.2.2.2.2.2.2.2.2.2.2.fst), .string (y1.2.2.2.2.2.2.2.2.2.2.2.2.2.2.2.2.2.2.2.2.2.2.2.2.2.2.2.2.2.2.2.2.2.fst), .int .i64 (y1.2.2.2.2.2.2.2.2.2.2.2.2.2.2.2.2.2.2.2.2.2.2.2.2.2.2.2.2.2.2.2.2.2.2.fst), .int .i64 (y1.2.2.2.2.2.2.2.2.2.2.2.2.2.2.2.2.2.2.2.2.2.2.2.2.2.2.2.2.2.2.2.2.2.2.2.fst), .string (y1.2.2.2.2.2.2.2.2.2.2.2.2.2.2.2.2.2.2.2.2.2.2.2.2.2.2.2.2.2.2.2.2.2.2.2.2.fst), .string (y1.2.2.2.2.2.2.2.2.2.2.2.2.2.2.2.2.2.2.2.2.2.2.2.2.2.2.2.2.2.2.2.2.2.2.2.2.2.fst), .int .i64 (y1.2.2.2.2.2.2.2.2.2.2.2.2.2.2.2.2.2.2.2.2.2.2.2.2.2.2.2.2.2.2.2.2.2.2.2.2.2.2.fst), .int .i64 (y1.2.2.2.2.2.2.2.2.2.2.2.2.2.2.2.2.2.2.2.2.2.2.2.2.2.2.2.2.2.2.2.2.2.2.2.2.2.2.2.fst), .string (y1.2.2.2.2.2.2.2.2.2.2.2.2.2.2.2.2.2.2.2.2.2.2.2.2.2.2.2.2.2.2.2.2.2.2.2.2.2.2.2.2.fst), .string (y1.2.2.2.2.2.2.2.2.2.2.2.2.2.2.2.2.2.2.2.2.2.2.2.2.2.2.2.2.2.2.2.2.2.2.2.2.2.2.2.2.2.fst), .int .i64 (y1.2.2.2.2.2.2.2.2.2.2.2.2.2.2.2.2.2.2.2.2.2.2.2.2.2.2.2.2.2.2.2.2.2.2.2.2.2.2.2.2.2.2.fst), .int .i64 (y1.2.2.2.2.2.2.2.2.2.2.2.2.2.2.2.2.2.2.2.2.2.2.2.2.2.2.2.2.2.2.2.2.2.2.2.2.2.2.2.2.2.2.2.fst), .string (y1.2.2.2.2.2.2.2.2.2.2.2.2.2.2.2.2.2.2.2.2.2.2.2.2.2.2.2.2.2.2.2.2.2.2.2.2.2.2.2.2.2.2.2.2.fst), .string (y1.2.2.2.2.2.2.2.2.2.2.2.2.2.2.2.2.2.2.2.2.2.2.2.2.2.2.2.2.2.2.2.2.2.2.2.2.2.2.2.2.2.2.2.2.2.fst), .int .i64 (y1.2.2.2.2.2.2.2.2.2.2.2.2.2.2.2.2.2.2.2.2.2.2.2.2.2.2.2.2.2.2.2.2.2.2.2.2.2.2.2.2.2.2.2.2.2.2.fst), .int .i64 (y1.2.2.2.2.2.2.2.2.2.2.2.2.2.2.2.2.2.2.2.2.2.2.2.2.2.2.2.2.2.2.2.2.2.2.2.2.2.2.2.2.2.2.2.2.2.2.2.fst), .string (y1.2.2.2.2.2.2.2.2.2.2.2.2.2.2.2.2.2.2.2.2.2.2.2.2.2.2.2.2.2.2.2.2.2.2.2.2.2.2.2.2.2.2.2.2.2.2.2.2.fst), .string (y1.2.2.2.2.2.2.2.2.2.2.2.2.2.2.2.2.2.2.2.2.2.2.2.2.2.2.2.2.2.2.2.2.2.2.2.2.2.2.2.2.2.2.2.2.2.2.2.2.2.fst), .int .i64 (y1.2.2.2.2.2.2.2.2.2.2.2.2.2.2.2.2.2.2.2.2.2.2.2.2.2.2.2.2.2.2.2.2.2.2.2.2.2.2.2.2.2.2.2.2.2.2.2.2.2.2.fst), .int .i64 (y1.2.2.2.2.2.2.2.2.2.2.2.2.2.2.2.2.2.2.2.2.2.2.2.2.2.2.2.2.2.2.2.2.2.2.2.2.2.2.2.2.2.2.2.2.2.2.2.2.2.2.2.fst), .string (y1.2.2.2.2.2.2.2.2.2.2.2.2.2.2.2.2.2.2.2.2.2.2.2.2.2.2.2.2.2.2.2.2.2.2.2.2.2.2.2.2.2.2.2.2.2.2.2.2.2.2.2.2.fst), .string (y1.2.2.2.2.2.2.2.2.2.2.2.2.2.2.2.2.2.2.2.2.2.2.2.2.2.2.2.2.2.2.2.2.2.2.2.2.2.2.2.2.2.2.2.2.2.2.2.2.2.2.2.2.2.fst), .int .i64 (y1.2.2.2.2.2.2.2.2.2.2.2.2.2.2.2.2.2.2.2.2.2.2.2.2.2.2.2.2.2.2.2.2.2.2.2.2.2.2.2.2.2.2.2.2.2.2.2.2.2.2.2.2.2.2.fst), .int .i64 (y1.2.2.2.2.2.2.2.2.2.2.2.2.2.2.2.2.2.2.2.2.2.2.2.2.2.2.2.2.2.2.2.2.2.2.2.2.2.2.2.2.2.2.2.2.2.2.2.2.2.2.2.2.2.2.2.fst), .string (y1.2.2.2.2.2.2.2.2.2.2.2.2.2.2.2.2.2.2.2.2.2.2.2.2.2.2.2.2.2.2.2.2.2.2.2.2.2.2.2.2.2.2.2.2.2.2.2.2.2.2.2.2.2.2.2.2.fst), .string (y1.2.2.2.2.2.2.2.2.2.2.2.2.2.2.2.2.2.2.2.2.2.2.2.2.2.2.2.2.2.2.2.2.2.2.2.2.2.2.2.2.2.2.2.2.2.2.2.2.2.2.2.2.2.2.2.2.2.fst), .int .i64 (y1.2.2.2.2.2.2.2.2.2.2.2.2.2.2.2.2.2.2.2.2.2.2.2.2.2.2.2.2.2.2.2.2.2.2.2.2.2.2.2.2.2.2.2.2.2.2.2.2.2.2.2.2.2.2.2.2.2.2.fst), .int .i64 (y1.2.2.2.2.2.2.2.2.2.2.2.2.2.2.2.2.2.2.2.2.2.2.2.2.2.2.2.2.2.2.2.2.2.2.2.2.2.2.2.2.2.2.2.2.2.2.2.2.2.2.2.2.2.2.2.2.2.2.2.fst), .string (y1.2.2.2.2.2.2.2.2.2.2.2.2.2.2.2.2.2.2.2.2.2.2.2.2.2.2.2.2.2.2.2.2.2.2.2.2.2.2.2.2.2.2.2.2.2.2.2.2.2.2.2.2.2.2.2.2.2.2.2.2.fst), .string (y1.2.2.2.2.2.2.2.2.2.2.2.2.2.2.2.2.2.2.2.2.2.2.2.2.2.2.2.2.2.2.2.2.2.2.2.2.2.2.2.2.2.2.2.2.2.2.2.2.2.2.2.2.2.2.2.2.2.2.2.2.2.fst), .int .i64 (y1.2.2.2.2.2.2.2.2.2.2.2.2.2.2.2.2.2.2.2.2.2.2.2.2.2.2.2.2.2.2.2.2.2.2.2.2.2.2.2.2.2.2.2.2.2.2.2.2.2.2.2.2.2.2.2.2.2.2.2.2.2.2.fst), .int .i64 (y1.2.2.2.2.2.2.2.2.2.2.2.2.2.2.2.2.2.2.2.2.2.2.2.2.2.2.2.2.2.2.2.2.2.2.2.2.2.2.2.2.2.2.2.2.2.2.2.2.2.2.2.2.2.2.2.2.2.2.2.2.2.2.2.fst), .string (y1.2.2.2.2.2.2.2.2.2.2.2.2.2.2.2.2.2.2.2.2.2.2.2.2.2.2.2.2.2.2.2.2.2.2.2.2.2.2.2.2.2.2.2.2.2.2.2.2.2.2.2.2.2.2.2.2.2.2.2.2.2.2.2.2.fst), .string (y1.2.2.2.2.2.2.2.2.2.2.2.2.2.2.2.2.2.2.2.2.2.2.2.2.2.2.2.2.2.2.2.2.2.2.2.2.2.2.2.2.2.2.2.2.2.2.2.2.2.2.2.2.2.2.2.2.2.2.2.2.2.2.2.2.2.fst), .int .i64 (y1.2.2.2.2.2.2.2.2.2.2.2.2.2.2.2.2.2.2.2.2.2.2.2.2.2.2.2.2.2.2.2.2.2.2.2.2.2.2.2.2.2.2.2.2.2.2.2.2.2.2.2.2.2.2.2.2.2.2.2.2.2.2.2.2.2.2.fst), .int .i64 (y1.2.2.2.2.2.2.2.2.2.2.2.2.2.2.2.2.2.2.2.2.2.2.2.2.2.2.2.2.2.2.2.2.2.2.2.2.2.2.2.2.2.2.2.2.2.2.2.2.2.2.2.2.2.2.2.2.2.2.2.2.2.2.2.2.2.2.2.fst), .string (y1.2.2.2.2.2.2.2.2.2.2.2.2.2.2.2.2.2.2.2.2.2.2.2.2.2.2.2.2.2.2.2.2.2.2.2.2.2.2.2.2.2.2.2.2.2.2.2.2.2.2.2.2.2.2.2.2.2.2.2.2.2.2.2.2.2.2.2.2.fst), .string (y1.2.2.2.2.2.2.2.2.2.2.2.2.2.2.2.2.2.2.2.2.2.2.2.2.2.2.2.2.2.2.2.2.2.2.2.2.2.2.2.2.2.2.2.2.2.2.2.2.2.2.2.2.2.2.2.2.2.2.2.2.2.2.2.2.2.2.2.2.2.fst), .int .i64 (y1.2.2.2.2.2.2.2.2.2.2.2.2.2.2.2.2.2.2.2.2.2.2.2.2.2.2.2.2.2.2.2.2.2.2.2.2.2.2.2.2.2.2.2.2.2.2.2.2.2.2.2.2.2.2.2.2.2.2.2.2.2.2.2.2.2.2.2.2.2.2.fst), .int .i64 (y1.2.2.2.2.2.2.2.2.2.2.2.2.2.2.2.2.2.2.2.2.2.2.2.2.2.2.2.2.2.2.2.2.2.2.2.2.2.2.2.2.2.2.2.2.2.2.2.2.2.2.2.2.2.2.2.2.2.2.2.2.2.2.2.2.2.2.2.2.2.2.2.fst), .string (y1.2.2.2.2.2.2.2.2.2.2.2.2.2.2.2.2.2.2.2.2.2.2.2.2.2.2.2.2.2.2.2.2.2.2.2.2.2.2.2.2.2.2.2.2.2.2.2.2.2.2.2.2.2.2.2.2.2.2.2.2.2.2.2.2.2.2.2.2.2.2.2.2.fst), .string (y1.2.2.2.2.2.2.2.2.2.2.2.2.2.2.2.2.2.2.2.2.2.2.2.2.2.2.2.2.2.2.2.2.2.2.2.2.2.2.2.2.2.2.2.2.2.2.2.2.2.2.2.2.2.2.2.2.2.2.2.2.2.2.2.2.2.2.2.2.2.2.2.2.2.fst), .int .i64 (y1.2.2.2.2.2.2.2.2.2.2.2.2.2.2.2.2.2.2.2.2.2.2.2.2.2.2.2.2.2.2.2.2.2.2.2.2.2.2.2.2.2.2.2.2.2.2.2.2.2.2.2.2.2.2.2.2.2.2.2.2.2.2.2.2.2.2.2.2.2.2.2.2.2.2.fst), .int .i64 (y1.2.2.2.2.2.2.2.2.2.2.2.2.2.2.2.2.2.2.2.2.2.2.2.2.2.2.2.2.2.2.2.2.2.2.2.2.2.2.2.2.2.2.2.2.2.2.2.2.2.2.2.2.2.2.2.2.2.2.2.2.2.2.2.2.2.2.2.2.2.2.2.2.2.2.2.fst), .string (y1.2.2.2.2.2.2.2.2.2.2.2.2.2.2.2.2.2.2.2.2.2.2.2.2.2.2.2.2.2.2.2.2.2.2.2.2.2.2.2.2.2.2.2.2.2.2.2.2.2.2.2.2.2.2.2.2.2.2.2.2.2.2.2.2.2.2.2.2.2.2.2.2.2.2.2.2.fst), .string (y1.2.2.2.2.2.2.2.2.2.2.2.2.2.2.2.2.2.2.2.2.2.2.2.2.2.2.2.2.2.2.2.2.2.2.2.2.2.2.2.2.2.2.2.2.2.2.2.2.2.2.2.2.2.2.2.2.2.2.2.2.2.2.2.2.2.2.2.2.2.2.2.2.2.2.2.2.2.fst), .int .i64 (y1.2.2.2.2.2.2.2.2.2.2.2.2.2.2.2.2.2.2.2.2.2.2.2.2.2.2.2.2.2.2.2.2.2.2.2.2.2.2.2.2.2.2.2.2.2.2.2.2.2.2.2.2.2.2.2.2.2.2.2.2.2.2.2.2.2.2.2.2.2.2.2.2.2.2.2.2.2.2.fst), .int .i64 (y1.2.2.2.2.2.2.2.2.2.2.2.2.2.2.2.2.2.2.2.2.2.2.2.2.2.2.2.2.2.2.2.2.2.2.2.2.2.2.2.2.2.2.2.2.2.2.2.2.2.2.2.2.2.2.2.2.2.2.2.2.2.2.2.2.2.2.2.2.2.2.2.2.2.2.2.2.2.2.2.fst)] (Int.toNat y2.fst * (4 : Nat)) (.g [.s, .s, .i .i64, .i .i64]) fun y3 =>
    .br (ByteArray.toList y3.fst == x0.toList) (
      .ret [Sh1.val (.g [.s, .s, .i .i64, .i .i64]) (y3), .bool (true)]) <|
    .nx 0 [.v (.int .i64 (Go.IntKind.i64.wrap (y2.fst + (1 : Int)))), .v (.string (y2.2.fst)), .v (.string (y2.2.2.fst)), .v (.int .i64 (y2.2.2.2.fst)), .v (.int .i64 (y2.2.2.2.2.fst))]) <|
  .ret [Sh1.val (.g [.s, .s, .i .i64, .i .i64]) (({ data := { toList := [] : Array UInt8 } : ByteArray }), ({ data := { toList := [] : Array UInt8 } : ByteArray }), (((0 : Int)) : Int), (((0 : Int)) : Int), ()), .bool (false)]
theorem fI_currencyOf (x0 : ByteArray) : fits Tryz.prog aI_currencyOf 142 [.string (x0)] (tI_currencyOf x0) :=
  ⟨Tryz.f142, Tryz.f142.body.getD .skip, by kernel_rfl, by kernel_rfl, by kernel_rfl, by kernel_rfl, by kernel_rfl, by kernel_rfl⟩
/-! loop.example/g00793/impl.Pad -/
def aI_Pad : An := ⟨[], [], []⟩
noncomputable def tI_Pad (x0 : ByteArray) (x1 : Int) : T :=
  .br (decide ((↑x0.size : Int) ≥ x1)) (
    .ret [.string (x0)]) <|
  .br (decide (x1 > (2000 : Int))) (
    .ret [.string (x0)]) <|
  .call false 169 [.string ({ data := { toList := [(48 : UInt8)] : Array UInt8 } : ByteArray }), .int .i64 (Go.IntKind.i64.wrap (x1 - (↑x0.size : Int)))] (.v (.o (.s))) fun y1 =>
  .rq (y1.size + x0.size ≤ (9223372036854775807 : Nat)) <|
  .ret [.string (y1 ++ x0)]
theorem fI_Pad (x0 : ByteArray) (x1 : Int) : fits Tryz.prog aI_Pad 143 [.string (x0), .int .i64 (x1)] (tI_Pad x0 x1) :=
  ⟨Tryz.f143, Tryz.f143.body.getD .skip, by kernel_rfl, by kernel_rfl, by kernel_rfl, by kernel_rfl, by kernel_rfl, by kernel_rfl⟩
/-! loop.example/g00793/impl.natText -/
def aI_natText : An := ⟨[(5, [.s 3, .s 4], [.o (.o (.s)), .o (.o (.i .i64))])], [], []⟩
noncomputable def tI_natText (x0 : SlV) : T :=
  .br ((↑x0.n : Int) == (0 : Int)) (
    .ret [.string ({ data := { toList := [(48 : UInt8)] : Array UInt8 } : ByteArray })]) <|
  .el (x0.a) (x0.n) (Go.IntKind.i64.wrap ((↑x0.n : Int) - (1 : Int))) fun y1 =>
  .ld false (y1.add ((Go.IntKind.i64.wrap ((↑x0.n : Int) - (1 : Int))).toNat * (1 : Nat))) (.o (.i .i64)) fun y2 =>
  .call false 119 [.int .i64 (y2)] (.v (.o (.s))) fun y3 =>
  .lp [.o (.o (.s)), .o (.o (.i .i64))] [.v (.string (y3)), .v (.int .i64 (Go.IntKind.i64.wrap ((↑x0.n : Int) - (2 : Int))))] fun y4 =>
  .br (decide (y4.2.fst ≥ (0 : Int))) (
    .el (x0.a) (x0.n) (y4.2.fst) fun y5 =>
    .ld false (y5.add (Int.toNat y4.2.fst * (1 : Nat))) (.o (.i .i64)) fun y6 =>
    .call false 119 [.int .i64 (y6)] (.v (.o (.s))) fun y7 =>
    .call false 143 [.string (y7), .int .i64 ((9 : Int))] (.v (.o (.s))) fun y8 =>
    .rq (ByteArray.size y4.fst + y8.size ≤ (9223372036854775807 : Nat)) <|
    .nx 0 [.v (.string (y4.fst ++ y8)), .v (.int .i64 (Go.IntKind.i64.wrap (y4.2.fst - (1 : Int))))]) <|
  .ret [.string (y4.fst)]
theorem fI_natText (x0 : SlV) : fits Tryz.prog aI_natText 144 [Sc.val .l (x0)] (tI_natText x0) :=
  ⟨Tryz.f144, Tryz.f144.body.getD .skip, by kernel_rfl, by kernel_rfl, by kernel_rfl, by kernel_rfl, by kernel_rfl, by kernel_rfl⟩
/-! loop.example/g00793/impl.intMul -/
def aI_intMul : An := ⟨[], [], []⟩
noncomputable def tI_intMul (x0 : Bool × SlV × PUnit) (x1 : Bool × SlV × PUnit) : T :=
  .rg <|
  .call true 160 [Sc.val .l (x0.2.1), Sc.val .l (x1.2.1)] (.v (.o (.l))) fun y1 =>
  .call true 141 [.bool (!x0.fst == x1.fst), Sc.val .l (y1)] (.v (.g [.b, .l])) fun y2 =>
  .ret [Sh1.val (.g [.b, .l]) (y2)]
theorem fI_intMul (x0 : Bool × SlV × PUnit) (x1 : Bool × SlV × PUnit) : fits Tryz.prog aI_intMul 146 [Sh1.val (.g [.b, .l]) (x0), Sh1.val (.g [.b, .l]) (x1)] (tI_intMul x0 x1) :=
  ⟨Tryz.f146, Tryz.f146.body.getD .skip, by kernel_rfl, by kernel_rfl, by kernel_rfl, by kernel_rfl, by kernel_rfl, by kernel_rfl⟩
/-! loop.example/g00793/spec.l02Trim -/
def aS_l02Trim : An := ⟨[(2, [.s 3], [.o (.o (.i .i64))])], [], []⟩
noncomputable def tS_l02Trim (x0 : SlV) : T :=
  .lp [.o (.o (.i .i64))] [.v (.int .i64 ((↑x0.n : Int)))] fun y1 =>
  .br (decide (y1.fst > (0 : Int))) (
    .el (x0.a) (x0.n) (Go.IntKind.i64.wrap (y1.fst - (1 : Int))) fun y2 =>
    .ld false (y2.add ((Go.IntKind.i64.wrap (y1.fst - (1 : Int))).toNat * (1 : Nat))) (.o (.i .i64)) fun y3 =>
    .br (y3 == (0 : Int)) (
      .nx 0 [.v (.int .i64 (Go.IntKind.i64.wrap (y1.fst - (1 : Int))))]) <|
    .rq ((0 : Int) ≤ (0 : Int) ∧ (0 : Int) ≤ y1.fst ∧ y1.fst ≤ (↑x0.c : Int) ∧ (↑x0.c : Int) ≤ (↑x0.c : Int)) <|
    .ret [.slice (if (↑x0.c : Int).toNat = Int.toNat (0 : Int) then x0.a else Option.map (fun x => x.add (Int.toNat (0 : Int) * Go.Proofs.Tryz.prog.types[(3 : Nat)].size)) x0.a) (Int.toNat y1.fst - Int.toNat (0 : Int)) ((↑x0.c : Int).toNat - Int.toNat (0 : Int))]) <|
  .rq ((0 : Int) ≤ (0 : Int) ∧ (0 : Int) ≤ y1.fst ∧ y1.fst ≤ (↑x0.c : Int) ∧ (↑x0.c : Int) ≤ (↑x0.c : Int)) <|
  .ret [.slice (if (↑x0.c : Int).toNat = Int.toNat (0 : Int) then x0.a else Option.map (fun x => x.add (Int.toNat (0 : Int) * Go.Proofs.Tryz.prog.types[(3 : Nat)].size)) x0.a) (Int.toNat y1.fst - Int.toNat (0 : Int)) ((↑x0.c : Int).toNat - Int.toNat (0 : Int))]
theorem fS_l02Trim (x0 : SlV) : fits Tryz.prog aS_l02Trim 156 [Sc.val .l (x0)] (tS_l02Trim x0) :=
  ⟨Tryz.f156, Tryz.f156.body.getD .skip, by kernel_rfl, by kernel_rfl, by kernel_rfl, by kernel_rfl, by kernel_rfl, by kernel_rfl⟩
/-! loop.example/g00793/spec.l03Div -/
def aS_l03Div : An := ⟨[(7, [.s 8, .s 9, .s 10], [.a 3, .o (.o (.l)), .o (.o (.i .i64))])], [], []⟩
noncomputable def tS_l03Div (x0 : SlV) (x1 : SlV) : T :=
  .br ((↑x1.n : Int) == (1 : Int)) (
    .el (x1.a) (x1.n) ((0 : Int)) fun y1 =>
    .ld false (y1.add (Int.toNat (0 : Int) * (1 : Nat))) (.o (.i .i64)) fun y2 =>
    .call false 173 [Sc.val .l (x0), .int .i64 (y2)] (.t [(.o (.l)), (.o (.i .i64))]) fun y3 =>
    .call false 97 [.int .i64 (y3.2.fst)] (.v (.o (.l))) fun y4 =>
    .ret [Sc.val .l (y3.1), Sc.val .l (y4)]) <|
  .rq ((0 : Int) ≤ (↑x0.n : Int) ∧ (↑x0.n : Int) ≤ (↑x0.n : Int) ∧ (↑(8 : Nat) : Int) * (↑x0.n : Int) ≤ (281474976710656 : Int) ∧ (↑x0.n : Int) ≤ (9223372036854775807 : Int)) <|
  .fz ((0 : Nat)) [] 3 fun b1 c1 =>
  .lp [.a 3, .o (.o (.l)), .o (.o (.i .i64))] [.a 3 ((↑x0.n : Int).toNat) ((Go.madeCells { toList := [Go.Value.int Go.IntKind.i64 (0 : Int)] : Array Go.Value } ((↑x0.n : Int).toNat * (1 : Nat))).toList), .v (.slice (some { block := b1, off := (0 : Nat) : Go.Addr }) ((0 : Nat)) (c1)), .v (.int .i64 (Go.IntKind.i64.wrap ((↑x0.n : Int) - (1 : Int))))] fun y2 =>
  .br (decide (y2.2.2.fst ≥ (0 : Int))) (
    .el (x0.a) (x0.n) (y2.2.2.fst) fun y3 =>
    .ld false (y3.add (Int.toNat y2.2.2.fst * (1 : Nat))) (.o (.i .i64)) fun y4 =>
    .rd ({ a := y2.2.1.a, n := y2.2.1.n, c := y2.2.1.c : SlV }) ((1 : Nat)) fun y5 =>
    .rq (one y5 = true ∧ ((1 : Nat) + y2.2.1.n) * (8 : Nat) ≤ (140737488355328 : Nat) ∧ (1 : Nat) + y2.2.1.n ≤ (9223372036854775807 : Nat)) <|
    .fz ((1 : Nat) + y2.2.1.n) ([(Sh1.o (Sc.i Go.IntKind.i64)).val y4] ++ y5) 3 fun b6 c6 =>
    .call false 156 [.slice (some { block := b6, off := (0 : Nat) : Go.Addr }) ((1 : Nat) + y2.2.1.n) (c6)] (.v (.o (.l))) fun y7 =>
    .call false 125 [Sc.val .l (y7), Sc.val .l (x1)] (.v (.o (.i .i64))) fun y8 =>
    .br (decide (y8 < (0 : Int))) (
      .nx 0 [.a 3 (y2.1.fst) (y2.1.snd), .v (Sc.val .l (y7)), .v (.int .i64 (Go.IntKind.i64.wrap (y2.2.2.fst - (1 : Int))))]) <|
    .call false 174 [Sc.val .l (y7), Sc.val .l (x1)] (.v (.o (.i .i64))) fun y9 =>
    .rq ((0 : Int) ≤ y2.2.2.fst ∧ y2.2.2.fst < (↑y2.1.fst : Int)) <|
    .rq (Int.toNat y2.2.2.fst * (1 : Nat) + [(Sh1.o (Sc.i Go.IntKind.i64)).val y9].length ≤ y2.1.snd.length) <|
    .call false 97 [.int .i64 (y9)] (.v (.o (.l))) fun y10 =>
    .call false 127 [Sc.val .l (x1), Sc.val .l (y10)] (.v (.o (.l))) fun y11 =>
    .call false 175 [Sc.val .l (y7), Sc.val .l (y11)] (.v (.o (.l))) fun y12 =>
    .nx 0 [.a 3 (y2.1.fst) (setl y2.1.snd (Int.toNat y2.2.2.fst * (1 : Nat)) [(Sh1.o (Sc.i Go.IntKind.i64)).val y9]), .v (Sc.val .l (y12)), .v (.int .i64 (Go.IntKind.i64.wrap (y2.2.2.fst - (1 : Int))))]) <|
  .fz (y2.1.fst) (y2.1.snd) 3 fun b3 c3 =>
  .call false 156 [.slice (some { block := b3, off := (0 : Nat) : Go.Addr }) (y2.1.fst) (c3)] (.v (.o (.l))) fun y4 =>
  .ret [Sc.val .l (y4), Sc.val .l (y2.2.1)]
theorem fS_l03Div (x0 : SlV) (x1 : SlV) : fits Tryz.prog aS_l03Div 157 [Sc.val .l (x0), Sc.val .l (x1)] (tS_l03Div x0 x1) :=
  ⟨Tryz.f157, Tryz.f157.body.getD .skip, by kernel_rfl, by kernel_rfl, by kernel_rfl, by kernel_rfl, by kernel_rfl, by kernel_rfl⟩
/-! loop.example/g00793/impl.NatOk -/
def aI_NatOk : An := ⟨[(4, [.s 24], [.o (.o (.i .i64))])], [], []⟩
noncomputable def tI_NatOk (x0 : SlV) : T :=
  .br (decide ((↑x0.n : Int) > (50 : Int))) (
    .ret [.bool (false)]) <|
  .br (decide ((↑x0.n : Int) > (0 : Int))) (
    .el (x0.a) (x0.n) (Go.IntKind.i64.wrap ((↑x0.n : Int) - (1 : Int))) fun y1 =>
    .ld false (y1.add ((Go.IntKind.i64.wrap ((↑x0.n : Int) - (1 : Int))).toNat * (1 : Nat))) (.o (.i .i64)) fun y2 =>
    .br (y2 == (0 : Int)) (
      .ret [.bool (false)]) <|
    .lp [.o (.o (.i .i64))] [.v (.int .i64 ((0 : Int)))] fun y3 =>
    .br (decide (y3.fst < (↑x0.n : Int))) (
      .el (x0.a) (x0.n) (y3.fst) fun y4 =>
      .ld false (y4.add (Int.toNat y3.fst * (1 : Nat))) (.o (.i .i64)) fun y5 =>
      .br (decide (y5 < (0 : Int))) (
        .ret [.bool (false)]) <|
      .br (decide (y5 ≥ (1000000000 : Int))) (
        .ret [.bool (false)]) <|
      .nx 0 [.v (.int .i64 (Go.IntKind.i64.wrap (y3.fst + (1 : Int))))]) <|
    .ret [.bool (true)]) <|
  .lp [.o (.o (.i .i64))] [.v (.int .i64 ((0 : Int)))] fun y1 =>
  .br (decide (y1.fst < (↑x0.n : Int))) (
    .el (x0.a) (x0.n) (y1.fst) fun y2 =>
    .ld false (y2.add (Int.toNat y1.fst * (1 : Nat))) (.o (.i .i64)) fun y3 =>
    .br (decide (y3 < (0 : Int))) (
      .ret [.bool (false)]) <|
    .br (decide (y3 ≥ (1000000000 : Int))) (
      .ret [.bool (false)]) <|
    .nx 0 [.v (.int .i64 (Go.IntKind.i64.wrap (y1.fst + (1 : Int))))]) <|
  .ret [.bool (true)]
theorem fI_NatOk (x0 : SlV) : fits Tryz.prog aI_NatOk 158 [Sc.val .l (x0)] (tI_NatOk x0) :=
  ⟨Tryz.f158, Tryz.f158.body.getD .skip, by kernel_rfl, by kernel_rfl, by kernel_rfl, by kernel_rfl, by kernel_rfl, by kernel_rfl⟩
/-! loop.example/g00793/impl.scaled$1 -/
def aI_scaled_1 : An := ⟨[], [], []⟩
noncomputable def tI_scaled_1 (x0 : Bool × SlV × Int × PUnit) (x1 : Go.Addr) : T :=
  .rg <|
  .ld true (x1) (.o (.i .i64)) fun y1 =>
  .call true 140 [.int .i64 (Go.IntKind.i64.wrap (y1 - x0.2.2.fst))] (.v (.o (.l))) fun y2 =>
  .call true 160 [Sc.val .l (x0.2.1), Sc.val .l (y2)] (.v (.o (.l))) fun y3 =>
  .call true 141 [.bool (x0.fst), Sc.val .l (y3)] (.v (.g [.b, .l])) fun y4 =>
  .ret [Sh1.val (.g [.b, .l]) (y4)]
theorem fI_scaled_1 (x0 : Bool × SlV × Int × PUnit) (x1 : Go.Addr) : fits Tryz.prog aI_scaled_1 159 [Sh1.val (.g [.b, .l, .i .i64]) (x0), .pointer (some x1)] (tI_scaled_1 x0 x1) :=
  ⟨Tryz.f159, Tryz.f159.body.getD .skip, by kernel_rfl, by kernel_rfl, by kernel_rfl, by kernel_rfl, by kernel_rfl, by kernel_rfl⟩
/-! loop.example/g00793/impl.natMul -/
def aI_natMul : An := ⟨[(3, [.s 5, .s 21], [.a 3, .o (.o (.i .i64))]), (7, [.s 5, .s 8, .s 28], [.a 3, .o (.o (.i .i64)), .o (.o (.i .i64))]), (14, [.s 5, .s 8, .s 11], [.a 3, .o (.o (.i .i64)), .o (.o (.i .i64))])], [], []⟩
noncomputable def tI_natMul (x0 : SlV) (x1 : SlV) : T :=
  .rq ((0 : Int) ≤ Go.IntKind.i64.wrap (Go.IntKind.i64.wrap ((↑x0.n : Int) + (↑x1.n : Int)) + (1 : Int)) ∧ Go.IntKind.i64.wrap (Go.IntKind.i64.wrap ((↑x0.n : Int) + (↑x1.n : Int)) + (1 : Int)) ≤ Go.IntKind.i64.wrap (Go.IntKind.i64.wrap ((↑x0.n : Int) + (↑x1.n : Int)) + (1 : Int)) ∧ (↑(8 : Nat) : Int) * Go.IntKind.i64.wrap (Go.IntKind.i64.wrap ((↑x0.n : Int) + (↑x1.n : Int)) + (1 : Int)) ≤ (281474976710656 : Int) ∧ Go.IntKind.i64.wrap (Go.IntKind.i64.wrap ((↑x0.n : Int) + (↑x1.n : Int)) + (1 : Int)) ≤ (9223372036854775807 : Int)) <|
  .lp [.a 3, .o (.o (.i .i64))] [.a 3 ((Go.IntKind.i64.wrap (Go.IntKind.i64.wrap ((↑x0.n : Int) + (↑x1.n : Int)) + (1 : Int))).toNat) ((Go.madeCells { toList := [Go.Value.int Go.IntKind.i64 (0 : Int)] : Array Go.Value } ((Go.IntKind.i64.wrap (Go.IntKind.i64.wrap ((↑x0.n : Int) + (↑x1.n : Int)) + (1 : Int))).toNat * (1 : Nat))).toList), .v (.int .i64 ((0 : Int)))] fun y1 =>
  .br (decide (y1.2.fst < (↑x0.n : Int))) (
    .el (x0.a) (x0.n) (y1.2.fst) fun y2 =>
    .ld false (y2.add (Int.toNat y1.2.fst * (1 : Nat))) (.o (.i .i64)) fun y3 =>
    .lp [.a 3, .o (.o (.i .i64)), .o (.o (.i .i64))] [.a 3 (y1.1.fst) (y1.1.snd), .v (.int .i64 ((0 : Int))), .v (.int .i64 ((0 : Int)))] fun y4 =>
    .br (decide (y4.2.2.fst < (↑x1.n : Int))) (
      .el (x1.a) (x1.n) (y4.2.2.fst) fun y5 =>
      .ld false (y5.add (Int.toNat y4.2.2.fst * (1 : Nat))) (.o (.i .i64)) fun y6 =>
      .rq ((0 : Int) ≤ Go.IntKind.i64.wrap (y1.2.fst + y4.2.2.fst) ∧ Go.IntKind.i64.wrap (y1.2.fst + y4.2.2.fst) < (↑y4.1.fst : Int)) <|
      .xs (y4.1.snd) ((Go.IntKind.i64.wrap (y1.2.fst + y4.2.2.fst)).toNat * (1 : Nat)) (.o (.i .i64)) fun y7 =>
      .rq ((1000000000 : Int) ≠ (0 : Int)) <|
      .rq ((0 : Int) ≤ Go.IntKind.i64.wrap (y1.2.fst + y4.2.2.fst) ∧ Go.IntKind.i64.wrap (y1.2.fst + y4.2.2.fst) < (↑y4.1.fst : Int)) <|
      .rq ((Go.IntKind.i64.wrap (y1.2.fst + y4.2.2.fst)).toNat * (1 : Nat) + [Go.Value.int Go.IntKind.i64 ((Go.IntKind.i64.wrap (y4.2.fst + Go.IntKind.i64.wrap (y7 + Go.IntKind.i64.wrap (y3 * y6)))).tmod (1000000000 : Int))].length ≤ y4.1.snd.length) <|
      .rq ((1000000000 : Int) ≠ (0 : Int)) <|
      .nx 1 [.a 3 (y4.1.fst) (setl y4.1.snd ((Go.IntKind.i64.wrap (y1.2.fst + y4.2.2.fst)).toNat * (1 : Nat)) [Go.Value.int Go.IntKind.i64 ((Go.IntKind.i64.wrap (y4.2.fst + Go.IntKind.i64.wrap (y7 + Go.IntKind.i64.wrap (y3 * y6)))).tmod (1000000000 : Int))]), .v (.int .i64 (Go.IntKind.i64.wrap ((Go.IntKind.i64.wrap (y4.2.fst + Go.IntKind.i64.wrap (y7 + Go.IntKind.i64.wrap (y3 * y6)))).tdiv (1000000000 : Int)))), .v (.int .i64 (Go.IntKind.i64.wrap (y4.2.2.fst + (1 : Int))))]) <|
    .lp [.a 3, .o (.o (.i .i64)), .o (.o (.i .i64))] [.a 3 (y4.1.fst) (y4.1.snd), .v (.int .i64 (y4.2.fst)), .v (.int .i64 (Go.IntKind.i64.wrap (y1.2.fst + (↑x1.n : Int))))] fun y5 =>
    .br (decide (y5.2.fst > (0 : Int))) (
      .rq ((0 : Int) ≤ y5.2.2.fst ∧ y5.2.2.fst < (↑y5.1.fst : Int)) <|
      .xs (y5.1.snd) (Int.toNat y5.2.2.fst * (1 : Nat)) (.o (.i .i64)) fun y6 =>
      .rq ((1000000000 : Int) ≠ (0 : Int)) <|
      .rq ((0 : Int) ≤ y5.2.2.fst ∧ y5.2.2.fst < (↑y5.1.fst : Int)) <|
      .rq (Int.toNat y5.2.2.fst * (1 : Nat) + [Go.Value.int Go.IntKind.i64 ((Go.IntKind.i64.wrap (y5.2.fst + y6)).tmod (1000000000 : Int))].length ≤ y5.1.snd.length) <|
      .rq ((1000000000 : Int) ≠ (0 : Int)) <|
      .nx 2 [.a 3 (y5.1.fst) (setl y5.1.snd (Int.toNat y5.2.2.fst * (1 : Nat)) [Go.Value.int Go.IntKind.i64 ((Go.IntKind.i64.wrap (y5.2.fst + y6)).tmod (1000000000 : Int))]), .v (.int .i64 (Go.IntKind.i64.wrap ((Go.IntKind.i64.wrap (y5.2.fst + y6)).tdiv (1000000000 : Int)))), .v (.int .i64 (Go.IntKind.i64.wrap (y5.2.2.fst + (1 : Int))))]) <|
    .nx 0 [.a 3 (y5.1.fst) (y5.1.snd), .v (.int .i64 (Go.IntKind.i64.wrap (y1.2.fst + (1 : Int))))]) <|
  .fz (y1.1.fst) (y1.1.snd) 3 fun b2 c2 =>
  .call false 168 [.slice (some { block := b2, off := (0 : Nat) : Go.Addr }) (y1.1.fst) (c2)] (.v (.o (.l))) fun y3 =>
  .ret [Sc.val .l (y3)]
theorem fI_natMul (x0 : SlV) (x1 : SlV) : fits Tryz.prog aI_natMul 160 [Sc.val .l (x0), Sc.val .l (x1)] (tI_natMul x0 x1) :=
  ⟨Tryz.f160, Tryz.f160.body.getD .skip, by kernel_rfl, by kernel_rfl, by kernel_rfl, by kernel_rfl, by kernel_rfl, by kernel_rfl⟩
/-! loop.example/g00793/impl.intAdd -/
def aI_intAdd : An := ⟨[], [], []⟩
noncomputable def tI_intAdd (x0 : Bool × SlV × PUnit) (x1 : Bool × SlV × PUnit) : T :=
  .br (x0.fst == x1.fst) (
    .rg <|
    .call true 176 [Sc.val .l (x0.2.1), Sc.val .l (x1.2.1)] (.v (.o (.l))) fun y1 =>
    .call true 141 [.bool (x0.fst), Sc.val .l (y1)] (.v (.g [.b, .l])) fun y2 =>
    .ret [Sh1.val (.g [.b, .l]) (y2)]) <|
  .call false 163 [Sc.val .l (x0.2.1), Sc.val .l (x1.2.1)] (.v (.o (.i .i64))) fun y1 =>
  .br (decide (y1 < (0 : Int))) (
    .rg <|
    .call true 177 [Sc.val .l (x1.2.1), Sc.val .l (x0.2.1)] (.v (.o (.l))) fun y2 =>
    .call true 141 [.bool (x1.fst), Sc.val .l (y2)] (.v (.g [.b, .l])) fun y3 =>
    .ret [Sh1.val (.g [.b, .l]) (y3)]) <|
  .rg <|
  .call true 177 [Sc.val .l (x0.2.1), Sc.val .l (x1.2.1)] (.v (.o (.l))) fun y2 =>
  .call true 141 [.bool (x0.fst), Sc.val .l (y2)] (.v (.g [.b, .l])) fun y3 =>
  .ret [Sh1.val (.g [.b, .l]) (y3)]
theorem fI_intAdd (x0 : Bool × SlV × PUnit) (x1 : Bool × SlV × PUnit) : fits Tryz.prog aI_intAdd 161 [Sh1.val (.g [.b, .l]) (x0), Sh1.val (.g [.b, .l]) (x1)] (tI_intAdd x0 x1) :=
  ⟨Tryz.f161, Tryz.f161.body.getD .skip, by kernel_rfl, by kernel_rfl, by kernel_rfl, by kernel_rfl, by kernel_rfl, by kernel_rfl⟩
/-! loop.example/g00793/impl.intNeg -/
def aI_intNeg : An := ⟨[], [], []⟩
noncomputable def tI_intNeg (x0 : Bool × SlV × PUnit) : T :=
  .rg <|
  .call true 164 [Sc.val .l (x0.2.1)] (.v (.o (.l))) fun y1 =>
  .call true 141 [.bool (!x0.fst), Sc.val .l (y1)] (.v (.g [.b, .l])) fun y2 =>
  .ret [Sh1.val (.g [.b, .l]) (y2)]
theorem fI_intNeg (x0 : Bool × SlV × PUnit) : fits Tryz.prog aI_intNeg 162 [Sh1.val (.g [.b, .l]) (x0)] (tI_intNeg x0) :=
  ⟨Tryz.f162, Tryz.f162.body.getD .skip, by kernel_rfl, by kernel_rfl, by kernel_rfl, by kernel_rfl, by kernel_rfl, by kernel_rfl⟩
/-! loop.example/g00793/impl.natCmp -/
def aI_natCmp : An := ⟨[(6, [.s 5], [.o (.o (.i .i64))])], [], []⟩
noncomputable def tI_natCmp (x0 : SlV) (x1 : SlV) : T :=
  .br ((↑x0.n : Int) != (↑x1.n : Int)) (
    .br (decide ((↑x0.n : Int) < (↑x1.n : Int))) (
      .ret [.int .i64 ((-1 : Int))]) <|
    .ret [.int .i64 ((1 : Int))]) <|
  .lp [.o (.o (.i .i64))] [.v (.int .i64 (Go.IntKind.i64.wrap ((↑x0.n : Int) - (1 : Int))))] fun y1 =>
  .br (decide (y1.fst ≥ (0 : Int))) (
    .rg <|
    .el (x0.a) (x0.n) (y1.fst) fun y2 =>
    .ld true (y2.add (Int.toNat y1.fst * (1 : Nat))) (.o (.i .i64)) fun y3 =>
    .el (x1.a) (x1.n) (y1.fst) fun y4 =>
    .ld true (y4.add (Int.toNat y1.fst * (1 : Nat))) (.o (.i .i64)) fun y5 =>
    .br (y3 != y5) (
      .rg <|
      .el (x0.a) (x0.n) (y1.fst) fun y6 =>
      .ld true (y6.add (Int.toNat y1.fst * (1 : Nat))) (.o (.i .i64)) fun y7 =>
      .el (x1.a) (x1.n) (y1.fst) fun y8 =>
      .ld true (y8.add (Int.toNat y1.fst * (1 : Nat))) (.o (.i .i64)) fun y9 =>
      .br (decide (y7 < y9)) (
        .ret [.int .i64 ((-1 : Int))]) <|
      .ret [.int .i64 ((1 : Int))]) <|
    .nx 0 [.v (.int .i64 (Go.IntKind.i64.wrap (y1.fst - (1 : Int))))]) <|
  .ret [.int .i64 ((0 : Int))]
theorem fI_natCmp (x0 : SlV) (x1 : SlV) : fits Tryz.prog aI_natCmp 163 [Sc.val .l (x0), Sc.val .l (x1)] (tI_natCmp x0 x1) :=
  ⟨Tryz.f163, Tryz.f163.body.getD .skip, by kernel_rfl, by kernel_rfl, by kernel_rfl, by kernel_rfl, by kernel_rfl, by kernel_rfl⟩
/-! loop.example/g00793/impl.natCopy -/
def aI_natCopy : An := ⟨[], [], []⟩
noncomputable def tI_natCopy (x0 : SlV) : T :=
  .rd ({ a := x0.a, n := x0.n, c := x0.c : SlV }) ((1 : Nat)) fun y1 =>
  .rq (one y1 = true ∧ ((0 : Nat) + x0.n) * (8 : Nat) ≤ (140737488355328 : Nat) ∧ (0 : Nat) + x0.n ≤ (9223372036854775807 : Nat)) <|
  .fz ((0 : Nat) + x0.n) ([] ++ y1) 3 fun b2 c2 =>
  .ret [.slice (some { block := b2, off := (0 : Nat) : Go.Addr }) ((0 : Nat) + x0.n) (c2)]
theorem fI_natCopy (x0 : SlV) : fits Tryz.prog aI_natCopy 164 [Sc.val .l (x0)] (tI_natCopy x0) :=
  ⟨Tryz.f164, Tryz.f164.body.getD .skip, by kernel_rfl, by kernel_rfl, by kernel_rfl, by kernel_rfl, by kernel_rfl, by kernel_rfl⟩
/-! loop.example/g00793/impl.natSmall -/
def aI_natSmall : An := ⟨[(4, [.s 6, .s 7, .s 8], [.a 3, .o (.o (.i .i64)), .o (.o (.i .i64))])], [], []⟩
noncomputable def tI_natSmall (x0 : SlV) (x1 : Int) : T :=
  .rq ((0 : Int) ≤ (↑x0.n : Int) ∧ (↑x0.n : Int) ≤ (↑x0.n : Int) ∧ (↑(8 : Nat) : Int) * (↑x0.n : Int) ≤ (281474976710656 : Int) ∧ (↑x0.n : Int) ≤ (9223372036854775807 : Int)) <|
  .lp [.a 3, .o (.o (.i .i64)), .o (.o (.i .i64))] [.a 3 ((↑x0.n : Int).toNat) ((Go.madeCells { toList := [Go.Value.int Go.IntKind.i64 (0 : Int)] : Array Go.Value } ((↑x0.n : Int).toNat * (1 : Nat))).toList), .v (.int .i64 ((0 : Int))), .v (.int .i64 (Go.IntKind.i64.wrap ((↑x0.n : Int) - (1 : Int))))] fun y1 =>
  .br (decide (y1.2.2.fst ≥ (0 : Int))) (
    .el (x0.a) (x0.n) (y1.2.2.fst) fun y2 =>
    .ld false (y2.add (Int.toNat y1.2.2.fst * (1 : Nat))) (.o (.i .i64)) fun y3 =>
    .rq (x1 ≠ (0 : Int)) <|
    .rq ((0 : Int) ≤ y1.2.2.fst ∧ y1.2.2.fst < (↑y1.1.fst : Int)) <|
    .rq (Int.toNat y1.2.2.fst * (1 : Nat) + [Go.Value.int Go.IntKind.i64 (Go.IntKind.i64.wrap ((Go.IntKind.i64.wrap (Go.IntKind.i64.wrap (y1.2.fst * (1000000000 : Int)) + y3)).tdiv x1))].length ≤ y1.1.snd.length) <|
    .rq (x1 ≠ (0 : Int)) <|
    .nx 0 [.a 3 (y1.1.fst) (setl y1.1.snd (Int.toNat y1.2.2.fst * (1 : Nat)) [Go.Value.int Go.IntKind.i64 (Go.IntKind.i64.wrap ((Go.IntKind.i64.wrap (Go.IntKind.i64.wrap (y1.2.fst * (1000000000 : Int)) + y3)).tdiv x1))]), .v (.int .i64 ((Go.IntKind.i64.wrap (Go.IntKind.i64.wrap (y1.2.fst * (1000000000 : Int)) + y3)).tmod x1)), .v (.int .i64 (Go.IntKind.i64.wrap (y1.2.2.fst - (1 : Int))))]) <|
  .fz (y1.1.fst) (y1.1.snd) 3 fun b2 c2 =>
  .call false 168 [.slice (some { block := b2, off := (0 : Nat) : Go.Addr }) (y1.1.fst) (c2)] (.v (.o (.l))) fun y3 =>
  .ret [Sc.val .l (y3), .int .i64 (y1.2.fst)]
theorem fI_natSmall (x0 : SlV) (x1 : Int) : fits Tryz.prog aI_natSmall 165 [Sc.val .l (x0), .int .i64 (x1)] (tI_natSmall x0 x1) :=
  ⟨Tryz.f165, Tryz.f165.body.getD .skip, by kernel_rfl, by kernel_rfl, by kernel_rfl, by kernel_rfl, by kernel_rfl, by kernel_rfl⟩
/-! loop.example/g00793/impl.NatOf -/
def aI_NatOf : An := ⟨[], [], []⟩
noncomputable def tI_NatOf (x0 : Int) : T :=
  .br (decide (x0 < (0 : Int))) (
    .ret [.slice (none) ((0 : Nat)) ((0 : Nat))]) <|
  .call false 137 [.int .u64 (Go.IntKind.u64.wrap x0)] (.v (.o (.l))) fun y1 =>
  .ret [Sc.val .l (y1)]
theorem fI_NatOf (x0 : Int) : fits Tryz.prog aI_NatOf 166 [.int .i64 (x0)] (tI_NatOf x0) :=
  ⟨Tryz.f166, Tryz.f166.body.getD .skip, by kernel_rfl, by kernel_rfl, by kernel_rfl, by kernel_rfl, by kernel_rfl, by kernel_rfl⟩
/-! loop.example/g00793/impl.divStep -/
def aI_divStep : An := ⟨[(4, [.s 7], [.o (.o (.i .i64))])], [], []⟩
noncomputable def tI_divStep (x0 : SlV) (x1 : SlV) : T :=
  .rg <|
  .el (x0.a) (x0.n) ((↑x1.n : Int)) fun y1 =>
  .ld true (y1.add ((↑x1.n : Int).toNat * (1 : Nat))) (.o (.i .i64)) fun y2 =>
  .el (x0.a) (x0.n) (Go.IntKind.i64.wrap ((↑x1.n : Int) - (1 : Int))) fun y3 =>
  .ld true (y3.add ((Go.IntKind.i64.wrap ((↑x1.n : Int) - (1 : Int))).toNat * (1 : Nat))) (.o (.i .i64)) fun y4 =>
  .el (x1.a) (x1.n) (Go.IntKind.i64.wrap ((↑x1.n : Int) - (1 : Int))) fun y5 =>
  .ld false (y5.add ((Go.IntKind.i64.wrap ((↑x1.n : Int) - (1 : Int))).toNat * (1 : Nat))) (.o (.i .i64)) fun y6 =>
  .rq (y6 ≠ (0 : Int)) <|
  .lp [.o (.o (.i .i64))] [.v (.int .i64 (if (999999999 : Int) < Go.IntKind.i64.wrap ((Go.IntKind.i64.wrap (Go.IntKind.i64.wrap (y2 * (1000000000 : Int)) + y4)).tdiv y6) then (999999999 : Int) else Go.IntKind.i64.wrap ((Go.IntKind.i64.wrap (Go.IntKind.i64.wrap (y2 * (1000000000 : Int)) + y4)).tdiv y6)))] fun y7 =>
  .rg <|
  .br (decide (y7.fst > (0 : Int))) (
    .el (x1.a) (x1.n) (Go.IntKind.i64.wrap ((↑x1.n : Int) - (1 : Int))) fun y8 =>
    .ld true (y8.add ((Go.IntKind.i64.wrap ((↑x1.n : Int) - (1 : Int))).toNat * (1 : Nat))) (.o (.i .i64)) fun y9 =>
    .br (decide (Go.IntKind.i64.wrap (Go.IntKind.i64.wrap (Go.IntKind.i64.wrap (y2 * (1000000000 : Int)) + y4) - Go.IntKind.i64.wrap (y7.fst * y9)) < (1000000000 : Int))) (
      .el (x1.a) (x1.n) (Go.IntKind.i64.wrap ((↑x1.n : Int) - (2 : Int))) fun y10 =>
      .ld true (y10.add ((Go.IntKind.i64.wrap ((↑x1.n : Int) - (2 : Int))).toNat * (1 : Nat))) (.o (.i .i64)) fun y11 =>
      .el (x1.a) (x1.n) (Go.IntKind.i64.wrap ((↑x1.n : Int) - (1 : Int))) fun y12 =>
      .ld true (y12.add ((Go.IntKind.i64.wrap ((↑x1.n : Int) - (1 : Int))).toNat * (1 : Nat))) (.o (.i .i64)) fun y13 =>
      .el (x0.a) (x0.n) (Go.IntKind.i64.wrap ((↑x1.n : Int) - (2 : Int))) fun y14 =>
      .ld true (y14.add ((Go.IntKind.i64.wrap ((↑x1.n : Int) - (2 : Int))).toNat * (1 : Nat))) (.o (.i .i64)) fun y15 =>
      .br (decide (Go.IntKind.i64.wrap (y7.fst * y11) > Go.IntKind.i64.wrap (Go.IntKind.i64.wrap (Go.IntKind.i64.wrap (Go.IntKind.i64.wrap (Go.IntKind.i64.wrap (y2 * (1000000000 : Int)) + y4) - Go.IntKind.i64.wrap (y7.fst * y13)) * (1000000000 : Int)) + y15))) (
        .nx 0 [.v (.int .i64 (Go.IntKind.i64.wrap (y7.fst - (1 : Int))))]) <|
      .call false 178 [Sc.val .l (x0), Sc.val .l (x1), .int .i64 (y7.fst)] (.v (.o (.b))) fun y16 =>
      .br (y16) (
        .call false 179 [Sc.val .l (x0), Sc.val .l (x1)] (.t []) fun _ =>
        .ret [.int .i64 (Go.IntKind.i64.wrap (y7.fst - (1 : Int)))]) <|
      .ret [.int .i64 (y7.fst)]) <|
    .call false 178 [Sc.val .l (x0), Sc.val .l (x1), .int .i64 (y7.fst)] (.v (.o (.b))) fun y10 =>
    .br (y10) (
      .call false 179 [Sc.val .l (x0), Sc.val .l (x1)] (.t []) fun _ =>
      .ret [.int .i64 (Go.IntKind.i64.wrap (y7.fst - (1 : Int)))]) <|
    .ret [.int .i64 (y7.fst)]) <|
  .call false 178 [Sc.val .l (x0), Sc.val .l (x1), .int .i64 (y7.fst)] (.v (.o (.b))) fun y8 =>
  .br (y8) (
    .call false 179 [Sc.val .l (x0), Sc.val .l (x1)] (.t []) fun _ =>
    .ret [.int .i64 (Go.IntKind.i64.wrap (y7.fst - (1 : Int)))]) <|
  .ret [.int .i64 (y7.fst)]
theorem fI_divStep (x0 : SlV) (x1 : SlV) : fits Tryz.prog aI_divStep 167 [Sc.val .l (x0), Sc.val .l (x1)] (tI_divStep x0 x1) :=
  ⟨Tryz.f167, Tryz.f167.body.getD .skip, by kernel_rfl, by kernel_rfl, by kernel_rfl, by kernel_rfl, by kernel_rfl, by kernel_rfl⟩
/-! loop.example/g00793/impl.trim -/
def aI_trim : An := ⟨[(1, [.s 0], [.o (.o (.l))])], [], []⟩
noncomputable def tI_trim (x0 : SlV) : T :=
  .lp [.o (.o (.l))] [.v (Sc.val .l (x0))] fun y1 =>
  .br (decide ((↑y1.1.n : Int) > (0 : Int))) (
    .el (y1.1.a) (y1.1.n) (Go.IntKind.i64.wrap ((↑y1.1.n : Int) - (1 : Int))) fun y2 =>
    .ld false (y2.add ((Go.IntKind.i64.wrap ((↑y1.1.n : Int) - (1 : Int))).toNat * (1 : Nat))) (.o (.i .i64)) fun y3 =>
    .br (y3 == (0 : Int)) (
      .rq ((0 : Int) ≤ (0 : Int) ∧ (0 : Int) ≤ Go.IntKind.i64.wrap ((↑y1.1.n : Int) - (1 : Int)) ∧ Go.IntKind.i64.wrap ((↑y1.1.n : Int) - (1 : Int)) ≤ (↑y1.1.c : Int) ∧ (↑y1.1.c : Int) ≤ (↑y1.1.c : Int)) <|
      .nx 0 [.v (.slice (if (↑y1.1.c : Int).toNat = Int.toNat (0 : Int) then y1.1.a else Option.map (fun x => x.add (Int.toNat (0 : Int) * Go.Proofs.Tryz.prog.types[(3 : Nat)].size)) y1.1.a) ((Go.IntKind.i64.wrap ((↑y1.1.n : Int) - (1 : Int))).toNat - Int.toNat (0 : Int)) ((↑y1.1.c : Int).toNat - Int.toNat (0 : Int)))]) <|
    .ret [Sc.val .l (y1.1)]) <|
  .ret [Sc.val .l (y1.1)]
theorem fI_trim (x0 : SlV) : fits Tryz.prog aI_trim 168 [Sc.val .l (x0)] (tI_trim x0) :=
  ⟨Tryz.f168, Tryz.f168.body.getD .skip, by kernel_rfl, by kernel_rfl, by kernel_rfl, by kernel_rfl, by kernel_rfl, by kernel_rfl⟩
/-! loop.example/g00793/spec.l03Small -/
def aS_l03Small : An := ⟨[(4, [.s 6, .s 7, .s 8], [.a 3, .o (.o (.i .i64)), .o (.o (.i .i64))])], [], []⟩
noncomputable def tS_l03Small (x0 : SlV) (x1 : Int) : T :=
  .rq ((0 : Int) ≤ (↑x0.n : Int) ∧ (↑x0.n : Int) ≤ (↑x0.n : Int) ∧ (↑(8 : Nat) : Int) * (↑x0.n : Int) ≤ (281474976710656 : Int) ∧ (↑x0.n : Int) ≤ (9223372036854775807 : Int)) <|
  .lp [.a 3, .o (.o (.i .i64)), .o (.o (.i .i64))] [.a 3 ((↑x0.n : Int).toNat) ((Go.madeCells { toList := [Go.Value.int Go.IntKind.i64 (0 : Int)] : Array Go.Value } ((↑x0.n : Int).toNat * (1 : Nat))).toList), .v (.int .i64 ((0 : Int))), .v (.int .i64 (Go.IntKind.i64.wrap ((↑x0.n : Int) - (1 : Int))))] fun y1 =>
  .br (decide (y1.2.2.fst ≥ (0 : Int))) (
    .el (x0.a) (x0.n) (y1.2.2.fst) fun y2 =>
    .ld false (y2.add (Int.toNat y1.2.2.fst * (1 : Nat))) (.o (.i .i64)) fun y3 =>
    .rq (x1 ≠ (0 : Int)) <|
    .rq ((0 : Int) ≤ y1.2.2.fst ∧ y1.2.2.fst < (↑y1.1.fst : Int)) <|
    .rq (Int.toNat y1.2.2.fst * (1 : Nat) + [Go.Value.int Go.IntKind.i64 (Go.IntKind.i64.wrap ((Go.IntKind.i64.wrap (Go.IntKind.i64.wrap (y1.2.fst * (1000000000 : Int)) + y3)).tdiv x1))].length ≤ y1.1.snd.length) <|
    .rq (x1 ≠ (0 : Int)) <|
    .nx 0 [.a 3 (y1.1.fst) (setl y1.1.snd (Int.toNat y1.2.2.fst * (1 : Nat)) [Go.Value.int Go.IntKind.i64 (Go.IntKind.i64.wrap ((Go.IntKind.i64.wrap (Go.IntKind.i64.wrap (y1.2.fst * (1000000000 : Int)) + y3)).tdiv x1))]), .v (.int .i64 ((Go.IntKind.i64.wrap (Go.IntKind.i64.wrap (y1.2.fst * (1000000000 : Int)) + y3)).tmod x1)), .v (.int .i64 (Go.IntKind.i64.wrap (y1.2.2.fst - (1 : Int))))]) <|
  .fz (y1.1.fst) (y1.1.snd) 3 fun b2 c2 =>
  .call false 156 [.slice (some { block := b2, off := (0 : Nat) : Go.Addr }) (y1.1.fst) (c2)] (.v (.o (.l))) fun y3 =>
  .ret [Sc.val .l (y3), .int .i64 (y1.2.fst)]
theorem fS_l03Small (x0 : SlV) (x1 : Int) : fits Tryz.prog aS_l03Small 173 [Sc.val .l (x0), .int .i64 (x1)] (tS_l03Small x0 x1) :=
  ⟨Tryz.f173, Tryz.f173.body.getD .skip, by kernel_rfl, by kernel_rfl, by kernel_rfl, by kernel_rfl, by kernel_rfl, by kernel_rfl⟩
/-! loop.example/g00793/spec.l03Digit -/
def aS_l03Digit : An := ⟨[(3, [.s 5, .s 6], [.o (.o (.i .i64)), .o (.o (.i .i64))])], [], []⟩
noncomputable def tS_l03Digit (x0 : SlV) (x1 : SlV) : T :=
  .lp [.o (.o (.i .i64)), .o (.o (.i .i64))] [.v (.int .i64 ((0 : Int))), .v (.int .i64 ((999999999 : Int)))] fun y1 =>
  .br (decide (y1.fst < y1.2.fst)) (
    .rq ((2 : Int) ≠ (0 : Int)) <|
    .call false 97 [.int .i64 (Go.IntKind.i64.wrap ((Go.IntKind.i64.wrap (Go.IntKind.i64.wrap (y1.fst + y1.2.fst) + (1 : Int))).tdiv (2 : Int)))] (.v (.o (.l))) fun y2 =>
    .call false 127 [Sc.val .l (x1), Sc.val .l (y2)] (.v (.o (.l))) fun y3 =>
    .call false 125 [Sc.val .l (y3), Sc.val .l (x0)] (.v (.o (.i .i64))) fun y4 =>
    .br (decide (y4 ≤ (0 : Int))) (
      .nx 0 [.v (.int .i64 (Go.IntKind.i64.wrap ((Go.IntKind.i64.wrap (Go.IntKind.i64.wrap (y1.fst + y1.2.fst) + (1 : Int))).tdiv (2 : Int)))), .v (.int .i64 (y1.2.fst))]) <|
    .nx 0 [.v (.int .i64 (y1.fst)), .v (.int .i64 (Go.IntKind.i64.wrap (Go.IntKind.i64.wrap ((Go.IntKind.i64.wrap (Go.IntKind.i64.wrap (y1.fst + y1.2.fst) + (1 : Int))).tdiv (2 : Int)) - (1 : Int))))]) <|
  .ret [.int .i64 (y1.fst)]
theorem fS_l03Digit (x0 : SlV) (x1 : SlV) : fits Tryz.prog aS_l03Digit 174 [Sc.val .l (x0), Sc.val .l (x1)] (tS_l03Digit x0 x1) :=
  ⟨Tryz.f174, Tryz.f174.body.getD .skip, by kernel_rfl, by kernel_rfl, by kernel_rfl, by kernel_rfl, by kernel_rfl, by kernel_rfl⟩
/-! loop.example/g00793/spec.l02Sub -/
def aS_l02Sub : An := ⟨[(4, [.s 5, .s 6, .s 12], [.a 3, .o (.o (.i .i64)), .o (.o (.i .i64))])], [], []⟩
noncomputable def tS_l02Sub (x0 : SlV) (x1 : SlV) : T :=
  .lp [.a 3, .o (.o (.i .i64)), .o (.o (.i .i64))] [.a 3 ((0 : Nat)) [], .v (.int .i64 ((0 : Int))), .v (.int .i64 ((0 : Int)))] fun y1 =>
  .br (decide (y1.2.2.fst < (↑x0.n : Int))) (
    .el (x0.a) (x0.n) (y1.2.2.fst) fun y2 =>
    .ld false (y2.add (Int.toNat y1.2.2.fst * (1 : Nat))) (.o (.i .i64)) fun y3 =>
    .br (decide (y1.2.2.fst < (↑x1.n : Int))) (
      .el (x1.a) (x1.n) (y1.2.2.fst) fun y4 =>
      .ld false (y4.add (Int.toNat y1.2.2.fst * (1 : Nat))) (.o (.i .i64)) fun y5 =>
      .br (decide (Go.IntKind.i64.wrap (Go.IntKind.i64.wrap (y3 - y1.2.fst) - y5) < (0 : Int))) (
        .rq ([Go.Value.int Go.IntKind.i64 (Go.IntKind.i64.wrap (Go.IntKind.i64.wrap (Go.IntKind.i64.wrap (y3 - y1.2.fst) - y5) + (1000000000 : Int)))].length = (1 : Nat) * (1 : Nat)) <|
        .rq (one [Go.Value.int Go.IntKind.i64 (Go.IntKind.i64.wrap (Go.IntKind.i64.wrap (Go.IntKind.i64.wrap (y3 - y1.2.fst) - y5) + (1000000000 : Int)))] = true ∧ (y1.1.fst + (1 : Nat)) * (8 : Nat) ≤ (140737488355328 : Nat) ∧ y1.1.fst + (1 : Nat) ≤ (9223372036854775807 : Nat)) <|
        .nx 0 [.a 3 (y1.1.fst + (1 : Nat)) (y1.1.snd ++ [Go.Value.int Go.IntKind.i64 (Go.IntKind.i64.wrap (Go.IntKind.i64.wrap (Go.IntKind.i64.wrap (y3 - y1.2.fst) - y5) + (1000000000 : Int)))]), .v (.int .i64 ((1 : Int))), .v (.int .i64 (Go.IntKind.i64.wrap (y1.2.2.fst + (1 : Int))))]) <|
      .rq ([Go.Value.int Go.IntKind.i64 (Go.IntKind.i64.wrap (Go.IntKind.i64.wrap (y3 - y1.2.fst) - y5))].length = (1 : Nat) * (1 : Nat)) <|
      .rq (one [Go.Value.int Go.IntKind.i64 (Go.IntKind.i64.wrap (Go.IntKind.i64.wrap (y3 - y1.2.fst) - y5))] = true ∧ (y1.1.fst + (1 : Nat)) * (8 : Nat) ≤ (140737488355328 : Nat) ∧ y1.1.fst + (1 : Nat) ≤ (9223372036854775807 : Nat)) <|
      .nx 0 [.a 3 (y1.1.fst + (1 : Nat)) (y1.1.snd ++ [Go.Value.int Go.IntKind.i64 (Go.IntKind.i64.wrap (Go.IntKind.i64.wrap (y3 - y1.2.fst) - y5))]), .v (.int .i64 ((0 : Int))), .v (.int .i64 (Go.IntKind.i64.wrap (y1.2.2.fst + (1 : Int))))]) <|
    .br (decide (Go.IntKind.i64.wrap (y3 - y1.2.fst) < (0 : Int))) (
      .rq ([Go.Value.int Go.IntKind.i64 (Go.IntKind.i64.wrap (Go.IntKind.i64.wrap (y3 - y1.2.fst) + (1000000000 : Int)))].length = (1 : Nat) * (1 : Nat)) <|
      .rq (one [Go.Value.int Go.IntKind.i64 (Go.IntKind.i64.wrap (Go.IntKind.i64.wrap (y3 - y1.2.fst) + (1000000000 : Int)))] = true ∧ (y1.1.fst + (1 : Nat)) * (8 : Nat) ≤ (140737488355328 : Nat) ∧ y1.1.fst + (1 : Nat) ≤ (9223372036854775807 : Nat)) <|
      .nx 0 [.a 3 (y1.1.fst + (1 : Nat)) (y1.1.snd ++ [Go.Value.int Go.IntKind.i64 (Go.IntKind.i64.wrap (Go.IntKind.i64.wrap (y3 - y1.2.fst) + (1000000000 : Int)))]), .v (.int .i64 ((1 : Int))), .v (.int .i64 (Go.IntKind.i64.wrap (y1.2.2.fst + (1 : Int))))]) <|
    .rq ([Go.Value.int Go.IntKind.i64 (Go.IntKind.i64.wrap (y3 - y1.2.fst))].length = (1 : Nat) * (1 : Nat)) <|
    .rq (one [Go.Value.int Go.IntKind.i64 (Go.IntKind.i64.wrap (y3 - y1.2.fst))] = true ∧ (y1.1.fst + (1 : Nat)) * (8 : Nat) ≤ (140737488355328 : Nat) ∧ y1.1.fst + (1 : Nat) ≤ (9223372036854775807 : Nat)) <|
    .nx 0 [.a 3 (y1.1.fst + (1 : Nat)) (y1.1.snd ++ [Go.Value.int Go.IntKind.i64 (Go.IntKind.i64.wrap (y3 - y1.2.fst))]), .v (.int .i64 ((0 : Int))), .v (.int .i64 (Go.IntKind.i64.wrap (y1.2.2.fst + (1 : Int))))]) <|
  .fz (y1.1.fst) (y1.1.snd) 3 fun b2 c2 =>
  .call false 156 [.slice (some { block := b2, off := (0 : Nat) : Go.Addr }) (y1.1.fst) (c2)] (.v (.o (.l))) fun y3 =>
  .ret [Sc.val .l (y3)]
theorem fS_l02Sub (x0 : SlV) (x1 : SlV) : fits Tryz.prog aS_l02Sub 175 [Sc.val .l (x0), Sc.val .l (x1)] (tS_l02Sub x0 x1) :=
  ⟨Tryz.f175, Tryz.f175.body.getD .skip, by kernel_rfl, by kernel_rfl, by kernel_rfl, by kernel_rfl, by kernel_rfl, by kernel_rfl⟩
/-! loop.example/g00793/impl.natAdd -/
def aI_natAdd : An := ⟨[(4, [.s 5, .s 6, .s 7], [.a 3, .o (.o (.i .i64)), .o (.o (.i .i64))])], [], []⟩
noncomputable def tI_natAdd (x0 : SlV) (x1 : SlV) : T :=
  .rq ((0 : Int) ≤ (0 : Int) ∧ (0 : Int) ≤ Go.IntKind.i64.wrap ((if (↑x1.n : Int) > (↑x0.n : Int) then (↑x1.n : Int) else (↑x0.n : Int)) + (1 : Int)) ∧ (↑(8 : Nat) : Int) * Go.IntKind.i64.wrap ((if (↑x1.n : Int) > (↑x0.n : Int) then (↑x1.n : Int) else (↑x0.n : Int)) + (1 : Int)) ≤ (281474976710656 : Int) ∧ Go.IntKind.i64.wrap ((if (↑x1.n : Int) > (↑x0.n : Int) then (↑x1.n : Int) else (↑x0.n : Int)) + (1 : Int)) ≤ (9223372036854775807 : Int)) <|
  .lp [.a 3, .o (.o (.i .i64)), .o (.o (.i .i64))] [.a 3 (Int.toNat (0 : Int)) [], .v (.int .i64 ((0 : Int))), .v (.int .i64 ((0 : Int)))] fun y1 =>
  .br (decide (y1.2.2.fst < if (↑x1.n : Int) > (↑x0.n : Int) then (↑x1.n : Int) else (↑x0.n : Int))) (
    .br (decide (y1.2.2.fst < (↑x0.n : Int))) (
      .el (x0.a) (x0.n) (y1.2.2.fst) fun y2 =>
      .ld false (y2.add (Int.toNat y1.2.2.fst * (1 : Nat))) (.o (.i .i64)) fun y3 =>
      .br (decide (y1.2.2.fst < (↑x1.n : Int))) (
        .el (x1.a) (x1.n) (y1.2.2.fst) fun y4 =>
        .ld false (y4.add (Int.toNat y1.2.2.fst * (1 : Nat))) (.o (.i .i64)) fun y5 =>
        .rq ((1000000000 : Int) ≠ (0 : Int)) <|
        .rq ([Go.Value.int Go.IntKind.i64 ((Go.IntKind.i64.wrap (Go.IntKind.i64.wrap (y1.2.fst + y3) + y5)).tmod (1000000000 : Int))].length = (1 : Nat) * (1 : Nat)) <|
        .rq (one [Go.Value.int Go.IntKind.i64 ((Go.IntKind.i64.wrap (Go.IntKind.i64.wrap (y1.2.fst + y3) + y5)).tmod (1000000000 : Int))] = true ∧ (y1.1.fst + (1 : Nat)) * (8 : Nat) ≤ (140737488355328 : Nat) ∧ y1.1.fst + (1 : Nat) ≤ (9223372036854775807 : Nat)) <|
        .rq ((1000000000 : Int) ≠ (0 : Int)) <|
        .nx 0 [.a 3 (y1.1.fst + (1 : Nat)) (y1.1.snd ++ [Go.Value.int Go.IntKind.i64 ((Go.IntKind.i64.wrap (Go.IntKind.i64.wrap (y1.2.fst + y3) + y5)).tmod (1000000000 : Int))]), .v (.int .i64 (Go.IntKind.i64.wrap ((Go.IntKind.i64.wrap (Go.IntKind.i64.wrap (y1.2.fst + y3) + y5)).tdiv (1000000000 : Int)))), .v (.int .i64 (Go.IntKind.i64.wrap (y1.2.2.fst + (1 : Int))))]) <|
      .rq ((1000000000 : Int) ≠ (0 : Int)) <|
      .rq ([Go.Value.int Go.IntKind.i64 ((Go.IntKind.i64.wrap (y1.2.fst + y3)).tmod (1000000000 : Int))].length = (1 : Nat) * (1 : Nat)) <|
      .rq (one [Go.Value.int Go.IntKind.i64 ((Go.IntKind.i64.wrap (y1.2.fst + y3)).tmod (1000000000 : Int))] = true ∧ (y1.1.fst + (1 : Nat)) * (8 : Nat) ≤ (140737488355328 : Nat) ∧ y1.1.fst + (1 : Nat) ≤ (9223372036854775807 : Nat)) <|
      .rq ((1000000000 : Int) ≠ (0 : Int)) <|
      .nx 0 [.a 3 (y1.1.fst + (1 : Nat)) (y1.1.snd ++ [Go.Value.int Go.IntKind.i64 ((Go.IntKind.i64.wrap (y1.2.fst + y3)).tmod (1000000000 : Int))]), .v (.int .i64 (Go.IntKind.i64.wrap ((Go.IntKind.i64.wrap (y1.2.fst + y3)).tdiv (1000000000 : Int)))), .v (.int .i64 (Go.IntKind.i64.wrap (y1.2.2.fst + (1 : Int))))]) <|
    .br (decide (y1.2.2.fst < (↑x1.n : Int))) (
      .el (x1.a) (x1.n) (y1.2.2.fst) fun y2 =>
      .ld false (y2.add (Int.toNat y1.2.2.fst * (1 : Nat))) (.o (.i .i64)) fun y3 =>
      .rq ((1000000000 : Int) ≠ (0 : Int)) <|
      .rq ([Go.Value.int Go.IntKind.i64 ((Go.IntKind.i64.wrap (y1.2.fst + y3)).tmod (1000000000 : Int))].length = (1 : Nat) * (1 : Nat)) <|
      .rq (one [Go.Value.int Go.IntKind.i64 ((Go.IntKind.i64.wrap (y1.2.fst + y3)).tmod (1000000000 : Int))] = true ∧ (y1.1.fst + (1 : Nat)) * (8 : Nat) ≤ (140737488355328 : Nat) ∧ y1.1.fst + (1 : Nat) ≤ (9223372036854775807 : Nat)) <|
      .rq ((1000000000 : Int) ≠ (0 : Int)) <|
      .nx 0 [.a 3 (y1.1.fst + (1 : Nat)) (y1.1.snd ++ [Go.Value.int Go.IntKind.i64 ((Go.IntKind.i64.wrap (y1.2.fst + y3)).tmod (1000000000 : Int))]), .v (.int .i64 (Go.IntKind.i64.wrap ((Go.IntKind.i64.wrap (y1.2.fst + y3)).tdiv (1000000000 : Int)))), .v (.int .i64 (Go.IntKind.i64.wrap (y1.2.2.fst + (1 : Int))))]) <|
    .rq ((1000000000 : Int) ≠ (0 : Int)) <|
    .rq ([Go.Value.int Go.IntKind.i64 (Int.tmod y1.2.fst (1000000000 : Int))].length = (1 : Nat) * (1 : Nat)) <|
    .rq (one [Go.Value.int Go.IntKind.i64 (Int.tmod y1.2.fst (1000000000 : Int))] = true ∧ (y1.1.fst + (1 : Nat)) * (8 : Nat) ≤ (140737488355328 : Nat) ∧ y1.1.fst + (1 : Nat) ≤ (9223372036854775807 : Nat)) <|
    .rq ((1000000000 : Int) ≠ (0 : Int)) <|
    .nx 0 [.a 3 (y1.1.fst + (1 : Nat)) (y1.1.snd ++ [Go.Value.int Go.IntKind.i64 (Int.tmod y1.2.fst (1000000000 : Int))]), .v (.int .i64 (Go.IntKind.i64.wrap (Int.tdiv y1.2.fst (1000000000 : Int)))), .v (.int .i64 (Go.IntKind.i64.wrap (y1.2.2.fst + (1 : Int))))]) <|
  .rq ([(Sh1.o (Sc.i Go.IntKind.i64)).val y1.2.fst].length = (1 : Nat) * (1 : Nat)) <|
  .rq (one [(Sh1.o (Sc.i Go.IntKind.i64)).val y1.2.fst] = true ∧ (y1.1.fst + (1 : Nat)) * (8 : Nat) ≤ (140737488355328 : Nat) ∧ y1.1.fst + (1 : Nat) ≤ (9223372036854775807 : Nat)) <|
  .fz (y1.1.fst + (1 : Nat)) (y1.1.snd ++ [(Sh1.o (Sc.i Go.IntKind.i64)).val y1.2.fst]) 3 fun b2 c2 =>
  .call false 168 [.slice (some { block := b2, off := (0 : Nat) : Go.Addr }) (y1.1.fst + (1 : Nat)) (c2)] (.v (.o (.l))) fun y3 =>
  .ret [Sc.val .l (y3)]
theorem fI_natAdd (x0 : SlV) (x1 : SlV) : fits Tryz.prog aI_natAdd 176 [Sc.val .l (x0), Sc.val .l (x1)] (tI_natAdd x0 x1) :=
  ⟨Tryz.f176, Tryz.f176.body.getD .skip, by kernel_rfl, by kernel_rfl, by kernel_rfl, by kernel_rfl, by kernel_rfl, by kernel_rfl⟩
/-! loop.example/g00793/impl.natSub -/
def aI_natSub : An := ⟨[(4, [.s 5, .s 6, .s 14], [.a 3, .o (.o (.i .i64)), .o (.o (.i .i64))])], [], []⟩
noncomputable def tI_natSub (x0 : SlV) (x1 : SlV) : T :=
  .rq ((0 : Int) ≤ (↑x0.n : Int) ∧ (↑x0.n : Int) ≤ (↑x0.n : Int) ∧ (↑(8 : Nat) : Int) * (↑x0.n : Int) ≤ (281474976710656 : Int) ∧ (↑x0.n : Int) ≤ (9223372036854775807 : Int)) <|
  .lp [.a 3, .o (.o (.i .i64)), .o (.o (.i .i64))] [.a 3 ((↑x0.n : Int).toNat) ((Go.madeCells { toList := [Go.Value.int Go.IntKind.i64 (0 : Int)] : Array Go.Value } ((↑x0.n : Int).toNat * (1 : Nat))).toList), .v (.int .i64 ((0 : Int))), .v (.int .i64 ((0 : Int)))] fun y1 =>
  .br (decide (y1.2.2.fst < (↑x0.n : Int))) (
    .el (x0.a) (x0.n) (y1.2.2.fst) fun y2 =>
    .ld false (y2.add (Int.toNat y1.2.2.fst * (1 : Nat))) (.o (.i .i64)) fun y3 =>
    .br (decide (y1.2.2.fst < (↑x1.n : Int))) (
      .el (x1.a) (x1.n) (y1.2.2.fst) fun y4 =>
      .ld false (y4.add (Int.toNat y1.2.2.fst * (1 : Nat))) (.o (.i .i64)) fun y5 =>
      .br (decide (Go.IntKind.i64.wrap (Go.IntKind.i64.wrap (y3 - y1.2.fst) - y5) < (0 : Int))) (
        .rq ((0 : Int) ≤ y1.2.2.fst ∧ y1.2.2.fst < (↑y1.1.fst : Int)) <|
        .rq (Int.toNat y1.2.2.fst * (1 : Nat) + [Go.Value.int Go.IntKind.i64 (Go.IntKind.i64.wrap (Go.IntKind.i64.wrap (Go.IntKind.i64.wrap (y3 - y1.2.fst) - y5) + (1000000000 : Int)))].length ≤ y1.1.snd.length) <|
        .nx 0 [.a 3 (y1.1.fst) (setl y1.1.snd (Int.toNat y1.2.2.fst * (1 : Nat)) [Go.Value.int Go.IntKind.i64 (Go.IntKind.i64.wrap (Go.IntKind.i64.wrap (Go.IntKind.i64.wrap (y3 - y1.2.fst) - y5) + (1000000000 : Int)))]), .v (.int .i64 ((1 : Int))), .v (.int .i64 (Go.IntKind.i64.wrap (y1.2.2.fst + (1 : Int))))]) <|
      .rq ((0 : Int) ≤ y1.2.2.fst ∧ y1.2.2.fst < (↑y1.1.fst : Int)) <|
      .rq (Int.toNat y1.2.2.fst * (1 : Nat) + [Go.Value.int Go.IntKind.i64 (Go.IntKind.i64.wrap (Go.IntKind.i64.wrap (y3 - y1.2.fst) - y5))].length ≤ y1.1.snd.length) <|
      .nx 0 [.a 3 (y1.1.fst) (setl y1.1.snd (Int.toNat y1.2.2.fst * (1 : Nat)) [Go.Value.int Go.IntKind.i64 (Go.IntKind.i64.wrap (Go.IntKind.i64.wrap (y3 - y1.2.fst) - y5))]), .v (.int .i64 ((0 : Int))), .v (.int .i64 (Go.IntKind.i64.wrap (y1.2.2.fst + (1 : Int))))]) <|
    .br (decide (Go.IntKind.i64.wrap (y3 - y1.2.fst) < (0 : Int))) (
      .rq ((0 : Int) ≤ y1.2.2.fst ∧ y1.2.2.fst < (↑y1.1.fst : Int)) <|
      .rq (Int.toNat y1.2.2.fst * (1 : Nat) + [Go.Value.int Go.IntKind.i64 (Go.IntKind.i64.wrap (Go.IntKind.i64.wrap (y3 - y1.2.fst) + (1000000000 : Int)))].length ≤ y1.1.snd.length) <|
      .nx 0 [.a 3 (y1.1.fst) (setl y1.1.snd (Int.toNat y1.2.2.fst * (1 : Nat)) [Go.Value.int Go.IntKind.i64 (Go.IntKind.i64.wrap (Go.IntKind.i64.wrap (y3 - y1.2.fst) + (1000000000 : Int)))]), .v (.int .i64 ((1 : Int))), .v (.int .i64 (Go.IntKind.i64.wrap (y1.2.2.fst + (1 : Int))))]) <|
    .rq ((0 : Int) ≤ y1.2.2.fst ∧ y1.2.2.fst < (↑y1.1.fst : Int)) <|
    .rq (Int.toNat y1.2.2.fst * (1 : Nat) + [Go.Value.int Go.IntKind.i64 (Go.IntKind.i64.wrap (y3 - y1.2.fst))].length ≤ y1.1.snd.length) <|
    .nx 0 [.a 3 (y1.1.fst) (setl y1.1.snd (Int.toNat y1.2.2.fst * (1 : Nat)) [Go.Value.int Go.IntKind.i64 (Go.IntKind.i64.wrap (y3 - y1.2.fst))]), .v (.int .i64 ((0 : Int))), .v (.int .i64 (Go.IntKind.i64.wrap (y1.2.2.fst + (1 : Int))))]) <|
  .fz (y1.1.fst) (y1.1.snd) 3 fun b2 c2 =>
  .call false 168 [.slice (some { block := b2, off := (0 : Nat) : Go.Addr }) (y1.1.fst) (c2)] (.v (.o (.l))) fun y3 =>
  .ret [Sc.val .l (y3)]
theorem fI_natSub (x0 : SlV) (x1 : SlV) : fits Tryz.prog aI_natSub 177 [Sc.val .l (x0), Sc.val .l (x1)] (tI_natSub x0 x1) :=
  ⟨Tryz.f177, Tryz.f177.body.getD .skip, by kernel_rfl, by kernel_rfl, by kernel_rfl, by kernel_rfl, by kernel_rfl, by kernel_rfl⟩
/-! loop.example/g00793/impl.subTimes -/
def aI_subTimes : An := ⟨[(3, [.s 0, .s 7, .s 13], [.o (.o (.l)), .o (.o (.i .i64)), .o (.o (.i .i64))])], [], []⟩
noncomputable def tI_subTimes (x0 : SlV) (x1 : SlV) (x2 : Int) : T :=
  .lp [.o (.o (.l)), .o (.o (.i .i64)), .o (.o (.i .i64))] [.v (Sc.val .l (x0)), .v (.int .i64 ((0 : Int))), .v (.int .i64 ((0 : Int)))] fun y1 =>
  .br (decide (y1.2.2.fst < (↑x1.n : Int))) (
    .el (x1.a) (x1.n) (y1.2.2.fst) fun y2 =>
    .ld false (y2.add (Int.toNat y1.2.2.fst * (1 : Nat))) (.o (.i .i64)) fun y3 =>
    .el (y1.1.a) (y1.1.n) (y1.2.2.fst) fun y4 =>
    .ld false (y4.add (Int.toNat y1.2.2.fst * (1 : Nat))) (.o (.i .i64)) fun y5 =>
    .br (decide (Go.IntKind.i64.wrap (Go.IntKind.i64.wrap (y5 - Go.IntKind.i64.wrap (y3 * x2)) - y1.2.fst) < (0 : Int))) (
      .rq ((1000000000 : Int) ≠ (0 : Int)) <|
      .el (y1.1.a) (y1.1.n) (y1.2.2.fst) fun y6 =>
      .st (y6.add (Int.toNat y1.2.2.fst * (1 : Nat))) [.int .i64 (Go.IntKind.i64.wrap (Go.IntKind.i64.wrap (Go.IntKind.i64.wrap (y5 - Go.IntKind.i64.wrap (y3 * x2)) - y1.2.fst) + Go.IntKind.i64.wrap (Go.IntKind.i64.wrap ((Go.IntKind.i64.wrap (Go.IntKind.i64.wrap (Go.IntKind.i64.wrap ((0 : Int) - Go.IntKind.i64.wrap (Go.IntKind.i64.wrap (y5 - Go.IntKind.i64.wrap (y3 * x2)) - y1.2.fst)) + (1000000000 : Int)) - (1 : Int))).tdiv (1000000000 : Int)) * (1000000000 : Int))))] <|
      .nx 0 [.v (Sc.val .l (y1.1)), .v (.int .i64 (Go.IntKind.i64.wrap ((Go.IntKind.i64.wrap (Go.IntKind.i64.wrap (Go.IntKind.i64.wrap ((0 : Int) - Go.IntKind.i64.wrap (Go.IntKind.i64.wrap (y5 - Go.IntKind.i64.wrap (y3 * x2)) - y1.2.fst)) + (1000000000 : Int)) - (1 : Int))).tdiv (1000000000 : Int)))), .v (.int .i64 (Go.IntKind.i64.wrap (y1.2.2.fst + (1 : Int))))]) <|
    .el (y1.1.a) (y1.1.n) (y1.2.2.fst) fun y6 =>
    .st (y6.add (Int.toNat y1.2.2.fst * (1 : Nat))) [.int .i64 (Go.IntKind.i64.wrap (Go.IntKind.i64.wrap (y5 - Go.IntKind.i64.wrap (y3 * x2)) - y1.2.fst))] <|
    .nx 0 [.v (Sc.val .l (y1.1)), .v (.int .i64 ((0 : Int))), .v (.int .i64 (Go.IntKind.i64.wrap (y1.2.2.fst + (1 : Int))))]) <|
  .el (y1.1.a) (y1.1.n) ((↑x1.n : Int)) fun y2 =>
  .ld false (y2.add ((↑x1.n : Int).toNat * (1 : Nat))) (.o (.i .i64)) fun y3 =>
  .el (y1.1.a) (y1.1.n) ((↑x1.n : Int)) fun y4 =>
  .st (y4.add ((↑x1.n : Int).toNat * (1 : Nat))) [.int .i64 (Go.IntKind.i64.wrap (y3 - y1.2.fst))] <|
  .el (y1.1.a) (y1.1.n) ((↑x1.n : Int)) fun y5 =>
  .ld false (y5.add ((↑x1.n : Int).toNat * (1 : Nat))) (.o (.i .i64)) fun y6 =>
  .ret [.bool (decide (y6 < (0 : Int)))]
theorem fI_subTimes (x0 : SlV) (x1 : SlV) (x2 : Int) : fits Tryz.prog aI_subTimes 178 [Sc.val .l (x0), Sc.val .l (x1), .int .i64 (x2)] (tI_subTimes x0 x1 x2) :=
  ⟨Tryz.f178, Tryz.f178.body.getD .skip, by kernel_rfl, by kernel_rfl, by kernel_rfl, by kernel_rfl, by kernel_rfl, by kernel_rfl⟩
/-! loop.example/g00793/impl.addBack -/
def aI_addBack : An := ⟨[(2, [.s 0, .s 4, .s 9], [.o (.o (.l)), .o (.o (.i .i64)), .o (.o (.i .i64))])], [], []⟩
noncomputable def tI_addBack (x0 : SlV) (x1 : SlV) : T :=
  .lp [.o (.o (.l)), .o (.o (.i .i64)), .o (.o (.i .i64))] [.v (Sc.val .l (x0)), .v (.int .i64 ((0 : Int))), .v (.int .i64 ((0 : Int)))] fun y1 =>
  .br (decide (y1.2.2.fst < (↑x1.n : Int))) (
    .el (x1.a) (x1.n) (y1.2.2.fst) fun y2 =>
    .ld false (y2.add (Int.toNat y1.2.2.fst * (1 : Nat))) (.o (.i .i64)) fun y3 =>
    .el (y1.1.a) (y1.1.n) (y1.2.2.fst) fun y4 =>
    .ld false (y4.add (Int.toNat y1.2.2.fst * (1 : Nat))) (.o (.i .i64)) fun y5 =>
    .rq ((1000000000 : Int) ≠ (0 : Int)) <|
    .el (y1.1.a) (y1.1.n) (y1.2.2.fst) fun y6 =>
    .st (y6.add (Int.toNat y1.2.2.fst * (1 : Nat))) [.int .i64 ((Go.IntKind.i64.wrap (y1.2.fst + Go.IntKind.i64.wrap (y5 + y3))).tmod (1000000000 : Int))] <|
    .rq ((1000000000 : Int) ≠ (0 : Int)) <|
    .nx 0 [.v (Sc.val .l (y1.1)), .v (.int .i64 (Go.IntKind.i64.wrap ((Go.IntKind.i64.wrap (y1.2.fst + Go.IntKind.i64.wrap (y5 + y3))).tdiv (1000000000 : Int)))), .v (.int .i64 (Go.IntKind.i64.wrap (y1.2.2.fst + (1 : Int))))]) <|
  .el (y1.1.a) (y1.1.n) ((↑x1.n : Int)) fun y2 =>
  .ld false (y2.add ((↑x1.n : Int).toNat * (1 : Nat))) (.o (.i .i64)) fun y3 =>
  .el (y1.1.a) (y1.1.n) ((↑x1.n : Int)) fun y4 =>
  .st (y4.add ((↑x1.n : Int).toNat * (1 : Nat))) [.int .i64 (Go.IntKind.i64.wrap (y3 + y1.2.fst))] <|
  .ret []
theorem fI_addBack (x0 : SlV) (x1 : SlV) : fits Tryz.prog aI_addBack 179 [Sc.val .l (x0), Sc.val .l (x1)] (tI_addBack x0 x1) :=
  ⟨Tryz.f179, Tryz.f179.body.getD .skip, by kernel_rfl, by kernel_rfl, by kernel_rfl, by kernel_rfl, by kernel_rfl, by kernel_rfl⟩
end Go.Proofs.YtfbnocogljmpdaaGreatDoor
