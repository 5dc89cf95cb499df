/-
  What each function of the seat comes to, as a tree; each tree is checked against the code.
-/
import Derived.Test.YtagimdcegmpbmaaEngD
import Derived.Test.YtagimdcegmpbmaaChecked
import Derived.KernelRfl
namespace Go.Proofs.Ytagimdcegmpbmaa
open Sx
set_option maxRecDepth 100000
abbrev gL_FnExactLedgerSame : Nat := 3
abbrev gL_szLedger : Nat := 4
abbrev gS_LedgerSame : Nat := 5
abbrev gL_toLedger : Nat := 6
abbrev gI_LedgerSame : Nat := 7
abbrev gL_eqLedger : Nat := 8
abbrev gL_szBook : Nat := 9
abbrev gL_szRestS : Nat := 10
abbrev gL_szRates : Nat := 11
abbrev gS_BookSame : Nat := 12
abbrev gS_RestsSame : Nat := 13
abbrev gS_l09Same : Nat := 14
abbrev gL_toBook : Nat := 15
abbrev gL_toRestS : Nat := 16
abbrev gL_toRates : Nat := 17
abbrev gI_BookSame : Nat := 18
abbrev gI_RestsSame : Nat := 19
abbrev gX_EqualFunc_Rate : Nat := 20
abbrev gI_rateSame : Nat := 21
abbrev gL_eqBook : Nat := 22
abbrev gL_eqRestS : Nat := 23
abbrev gL_eqRates : Nat := 24
abbrev gL_szAcctS : Nat := 25
abbrev gL_szRest : Nat := 26
abbrev gL_szRateS : Nat := 27
abbrev gS_MoneySame : Nat := 28
abbrev gS_l02Cmp : Nat := 29
abbrev gL_toAcctS : Nat := 30
abbrev gL_toRest : Nat := 31
abbrev gL_toRateS : Nat := 32
abbrev gX_EqualFunc_Acct : Nat := 33
abbrev gI_BookSame_1 : Nat := 34
abbrev gI_MoneySame : Nat := 35
abbrev gX_EqualFunc_Rest : Nat := 36
abbrev gI_RestsSame_1 : Nat := 37
abbrev gI_ratSame : Nat := 38
abbrev gI_decSame : Nat := 39
abbrev gL_eqAcctS : Nat := 40
abbrev gL_eqRest : Nat := 41
abbrev gL_eqRateS : Nat := 42
abbrev gL_szAcct : Nat := 43
abbrev gL_szRat : Nat := 44
abbrev gL_szRate : Nat := 45
abbrev gL_toAcct : Nat := 46
abbrev gL_toRat : Nat := 47
abbrev gL_toRate : Nat := 48
abbrev gI_intSame : Nat := 49
abbrev gI_sameInts : Nat := 50
abbrev gL_eqAcct : Nat := 51
abbrev gL_eqRat : Nat := 52
abbrev gL_eqRate : Nat := 53
abbrev gL_szMoney : Nat := 54
abbrev gL_szSigned : Nat := 55
abbrev gL_szIntS : Nat := 56
abbrev gL_szDec : Nat := 57
abbrev gL_toMoney : Nat := 58
abbrev gL_toSigned : Nat := 59
abbrev gL_toIntS : Nat := 60
abbrev gL_toDec : Nat := 61
abbrev gL_eqMoney : Nat := 62
abbrev gL_eqSigned : Nat := 63
abbrev gL_eqIntS : Nat := 64
abbrev gL_eqDec : Nat := 65
/-! loop.example/g00793/laws.FnExactLedgerSame -/
def aL_FnExactLedgerSame : An := ⟨[], [], []⟩
noncomputable def tL_FnExactLedgerSame (x0 : SlV × SlV × ByteArray × SlV × PUnit) (x1 : SlV × SlV × ByteArray × SlV × PUnit) : T :=
  .call false 4 [Sh1.val (.g [.l, .l, .s, .l]) (x0), .int .i64 ((1048576 : Int))] (.v (.o (.i .i64))) fun y1 =>
  .br (decide (y1 < (0 : Int))) (
    .ret [.bool (true)]) <|
  .call false 4 [Sh1.val (.g [.l, .l, .s, .l]) (x1), .int .i64 (y1)] (.v (.o (.i .i64))) fun y2 =>
  .br (decide (y2 < (0 : Int))) (
    .ret [.bool (true)]) <|
  .rg <|
  .call true 6 [Sh1.val (.g [.l, .l, .s, .l]) (x0)] (.v (.g [.l, .l, .s, .l])) fun y3 =>
  .call true 6 [Sh1.val (.g [.l, .l, .s, .l]) (x1)] (.v (.g [.l, .l, .s, .l])) fun y4 =>
  .call true 5 [Sh1.val (.g [.l, .l, .s, .l]) (y3), Sh1.val (.g [.l, .l, .s, .l]) (y4)] (.v (.o (.b))) fun y5 =>
  .call false 6 [Sh1.val (.g [.l, .l, .s, .l]) (x0)] (.v (.g [.l, .l, .s, .l])) fun y6 =>
  .call false 6 [Sh1.val (.g [.l, .l, .s, .l]) (x1)] (.v (.g [.l, .l, .s, .l])) fun y7 =>
  .call false 7 [Sh1.val (.g [.l, .l, .s, .l]) (y6), Sh1.val (.g [.l, .l, .s, .l]) (y7)] (.v (.o (.b))) fun y8 =>
  .br (!y8 == y5) (
    .ret [.bool (false)]) <|
  .rg <|
  .call true 6 [Sh1.val (.g [.l, .l, .s, .l]) (x0)] (.v (.g [.l, .l, .s, .l])) fun y9 =>
  .call true 8 [Sh1.val (.g [.l, .l, .s, .l]) (y6), Sh1.val (.g [.l, .l, .s, .l]) (y9)] (.v (.o (.b))) fun y10 =>
  .br (!y10) (
    .ret [.bool (false)]) <|
  .rg <|
  .call true 6 [Sh1.val (.g [.l, .l, .s, .l]) (x1)] (.v (.g [.l, .l, .s, .l])) fun y11 =>
  .call true 8 [Sh1.val (.g [.l, .l, .s, .l]) (y7), Sh1.val (.g [.l, .l, .s, .l]) (y11)] (.v (.o (.b))) fun y12 =>
  .br (!y12) (
    .ret [.bool (false)]) <|
  .ret [.bool (true)]
theorem fL_FnExactLedgerSame (x0 : SlV × SlV × ByteArray × SlV × PUnit) (x1 : SlV × SlV × ByteArray × SlV × PUnit) : fits Try.prog aL_FnExactLedgerSame 3 [Sh1.val (.g [.l, .l, .s, .l]) (x0), Sh1.val (.g [.l, .l, .s, .l]) (x1)] (tL_FnExactLedgerSame x0 x1) :=
  ⟨Try.f3, Try.f3.body.getD .skip, by kernel_rfl, by kernel_rfl, by kernel_rfl, by kernel_rfl, by kernel_rfl, by kernel_rfl⟩
/-! loop.example/g00793/laws.szLedger -/
def aL_szLedger : An := ⟨[], [], []⟩
noncomputable def tL_szLedger (x0 : SlV × SlV × ByteArray × SlV × PUnit) (x1 : Int) : T :=
  .call false 9 [Sh1.val (.g [.l]) (x0.1, ()), .int .i64 (x1)] (.v (.o (.i .i64))) fun y1 =>
  .br (decide (y1 < (0 : Int))) (
    .ret [.int .i64 ((-1 : Int))]) <|
  .call false 10 [Sc.val .l (x0.2.1), .int .i64 (y1)] (.v (.o (.i .i64))) fun y2 =>
  .br (decide (y2 < (0 : Int))) (
    .ret [.int .i64 ((-1 : Int))]) <|
  .call false 11 [Sh1.val (.g [.s, .l]) (x0.2.2), .int .i64 (y2)] (.v (.o (.i .i64))) fun y3 =>
  .br (decide (y3 < (0 : Int))) (
    .ret [.int .i64 ((-1 : Int))]) <|
  .ret [.int .i64 (y3)]
theorem fL_szLedger (x0 : SlV × SlV × ByteArray × SlV × PUnit) (x1 : Int) : fits Try.prog aL_szLedger 4 [Sh1.val (.g [.l, .l, .s, .l]) (x0), .int .i64 (x1)] (tL_szLedger x0 x1) :=
  ⟨Try.f4, Try.f4.body.getD .skip, by kernel_rfl, by kernel_rfl, by kernel_rfl, by kernel_rfl, by kernel_rfl, by kernel_rfl⟩
/-! loop.example/g00793/spec.LedgerSame -/
def aS_LedgerSame : An := ⟨[(4, [.s 46], [.o (.o (.i .i64))])], [], []⟩
noncomputable def tS_LedgerSame (x0 : SlV × SlV × ByteArray × SlV × PUnit) (x1 : SlV × SlV × ByteArray × SlV × PUnit) : T :=
  .call false 12 [Sh1.val (.g [.l]) (x0.1, ()), Sh1.val (.g [.l]) (x1.1, ())] (.v (.o (.b))) fun y1 =>
  .br (!y1) (
    .ret [.bool (false)]) <|
  .call false 13 [Sc.val .l (x0.2.1), Sc.val .l (x1.2.1)] (.v (.o (.b))) fun y2 =>
  .br (!y2) (
    .ret [.bool (false)]) <|
  .br (!ByteArray.toList x0.2.2.fst == ByteArray.toList x1.2.2.fst) (
    .ret [.bool (false)]) <|
  .br ((↑x0.2.2.2.1.n : Int) != (↑x1.2.2.2.1.n : Int)) (
    .ret [.bool (false)]) <|
  .lp [.o (.o (.i .i64))] [.v (.int .i64 ((0 : Int)))] fun y3 =>
  .br (decide (y3.fst < (↑x0.2.2.2.1.n : Int))) (
    .el (x0.2.2.2.1.a) (x0.2.2.2.1.n) (y3.fst) fun y4 =>
    .ld false (y4.add (Int.toNat y3.fst * (5 : Nat))) (.g [.s, .s, .b, .l, .i .i64]) fun y5 =>
    .el (x1.2.2.2.1.a) (x1.2.2.2.1.n) (y3.fst) fun y6 =>
    .ld false (y6.add (Int.toNat y3.fst * (5 : Nat))) (.g [.s, .s, .b, .l, .i .i64]) fun y7 =>
    .br (!ByteArray.toList y5.fst == ByteArray.toList y7.fst) (
      .ret [.bool (false)]) <|
    .br (!ByteArray.toList y5.2.fst == ByteArray.toList y7.2.fst) (
      .ret [.bool (false)]) <|
    .br (y5.2.2.2.2.fst != y7.2.2.2.2.fst) (
      .ret [.bool (false)]) <|
    .call false 14 [Sh1.val (.g [.b, .l]) ((y5.2.2.fst), y5.2.2.2.1, ()), Sh1.val (.g [.b, .l]) ((y7.2.2.fst), y7.2.2.2.1, ())] (.v (.o (.b))) fun y8 =>
    .br (!y8) (
      .ret [.bool (false)]) <|
    .nx 0 [.v (.int .i64 (Go.IntKind.i64.wrap (y3.fst + (1 : Int))))]) <|
  .ret [.bool (true)]
theorem fS_LedgerSame (x0 : SlV × SlV × ByteArray × SlV × PUnit) (x1 : SlV × SlV × ByteArray × SlV × PUnit) : fits Try.prog aS_LedgerSame 5 [Sh1.val (.g [.l, .l, .s, .l]) (x0), Sh1.val (.g [.l, .l, .s, .l]) (x1)] (tS_LedgerSame x0 x1) :=
  ⟨Try.f5, Try.f5.body.getD .skip, by kernel_rfl, by kernel_rfl, by kernel_rfl, by kernel_rfl, by kernel_rfl, by kernel_rfl⟩
/-! loop.example/g00793/laws.toLedger -/
def aL_toLedger : An := ⟨[], [], []⟩
noncomputable def tL_toLedger (x0 : SlV × SlV × ByteArray × SlV × PUnit) : T :=
  .call false 15 [Sh1.val (.g [.l]) (x0.1, ())] (.v (.g [.l])) fun y1 =>
  .call false 16 [Sc.val .l (x0.2.1)] (.v (.o (.l))) fun y2 =>
  .call false 17 [Sh1.val (.g [.s, .l]) (x0.2.2)] (.v (.g [.s, .l])) fun y3 =>
  .ret [Sh1.val (.g [.l, .l, .s, .l]) (y1.1, y2, (y3.fst), y3.2.1, ())]
theorem fL_toLedger (x0 : SlV × SlV × ByteArray × SlV × PUnit) : fits Try.prog aL_toLedger 6 [Sh1.val (.g [.l, .l, .s, .l]) (x0)] (tL_toLedger x0) :=
  ⟨Try.f6, Try.f6.body.getD .skip, by kernel_rfl, by kernel_rfl, by kernel_rfl, by kernel_rfl, by kernel_rfl, by kernel_rfl⟩
/-! loop.example/g00793/impl.LedgerSame -/
def aI_LedgerSame : An := ⟨[], [], []⟩
noncomputable def tI_LedgerSame (x0 : SlV × SlV × ByteArray × SlV × PUnit) (x1 : SlV × SlV × ByteArray × SlV × PUnit) : T :=
  .call false 18 [Sh1.val (.g [.l]) (x0.1, ()), Sh1.val (.g [.l]) (x1.1, ())] (.v (.o (.b))) fun y1 =>
  .br (y1) (
    .call false 19 [Sc.val .l (x0.2.1), Sc.val .l (x1.2.1)] (.v (.o (.b))) fun y2 =>
    .br (y2) (
      .br (ByteArray.toList x0.2.2.fst == ByteArray.toList x1.2.2.fst) (
        .call false 20 [Sc.val .l (x0.2.2.2.1), Sc.val .l (x1.2.2.2.1), (Go.Value.func (Go.Fn.func (21 : Nat)) { toList := [] : Array Go.Value } { toList := [] : Array Go.Value })] (.v (.o (.b))) fun y3 =>
        .ret [.bool (y3)]) <|
      .ret [.bool (false)]) <|
    .ret [.bool (false)]) <|
  .ret [.bool (false)]
theorem fI_LedgerSame (x0 : SlV × SlV × ByteArray × SlV × PUnit) (x1 : SlV × SlV × ByteArray × SlV × PUnit) : fits Try.prog aI_LedgerSame 7 [Sh1.val (.g [.l, .l, .s, .l]) (x0), Sh1.val (.g [.l, .l, .s, .l]) (x1)] (tI_LedgerSame x0 x1) :=
  ⟨Try.f7, Try.f7.body.getD .skip, by kernel_rfl, by kernel_rfl, by kernel_rfl, by kernel_rfl, by kernel_rfl, by kernel_rfl⟩
/-! loop.example/g00793/laws.eqLedger -/
def aL_eqLedger : An := ⟨[], [], []⟩
noncomputable def tL_eqLedger (x0 : SlV × SlV × ByteArray × SlV × PUnit) (x1 : SlV × SlV × ByteArray × SlV × PUnit) : T :=
  .call false 22 [Sh1.val (.g [.l]) (x0.1, ()), Sh1.val (.g [.l]) (x1.1, ())] (.v (.o (.b))) fun y1 =>
  .br (!y1) (
    .ret [.bool (false)]) <|
  .call false 23 [Sc.val .l (x0.2.1), Sc.val .l (x1.2.1)] (.v (.o (.b))) fun y2 =>
  .br (!y2) (
    .ret [.bool (false)]) <|
  .call false 24 [Sh1.val (.g [.s, .l]) (x0.2.2), Sh1.val (.g [.s, .l]) (x1.2.2)] (.v (.o (.b))) fun y3 =>
  .br (!y3) (
    .ret [.bool (false)]) <|
  .ret [.bool (true)]
theorem fL_eqLedger (x0 : SlV × SlV × ByteArray × SlV × PUnit) (x1 : SlV × SlV × ByteArray × SlV × PUnit) : fits Try.prog aL_eqLedger 8 [Sh1.val (.g [.l, .l, .s, .l]) (x0), Sh1.val (.g [.l, .l, .s, .l]) (x1)] (tL_eqLedger x0 x1) :=
  ⟨Try.f8, Try.f8.body.getD .skip, by kernel_rfl, by kernel_rfl, by kernel_rfl, by kernel_rfl, by kernel_rfl, by kernel_rfl⟩
/-! loop.example/g00793/laws.szBook -/
def aL_szBook : An := ⟨[], [], []⟩
noncomputable def tL_szBook (x0 : SlV × PUnit) (x1 : Int) : T :=
  .call false 25 [Sc.val .l (x0.1), .int .i64 (x1)] (.v (.o (.i .i64))) fun y1 =>
  .br (decide (y1 < (0 : Int))) (
    .ret [.int .i64 ((-1 : Int))]) <|
  .ret [.int .i64 (y1)]
theorem fL_szBook (x0 : SlV × PUnit) (x1 : Int) : fits Try.prog aL_szBook 9 [Sh1.val (.g [.l]) (x0), .int .i64 (x1)] (tL_szBook x0 x1) :=
  ⟨Try.f9, Try.f9.body.getD .skip, by kernel_rfl, by kernel_rfl, by kernel_rfl, by kernel_rfl, by kernel_rfl, by kernel_rfl⟩
/-! loop.example/g00793/laws.szRestS -/
def aL_szRestS : An := ⟨[(5, [.s 1, .s 5], [.o (.o (.i .i64)), .o (.o (.i .i64))])], [], []⟩
noncomputable def tL_szRestS (x0 : SlV) (x1 : Int) : T :=
  .br (decide (Go.IntKind.i64.wrap (x1 - (↑x0.n : Int)) < (0 : Int))) (
    .ret [.int .i64 ((-1 : Int))]) <|
  .lp [.o (.o (.i .i64)), .o (.o (.i .i64))] [.v (.int .i64 (Go.IntKind.i64.wrap (x1 - (↑x0.n : Int)))), .v (.int .i64 ((0 : Int)))] fun y1 =>
  .br (decide (y1.2.fst < (↑x0.n : Int))) (
    .el (x0.a) (x0.n) (y1.2.fst) fun y2 =>
    .ld false (y2.add (Int.toNat y1.2.fst * (4 : Nat))) (.g [.s, .b, .l, .l]) fun y3 =>
    .call false 26 [Sh1.val (.g [.s, .b, .l, .l]) (y3), .int .i64 (y1.fst)] (.v (.o (.i .i64))) fun y4 =>
    .br (decide (y4 < (0 : Int))) (
      .ret [.int .i64 ((-1 : Int))]) <|
    .nx 0 [.v (.int .i64 (y4)), .v (.int .i64 (Go.IntKind.i64.wrap (y1.2.fst + (1 : Int))))]) <|
  .ret [.int .i64 (y1.fst)]
theorem fL_szRestS (x0 : SlV) (x1 : Int) : fits Try.prog aL_szRestS 10 [Sc.val .l (x0), .int .i64 (x1)] (tL_szRestS x0 x1) :=
  ⟨Try.f10, Try.f10.body.getD .skip, by kernel_rfl, by kernel_rfl, by kernel_rfl, by kernel_rfl, by kernel_rfl, by kernel_rfl⟩
/-! loop.example/g00793/laws.szRates -/
def aL_szRates : An := ⟨[], [], []⟩
noncomputable def tL_szRates (x0 : ByteArray × SlV × PUnit) (x1 : Int) : T :=
  .br (decide (Go.IntKind.i64.wrap (x1 - (↑(ByteArray.size x0.fst) : Int)) < (0 : Int))) (
    .ret [.int .i64 ((-1 : Int))]) <|
  .call false 27 [Sc.val .l (x0.2.1), .int .i64 (Go.IntKind.i64.wrap (x1 - (↑(ByteArray.size x0.fst) : Int)))] (.v (.o (.i .i64))) fun y1 =>
  .br (decide (y1 < (0 : Int))) (
    .ret [.int .i64 ((-1 : Int))]) <|
  .ret [.int .i64 (y1)]
theorem fL_szRates (x0 : ByteArray × SlV × PUnit) (x1 : Int) : fits Try.prog aL_szRates 11 [Sh1.val (.g [.s, .l]) (x0), .int .i64 (x1)] (tL_szRates x0 x1) :=
  ⟨Try.f11, Try.f11.body.getD .skip, by kernel_rfl, by kernel_rfl, by kernel_rfl, by kernel_rfl, by kernel_rfl, by kernel_rfl⟩
/-! loop.example/g00793/spec.BookSame -/
def aS_BookSame : An := ⟨[(4, [.s 17], [.o (.o (.i .i64))])], [], []⟩
noncomputable def tS_BookSame (x0 : SlV × PUnit) (x1 : SlV × PUnit) : T :=
  .br ((↑x0.1.n : Int) != (↑x1.1.n : Int)) (
    .ret [.bool (false)]) <|
  .lp [.o (.o (.i .i64))] [.v (.int .i64 ((0 : Int)))] fun y1 =>
  .br (decide (y1.fst < (↑x0.1.n : Int))) (
    .el (x0.1.a) (x0.1.n) (y1.fst) fun y2 =>
    .ld false (y2.add (Int.toNat y1.fst * (4 : Nat))) (.g [.s, .s, .b, .l]) fun y3 =>
    .rg <|
    .el (x1.1.a) (x1.1.n) (y1.fst) fun y4 =>
    .ld true ((y4.add (Int.toNat y1.fst * (4 : Nat))).add (0 : Nat)) (.o (.s)) fun y5 =>
    .br (!ByteArray.toList y3.fst == y5.toList) (
      .ret [.bool (false)]) <|
    .el (x1.1.a) (x1.1.n) (y1.fst) fun y6 =>
    .ld true ((y6.add (Int.toNat y1.fst * (4 : Nat))).add (1 : Nat)) (.g [.s, .b, .l]) fun y7 =>
    .call true 28 [Sh1.val (.g [.s, .b, .l]) (y3.2), Sh1.val (.g [.s, .b, .l]) (y7)] (.v (.o (.b))) fun y8 =>
    .br (!y8) (
      .ret [.bool (false)]) <|
    .nx 0 [.v (.int .i64 (Go.IntKind.i64.wrap (y1.fst + (1 : Int))))]) <|
  .ret [.bool (true)]
theorem fS_BookSame (x0 : SlV × PUnit) (x1 : SlV × PUnit) : fits Try.prog aS_BookSame 12 [Sh1.val (.g [.l]) (x0), Sh1.val (.g [.l]) (x1)] (tS_BookSame x0 x1) :=
  ⟨Try.f12, Try.f12.body.getD .skip, by kernel_rfl, by kernel_rfl, by kernel_rfl, by kernel_rfl, by kernel_rfl, by kernel_rfl⟩
/-! loop.example/g00793/spec.RestsSame -/
def aS_RestsSame : An := ⟨[(4, [.s 15], [.o (.o (.i .i64))])], [], []⟩
noncomputable def tS_RestsSame (x0 : SlV) (x1 : SlV) : T :=
  .br ((↑x0.n : Int) != (↑x1.n : Int)) (
    .ret [.bool (false)]) <|
  .lp [.o (.o (.i .i64))] [.v (.int .i64 ((0 : Int)))] fun y1 =>
  .br (decide (y1.fst < (↑x0.n : Int))) (
    .el (x0.a) (x0.n) (y1.fst) fun y2 =>
    .ld false (y2.add (Int.toNat y1.fst * (4 : Nat))) (.g [.s, .b, .l, .l]) fun y3 =>
    .el (x1.a) (x1.n) (y1.fst) fun y4 =>
    .ld false (y4.add (Int.toNat y1.fst * (4 : Nat))) (.g [.s, .b, .l, .l]) fun y5 =>
    .br (!ByteArray.toList y3.fst == ByteArray.toList y5.fst) (
      .ret [.bool (false)]) <|
    .call false 14 [Sh1.val (.g [.b, .l]) ((y3.2.fst), y3.2.2.1, ()), Sh1.val (.g [.b, .l]) ((y5.2.fst), y5.2.2.1, ())] (.v (.o (.b))) fun y6 =>
    .br (!y6) (
      .ret [.bool (false)]) <|
    .call false 29 [Sc.val .l (y3.2.2.2.1), Sc.val .l (y5.2.2.2.1)] (.v (.o (.i .i64))) fun y7 =>
    .br (y7 != (0 : Int)) (
      .ret [.bool (false)]) <|
    .nx 0 [.v (.int .i64 (Go.IntKind.i64.wrap (y1.fst + (1 : Int))))]) <|
  .ret [.bool (true)]
theorem fS_RestsSame (x0 : SlV) (x1 : SlV) : fits Try.prog aS_RestsSame 13 [Sc.val .l (x0), Sc.val .l (x1)] (tS_RestsSame x0 x1) :=
  ⟨Try.f13, Try.f13.body.getD .skip, by kernel_rfl, by kernel_rfl, by kernel_rfl, by kernel_rfl, by kernel_rfl, by kernel_rfl⟩
/-! loop.example/g00793/spec.l09Same -/
def aS_l09Same : An := ⟨[], [], []⟩
noncomputable def tS_l09Same (x0 : Bool × SlV × PUnit) (x1 : Bool × SlV × PUnit) : T :=
  .br (x0.fst == x1.fst) (
    .call false 29 [Sc.val .l (x0.2.1), Sc.val .l (x1.2.1)] (.v (.o (.i .i64))) fun y1 =>
    .ret [.bool (y1 == (0 : Int))]) <|
  .ret [.bool (false)]
theorem fS_l09Same (x0 : Bool × SlV × PUnit) (x1 : Bool × SlV × PUnit) : fits Try.prog aS_l09Same 14 [Sh1.val (.g [.b, .l]) (x0), Sh1.val (.g [.b, .l]) (x1)] (tS_l09Same x0 x1) :=
  ⟨Try.f14, Try.f14.body.getD .skip, by kernel_rfl, by kernel_rfl, by kernel_rfl, by kernel_rfl, by kernel_rfl, by kernel_rfl⟩
/-! loop.example/g00793/laws.toBook -/
def aL_toBook : An := ⟨[], [], []⟩
noncomputable def tL_toBook (x0 : SlV × PUnit) : T :=
  .call false 30 [Sc.val .l (x0.1)] (.v (.o (.l))) fun y1 =>
  .ret [Sh1.val (.g [.l]) (y1, ())]
theorem fL_toBook (x0 : SlV × PUnit) : fits Try.prog aL_toBook 15 [Sh1.val (.g [.l]) (x0)] (tL_toBook x0) :=
  ⟨Try.f15, Try.f15.body.getD .skip, by kernel_rfl, by kernel_rfl, by kernel_rfl, by kernel_rfl, by kernel_rfl, by kernel_rfl⟩
/-! loop.example/g00793/laws.toRestS -/
def aL_toRestS : An := ⟨[(3, [.s 3, .s 4], [.a 79, .o (.o (.i .i64))])], [], []⟩
noncomputable def tL_toRestS (x0 : SlV) : T :=
  .rq ((0 : Int) ≤ (↑x0.n : Int) ∧ (↑x0.n : Int) ≤ (↑x0.n : Int) ∧ (↑(72 : Nat) : Int) * (↑x0.n : Int) ≤ (281474976710656 : Int) ∧ (↑x0.n : Int) ≤ (9223372036854775807 : Int)) <|
  .lp [.a 79, .o (.o (.i .i64))] [.a 79 ((↑x0.n : Int).toNat) ((Go.madeCells { toList := [Go.Value.string { data := { toList := [] : Array UInt8 } : ByteArray }, Go.Value.bool false, Go.Value.slice none (0 : Nat) (0 : Nat), Go.Value.slice none (0 : Nat) (0 : Nat)] : Array Go.Value } ((↑x0.n : Int).toNat * (4 : Nat))).toList), .v (.int .i64 ((0 : Int)))] fun y1 =>
  .br (decide (y1.2.fst < (↑x0.n : Int))) (
    .el (x0.a) (x0.n) (y1.2.fst) fun y2 =>
    .ld false (y2.add (Int.toNat y1.2.fst * (4 : Nat))) (.g [.s, .b, .l, .l]) fun y3 =>
    .call false 31 [Sh1.val (.g [.s, .b, .l, .l]) (y3)] (.v (.g [.s, .b, .l, .l])) fun y4 =>
    .rq ((0 : Int) ≤ y1.2.fst ∧ y1.2.fst < (↑y1.1.fst : Int)) <|
    .rq (Int.toNat y1.2.fst * (4 : Nat) + [Go.Value.string y4.fst, Go.Value.bool y4.2.fst, Go.Value.slice y4.2.2.1.a y4.2.2.1.n y4.2.2.1.c, Go.Value.slice y4.2.2.2.1.a y4.2.2.2.1.n y4.2.2.2.1.c].length ≤ y1.1.snd.length) <|
    .nx 0 [.a 79 (y1.1.fst) (setl y1.1.snd (Int.toNat y1.2.fst * (4 : Nat)) [Go.Value.string y4.fst, Go.Value.bool y4.2.fst, Go.Value.slice y4.2.2.1.a y4.2.2.1.n y4.2.2.1.c, Go.Value.slice y4.2.2.2.1.a y4.2.2.2.1.n y4.2.2.2.1.c]), .v (.int .i64 (Go.IntKind.i64.wrap (y1.2.fst + (1 : Int))))]) <|
  .fz (y1.1.fst) (y1.1.snd) 79 fun b2 c2 =>
  .ret [.slice (some { block := b2, off := (0 : Nat) : Go.Addr }) (y1.1.fst) (c2)]
theorem fL_toRestS (x0 : SlV) : fits Try.prog aL_toRestS 16 [Sc.val .l (x0)] (tL_toRestS x0) :=
  ⟨Try.f16, Try.f16.body.getD .skip, by kernel_rfl, by kernel_rfl, by kernel_rfl, by kernel_rfl, by kernel_rfl, by kernel_rfl⟩
/-! loop.example/g00793/laws.toRates -/
def aL_toRates : An := ⟨[], [], []⟩
noncomputable def tL_toRates (x0 : ByteArray × SlV × PUnit) : T :=
  .call false 32 [Sc.val .l (x0.2.1)] (.v (.o (.l))) fun y1 =>
  .ret [Sh1.val (.g [.s, .l]) ((x0.fst), y1, ())]
theorem fL_toRates (x0 : ByteArray × SlV × PUnit) : fits Try.prog aL_toRates 17 [Sh1.val (.g [.s, .l]) (x0)] (tL_toRates x0) :=
  ⟨Try.f17, Try.f17.body.getD .skip, by kernel_rfl, by kernel_rfl, by kernel_rfl, by kernel_rfl, by kernel_rfl, by kernel_rfl⟩
/-! loop.example/g00793/impl.BookSame -/
def aI_BookSame : An := ⟨[], [], []⟩
noncomputable def tI_BookSame (x0 : SlV × PUnit) (x1 : SlV × PUnit) : T :=
  .call false 33 [Sc.val .l (x0.1), Sc.val .l (x1.1), (Go.Value.func (Go.Fn.func (34 : Nat)) { toList := [] : Array Go.Value } { toList := [] : Array Go.Value })] (.v (.o (.b))) fun y1 =>
  .ret [.bool (y1)]
theorem fI_BookSame (x0 : SlV × PUnit) (x1 : SlV × PUnit) : fits Try.prog aI_BookSame 18 [Sh1.val (.g [.l]) (x0), Sh1.val (.g [.l]) (x1)] (tI_BookSame x0 x1) :=
  ⟨Try.f18, Try.f18.body.getD .skip, by kernel_rfl, by kernel_rfl, by kernel_rfl, by kernel_rfl, by kernel_rfl, by kernel_rfl⟩
/-! loop.example/g00793/impl.RestsSame -/
def aI_RestsSame : An := ⟨[], [], []⟩
noncomputable def tI_RestsSame (x0 : SlV) (x1 : SlV) : T :=
  .call false 36 [Sc.val .l (x0), Sc.val .l (x1), (Go.Value.func (Go.Fn.func (37 : Nat)) { toList := [] : Array Go.Value } { toList := [] : Array Go.Value })] (.v (.o (.b))) fun y1 =>
  .ret [.bool (y1)]
theorem fI_RestsSame (x0 : SlV) (x1 : SlV) : fits Try.prog aI_RestsSame 19 [Sc.val .l (x0), Sc.val .l (x1)] (tI_RestsSame x0 x1) :=
  ⟨Try.f19, Try.f19.body.getD .skip, by kernel_rfl, by kernel_rfl, by kernel_rfl, by kernel_rfl, by kernel_rfl, by kernel_rfl⟩
/-! slices.EqualFunc[[]loop.example/g00793/impl.Rate,[]loop.example/g00793/impl.Rate,loop.example/g00793/impl.Rate,loop.example/g00793/impl.Rate] -/
def aX_EqualFunc_Rate : An := ⟨[(4, [.s 17], [.o (.o (.i .i64))])], [], []⟩
noncomputable def tX_EqualFunc_Rate (x0 : SlV) (x1 : SlV) : T :=
  .br ((↑x0.n : Int) != (↑x1.n : Int)) (
    .ret [.bool (false)]) <|
  .lp [.o (.o (.i .i64))] [.v (.int .i64 ((0 : Int)))] fun y1 =>
  .br (decide (y1.fst < (↑x0.n : Int))) (
    .el (x0.a) (x0.n) (y1.fst) fun y2 =>
    .ld false (y2.add (Int.toNat y1.fst * (5 : Nat))) (.g [.s, .s, .b, .l, .i .i64]) fun y3 =>
    .el (x1.a) (x1.n) (y1.fst) fun y4 =>
    .ld false (y4.add (Int.toNat y1.fst * (5 : Nat))) (.g [.s, .s, .b, .l, .i .i64]) fun y5 =>
    .call false 21 [Sh1.val (.g [.s, .s, .b, .l, .i .i64]) (y3), Sh1.val (.g [.s, .s, .b, .l, .i .i64]) (y5)] (.v (.o (.b))) fun y6 =>
    .br (!y6) (
      .ret [.bool (false)]) <|
    .nx 0 [.v (.int .i64 (Go.IntKind.i64.wrap (y1.fst + (1 : Int))))]) <|
  .ret [.bool (true)]
theorem fX_EqualFunc_Rate (x0 : SlV) (x1 : SlV) : fits Try.prog aX_EqualFunc_Rate 20 [Sc.val .l (x0), Sc.val .l (x1), (Go.Value.func (Go.Fn.func (21 : Go.FuncId)) { toList := [] : Array Go.Value } { toList := [] : Array Go.Value })] (tX_EqualFunc_Rate x0 x1) :=
  ⟨Try.f20, Try.f20.body.getD .skip, by kernel_rfl, by kernel_rfl, by kernel_rfl, by kernel_rfl, by kernel_rfl, by kernel_rfl⟩
/-! loop.example/g00793/impl.rateSame -/
def aI_rateSame : An := ⟨[], [], []⟩
noncomputable def tI_rateSame (x0 : ByteArray × ByteArray × Bool × SlV × Int × PUnit) (x1 : ByteArray × ByteArray × Bool × SlV × Int × PUnit) : T :=
  .br (ByteArray.toList x0.fst == ByteArray.toList x1.fst) (
    .br (ByteArray.toList x0.2.fst == ByteArray.toList x1.2.fst) (
      .call false 39 [Sh1.val (.g [.b, .l, .i .i64]) (x0.2.2), Sh1.val (.g [.b, .l, .i .i64]) (x1.2.2)] (.v (.o (.b))) fun y1 =>
      .ret [.bool (y1)]) <|
    .ret [.bool (false)]) <|
  .ret [.bool (false)]
theorem fI_rateSame (x0 : ByteArray × ByteArray × Bool × SlV × Int × PUnit) (x1 : ByteArray × ByteArray × Bool × SlV × Int × PUnit) : fits Try.prog aI_rateSame 21 [Sh1.val (.g [.s, .s, .b, .l, .i .i64]) (x0), Sh1.val (.g [.s, .s, .b, .l, .i .i64]) (x1)] (tI_rateSame x0 x1) :=
  ⟨Try.f21, Try.f21.body.getD .skip, by kernel_rfl, by kernel_rfl, by kernel_rfl, by kernel_rfl, by kernel_rfl, by kernel_rfl⟩
/-! loop.example/g00793/laws.eqBook -/
def aL_eqBook : An := ⟨[], [], []⟩
noncomputable def tL_eqBook (x0 : SlV × PUnit) (x1 : SlV × PUnit) : T :=
  .call false 40 [Sc.val .l (x0.1), Sc.val .l (x1.1)] (.v (.o (.b))) fun y1 =>
  .br (!y1) (
    .ret [.bool (false)]) <|
  .ret [.bool (true)]
theorem fL_eqBook (x0 : SlV × PUnit) (x1 : SlV × PUnit) : fits Try.prog aL_eqBook 22 [Sh1.val (.g [.l]) (x0), Sh1.val (.g [.l]) (x1)] (tL_eqBook x0 x1) :=
  ⟨Try.f22, Try.f22.body.getD .skip, by kernel_rfl, by kernel_rfl, by kernel_rfl, by kernel_rfl, by kernel_rfl, by kernel_rfl⟩
/-! loop.example/g00793/laws.eqRestS -/
def aL_eqRestS : An := ⟨[(4, [.s 5], [.o (.o (.i .i64))])], [], []⟩
noncomputable def tL_eqRestS (x0 : SlV) (x1 : SlV) : T :=
  .br ((↑x0.n : Int) != (↑x1.n : Int)) (
    .ret [.bool (false)]) <|
  .lp [.o (.o (.i .i64))] [.v (.int .i64 ((0 : Int)))] fun y1 =>
  .br (decide (y1.fst < (↑x0.n : Int))) (
    .rg <|
    .el (x0.a) (x0.n) (y1.fst) fun y2 =>
    .ld true (y2.add (Int.toNat y1.fst * (4 : Nat))) (.g [.s, .b, .l, .l]) fun y3 =>
    .el (x1.a) (x1.n) (y1.fst) fun y4 =>
    .ld true (y4.add (Int.toNat y1.fst * (4 : Nat))) (.g [.s, .b, .l, .l]) fun y5 =>
    .call true 41 [Sh1.val (.g [.s, .b, .l, .l]) (y3), Sh1.val (.g [.s, .b, .l, .l]) (y5)] (.v (.o (.b))) fun y6 =>
    .br (!y6) (
      .ret [.bool (false)]) <|
    .nx 0 [.v (.int .i64 (Go.IntKind.i64.wrap (y1.fst + (1 : Int))))]) <|
  .ret [.bool (true)]
theorem fL_eqRestS (x0 : SlV) (x1 : SlV) : fits Try.prog aL_eqRestS 23 [Sc.val .l (x0), Sc.val .l (x1)] (tL_eqRestS x0 x1) :=
  ⟨Try.f23, Try.f23.body.getD .skip, by kernel_rfl, by kernel_rfl, by kernel_rfl, by kernel_rfl, by kernel_rfl, by kernel_rfl⟩
/-! loop.example/g00793/laws.eqRates -/
def aL_eqRates : An := ⟨[], [], []⟩
noncomputable def tL_eqRates (x0 : ByteArray × SlV × PUnit) (x1 : ByteArray × SlV × PUnit) : T :=
  .br (!ByteArray.toList x0.fst == ByteArray.toList x1.fst) (
    .ret [.bool (false)]) <|
  .call false 42 [Sc.val .l (x0.2.1), Sc.val .l (x1.2.1)] (.v (.o (.b))) fun y1 =>
  .br (!y1) (
    .ret [.bool (false)]) <|
  .ret [.bool (true)]
theorem fL_eqRates (x0 : ByteArray × SlV × PUnit) (x1 : ByteArray × SlV × PUnit) : fits Try.prog aL_eqRates 24 [Sh1.val (.g [.s, .l]) (x0), Sh1.val (.g [.s, .l]) (x1)] (tL_eqRates x0 x1) :=
  ⟨Try.f24, Try.f24.body.getD .skip, by kernel_rfl, by kernel_rfl, by kernel_rfl, by kernel_rfl, by kernel_rfl, by kernel_rfl⟩
/-! loop.example/g00793/laws.szAcctS -/
def aL_szAcctS : An := ⟨[(5, [.s 1, .s 5], [.o (.o (.i .i64)), .o (.o (.i .i64))])], [], []⟩
noncomputable def tL_szAcctS (x0 : SlV) (x1 : Int) : T :=
  .br (decide (Go.IntKind.i64.wrap (x1 - (↑x0.n : Int)) < (0 : Int))) (
    .ret [.int .i64 ((-1 : Int))]) <|
  .lp [.o (.o (.i .i64)), .o (.o (.i .i64))] [.v (.int .i64 (Go.IntKind.i64.wrap (x1 - (↑x0.n : Int)))), .v (.int .i64 ((0 : Int)))] fun y1 =>
  .br (decide (y1.2.fst < (↑x0.n : Int))) (
    .el (x0.a) (x0.n) (y1.2.fst) fun y2 =>
    .ld false (y2.add (Int.toNat y1.2.fst * (4 : Nat))) (.g [.s, .s, .b, .l]) fun y3 =>
    .call false 43 [Sh1.val (.g [.s, .s, .b, .l]) (y3), .int .i64 (y1.fst)] (.v (.o (.i .i64))) fun y4 =>
    .br (decide (y4 < (0 : Int))) (
      .ret [.int .i64 ((-1 : Int))]) <|
    .nx 0 [.v (.int .i64 (y4)), .v (.int .i64 (Go.IntKind.i64.wrap (y1.2.fst + (1 : Int))))]) <|
  .ret [.int .i64 (y1.fst)]
theorem fL_szAcctS (x0 : SlV) (x1 : Int) : fits Try.prog aL_szAcctS 25 [Sc.val .l (x0), .int .i64 (x1)] (tL_szAcctS x0 x1) :=
  ⟨Try.f25, Try.f25.body.getD .skip, by kernel_rfl, by kernel_rfl, by kernel_rfl, by kernel_rfl, by kernel_rfl, by kernel_rfl⟩
/-! loop.example/g00793/laws.szRest -/
def aL_szRest : An := ⟨[], [], []⟩
noncomputable def tL_szRest (x0 : ByteArray × Bool × SlV × SlV × PUnit) (x1 : Int) : T :=
  .br (decide (Go.IntKind.i64.wrap (x1 - (↑(ByteArray.size x0.fst) : Int)) < (0 : Int))) (
    .ret [.int .i64 ((-1 : Int))]) <|
  .call false 44 [Sh1.val (.g [.b, .l, .l]) (x0.2), .int .i64 (Go.IntKind.i64.wrap (x1 - (↑(ByteArray.size x0.fst) : Int)))] (.v (.o (.i .i64))) fun y1 =>
  .br (decide (y1 < (0 : Int))) (
    .ret [.int .i64 ((-1 : Int))]) <|
  .ret [.int .i64 (y1)]
theorem fL_szRest (x0 : ByteArray × Bool × SlV × SlV × PUnit) (x1 : Int) : fits Try.prog aL_szRest 26 [Sh1.val (.g [.s, .b, .l, .l]) (x0), .int .i64 (x1)] (tL_szRest x0 x1) :=
  ⟨Try.f26, Try.f26.body.getD .skip, by kernel_rfl, by kernel_rfl, by kernel_rfl, by kernel_rfl, by kernel_rfl, by kernel_rfl⟩
/-! loop.example/g00793/laws.szRateS -/
def aL_szRateS : An := ⟨[(5, [.s 1, .s 5], [.o (.o (.i .i64)), .o (.o (.i .i64))])], [], []⟩
noncomputable def tL_szRateS (x0 : SlV) (x1 : Int) : T :=
  .br (decide (Go.IntKind.i64.wrap (x1 - (↑x0.n : Int)) < (0 : Int))) (
    .ret [.int .i64 ((-1 : Int))]) <|
  .lp [.o (.o (.i .i64)), .o (.o (.i .i64))] [.v (.int .i64 (Go.IntKind.i64.wrap (x1 - (↑x0.n : Int)))), .v (.int .i64 ((0 : Int)))] fun y1 =>
  .br (decide (y1.2.fst < (↑x0.n : Int))) (
    .el (x0.a) (x0.n) (y1.2.fst) fun y2 =>
    .ld false (y2.add (Int.toNat y1.2.fst * (5 : Nat))) (.g [.s, .s, .b, .l, .i .i64]) fun y3 =>
    .call false 45 [Sh1.val (.g [.s, .s, .b, .l, .i .i64]) (y3), .int .i64 (y1.fst)] (.v (.o (.i .i64))) fun y4 =>
    .br (decide (y4 < (0 : Int))) (
      .ret [.int .i64 ((-1 : Int))]) <|
    .nx 0 [.v (.int .i64 (y4)), .v (.int .i64 (Go.IntKind.i64.wrap (y1.2.fst + (1 : Int))))]) <|
  .ret [.int .i64 (y1.fst)]
theorem fL_szRateS (x0 : SlV) (x1 : Int) : fits Try.prog aL_szRateS 27 [Sc.val .l (x0), .int .i64 (x1)] (tL_szRateS x0 x1) :=
  ⟨Try.f27, Try.f27.body.getD .skip, by kernel_rfl, by kernel_rfl, by kernel_rfl, by kernel_rfl, by kernel_rfl, by kernel_rfl⟩
/-! loop.example/g00793/spec.MoneySame -/
def aS_MoneySame : An := ⟨[], [], []⟩
noncomputable def tS_MoneySame (x0 : ByteArray × Bool × SlV × PUnit) (x1 : ByteArray × Bool × SlV × PUnit) : T :=
  .br (ByteArray.toList x0.fst == ByteArray.toList x1.fst) (
    .call false 14 [Sh1.val (.g [.b, .l]) (x0.2), Sh1.val (.g [.b, .l]) (x1.2)] (.v (.o (.b))) fun y1 =>
    .ret [.bool (y1)]) <|
  .ret [.bool (false)]
theorem fS_MoneySame (x0 : ByteArray × Bool × SlV × PUnit) (x1 : ByteArray × Bool × SlV × PUnit) : fits Try.prog aS_MoneySame 28 [Sh1.val (.g [.s, .b, .l]) (x0), Sh1.val (.g [.s, .b, .l]) (x1)] (tS_MoneySame x0 x1) :=
  ⟨Try.f28, Try.f28.body.getD .skip, by kernel_rfl, by kernel_rfl, by kernel_rfl, by kernel_rfl, by kernel_rfl, by kernel_rfl⟩
/-! loop.example/g00793/spec.l02Cmp -/
def aS_l02Cmp : An := ⟨[(6, [.s 5], [.o (.o (.i .i64))])], [], []⟩
noncomputable def tS_l02Cmp (x0 : SlV) (x1 : SlV) : T :=
  .br ((↑x0.n : Int) != (↑x1.n : Int)) (
    .br (decide ((↑x0.n : Int) < (↑x1.n : Int))) (
      .ret [.int .i64 ((-1 : Int))]) <|
    .ret [.int .i64 ((1 : Int))]) <|
  .lp [.o (.o (.i .i64))] [.v (.int .i64 (Go.IntKind.i64.wrap ((↑x0.n : Int) - (1 : Int))))] fun y1 =>
  .br (decide (y1.fst ≥ (0 : Int))) (
    .rg <|
    .el (x0.a) (x0.n) (y1.fst) fun y2 =>
    .ld true (y2.add (Int.toNat y1.fst * (1 : Nat))) (.o (.i .i64)) fun y3 =>
    .el (x1.a) (x1.n) (y1.fst) fun y4 =>
    .ld true (y4.add (Int.toNat y1.fst * (1 : Nat))) (.o (.i .i64)) fun y5 =>
    .br (decide (y3 < y5)) (
      .ret [.int .i64 ((-1 : Int))]) <|
    .rg <|
    .el (x0.a) (x0.n) (y1.fst) fun y6 =>
    .ld true (y6.add (Int.toNat y1.fst * (1 : Nat))) (.o (.i .i64)) fun y7 =>
    .el (x1.a) (x1.n) (y1.fst) fun y8 =>
    .ld true (y8.add (Int.toNat y1.fst * (1 : Nat))) (.o (.i .i64)) fun y9 =>
    .br (decide (y7 > y9)) (
      .ret [.int .i64 ((1 : Int))]) <|
    .nx 0 [.v (.int .i64 (Go.IntKind.i64.wrap (y1.fst - (1 : Int))))]) <|
  .ret [.int .i64 ((0 : Int))]
theorem fS_l02Cmp (x0 : SlV) (x1 : SlV) : fits Try.prog aS_l02Cmp 29 [Sc.val .l (x0), Sc.val .l (x1)] (tS_l02Cmp x0 x1) :=
  ⟨Try.f29, Try.f29.body.getD .skip, by kernel_rfl, by kernel_rfl, by kernel_rfl, by kernel_rfl, by kernel_rfl, by kernel_rfl⟩
/-! loop.example/g00793/laws.toAcctS -/
def aL_toAcctS : An := ⟨[(3, [.s 3, .s 4], [.a 74, .o (.o (.i .i64))])], [], []⟩
noncomputable def tL_toAcctS (x0 : SlV) : T :=
  .rq ((0 : Int) ≤ (↑x0.n : Int) ∧ (↑x0.n : Int) ≤ (↑x0.n : Int) ∧ (↑(64 : Nat) : Int) * (↑x0.n : Int) ≤ (281474976710656 : Int) ∧ (↑x0.n : Int) ≤ (9223372036854775807 : Int)) <|
  .lp [.a 74, .o (.o (.i .i64))] [.a 74 ((↑x0.n : Int).toNat) ((Go.madeCells { toList := [Go.Value.string { data := { toList := [] : Array UInt8 } : ByteArray }, Go.Value.string { data := { toList := [] : Array UInt8 } : ByteArray }, Go.Value.bool false, Go.Value.slice none (0 : Nat) (0 : Nat)] : Array Go.Value } ((↑x0.n : Int).toNat * (4 : Nat))).toList), .v (.int .i64 ((0 : Int)))] fun y1 =>
  .br (decide (y1.2.fst < (↑x0.n : Int))) (
    .el (x0.a) (x0.n) (y1.2.fst) fun y2 =>
    .ld false (y2.add (Int.toNat y1.2.fst * (4 : Nat))) (.g [.s, .s, .b, .l]) fun y3 =>
    .call false 46 [Sh1.val (.g [.s, .s, .b, .l]) (y3)] (.v (.g [.s, .s, .b, .l])) fun y4 =>
    .rq ((0 : Int) ≤ y1.2.fst ∧ y1.2.fst < (↑y1.1.fst : Int)) <|
    .rq (Int.toNat y1.2.fst * (4 : Nat) + [Go.Value.string y4.fst, Go.Value.string y4.2.fst, Go.Value.bool y4.2.2.fst, Go.Value.slice y4.2.2.2.1.a y4.2.2.2.1.n y4.2.2.2.1.c].length ≤ y1.1.snd.length) <|
    .nx 0 [.a 74 (y1.1.fst) (setl y1.1.snd (Int.toNat y1.2.fst * (4 : Nat)) [Go.Value.string y4.fst, Go.Value.string y4.2.fst, Go.Value.bool y4.2.2.fst, Go.Value.slice y4.2.2.2.1.a y4.2.2.2.1.n y4.2.2.2.1.c]), .v (.int .i64 (Go.IntKind.i64.wrap (y1.2.fst + (1 : Int))))]) <|
  .fz (y1.1.fst) (y1.1.snd) 74 fun b2 c2 =>
  .ret [.slice (some { block := b2, off := (0 : Nat) : Go.Addr }) (y1.1.fst) (c2)]
theorem fL_toAcctS (x0 : SlV) : fits Try.prog aL_toAcctS 30 [Sc.val .l (x0)] (tL_toAcctS x0) :=
  ⟨Try.f30, Try.f30.body.getD .skip, by kernel_rfl, by kernel_rfl, by kernel_rfl, by kernel_rfl, by kernel_rfl, by kernel_rfl⟩
/-! loop.example/g00793/laws.toRest -/
def aL_toRest : An := ⟨[], [], []⟩
noncomputable def tL_toRest (x0 : ByteArray × Bool × SlV × SlV × PUnit) : T :=
  .call false 47 [Sh1.val (.g [.b, .l, .l]) (x0.2)] (.v (.g [.b, .l, .l])) fun y1 =>
  .ret [Sh1.val (.g [.s, .b, .l, .l]) ((x0.fst), (y1.fst), y1.2.1, y1.2.2.1, ())]
theorem fL_toRest (x0 : ByteArray × Bool × SlV × SlV × PUnit) : fits Try.prog aL_toRest 31 [Sh1.val (.g [.s, .b, .l, .l]) (x0)] (tL_toRest x0) :=
  ⟨Try.f31, Try.f31.body.getD .skip, by kernel_rfl, by kernel_rfl, by kernel_rfl, by kernel_rfl, by kernel_rfl, by kernel_rfl⟩
/-! loop.example/g00793/laws.toRateS -/
def aL_toRateS : An := ⟨[(3, [.s 3, .s 4], [.a 55, .o (.o (.i .i64))])], [], []⟩
noncomputable def tL_toRateS (x0 : SlV) : T :=
  .rq ((0 : Int) ≤ (↑x0.n : Int) ∧ (↑x0.n : Int) ≤ (↑x0.n : Int) ∧ (↑(72 : Nat) : Int) * (↑x0.n : Int) ≤ (281474976710656 : Int) ∧ (↑x0.n : Int) ≤ (9223372036854775807 : Int)) <|
  .lp [.a 55, .o (.o (.i .i64))] [.a 55 ((↑x0.n : Int).toNat) ((Go.madeCells { toList := [Go.Value.string { data := { toList := [] : Array UInt8 } : ByteArray }, Go.Value.string { data := { toList := [] : Array UInt8 } : ByteArray }, Go.Value.bool false, Go.Value.slice none (0 : Nat) (0 : Nat), Go.Value.int Go.IntKind.i64 (0 : Int)] : Array Go.Value } ((↑x0.n : Int).toNat * (5 : Nat))).toList), .v (.int .i64 ((0 : Int)))] fun y1 =>
  .br (decide (y1.2.fst < (↑x0.n : Int))) (
    .el (x0.a) (x0.n) (y1.2.fst) fun y2 =>
    .ld false (y2.add (Int.toNat y1.2.fst * (5 : Nat))) (.g [.s, .s, .b, .l, .i .i64]) fun y3 =>
    .call false 48 [Sh1.val (.g [.s, .s, .b, .l, .i .i64]) (y3)] (.v (.g [.s, .s, .b, .l, .i .i64])) fun y4 =>
    .rq ((0 : Int) ≤ y1.2.fst ∧ y1.2.fst < (↑y1.1.fst : Int)) <|
    .rq (Int.toNat y1.2.fst * (5 : Nat) + [Go.Value.string y4.fst, Go.Value.string y4.2.fst, Go.Value.bool y4.2.2.fst, Go.Value.slice y4.2.2.2.1.a y4.2.2.2.1.n y4.2.2.2.1.c, Go.Value.int Go.IntKind.i64 y4.2.2.2.2.fst].length ≤ y1.1.snd.length) <|
    .nx 0 [.a 55 (y1.1.fst) (setl y1.1.snd (Int.toNat y1.2.fst * (5 : Nat)) [Go.Value.string y4.fst, Go.Value.string y4.2.fst, Go.Value.bool y4.2.2.fst, Go.Value.slice y4.2.2.2.1.a y4.2.2.2.1.n y4.2.2.2.1.c, Go.Value.int Go.IntKind.i64 y4.2.2.2.2.fst]), .v (.int .i64 (Go.IntKind.i64.wrap (y1.2.fst + (1 : Int))))]) <|
  .fz (y1.1.fst) (y1.1.snd) 55 fun b2 c2 =>
  .ret [.slice (some { block := b2, off := (0 : Nat) : Go.Addr }) (y1.1.fst) (c2)]
theorem fL_toRateS (x0 : SlV) : fits Try.prog aL_toRateS 32 [Sc.val .l (x0)] (tL_toRateS x0) :=
  ⟨Try.f32, Try.f32.body.getD .skip, by kernel_rfl, by kernel_rfl, by kernel_rfl, by kernel_rfl, by kernel_rfl, by kernel_rfl⟩
/-! slices.EqualFunc[[]loop.example/g00793/impl.Acct,[]loop.example/g00793/impl.Acct,loop.example/g00793/impl.Acct,loop.example/g00793/impl.Acct] -/
def aX_EqualFunc_Acct : An := ⟨[(4, [.s 17], [.o (.o (.i .i64))])], [], []⟩
noncomputable def tX_EqualFunc_Acct (x0 : SlV) (x1 : SlV) : T :=
  .br ((↑x0.n : Int) != (↑x1.n : Int)) (
    .ret [.bool (false)]) <|
  .lp [.o (.o (.i .i64))] [.v (.int .i64 ((0 : Int)))] fun y1 =>
  .br (decide (y1.fst < (↑x0.n : Int))) (
    .el (x0.a) (x0.n) (y1.fst) fun y2 =>
    .ld false (y2.add (Int.toNat y1.fst * (4 : Nat))) (.g [.s, .s, .b, .l]) fun y3 =>
    .el (x1.a) (x1.n) (y1.fst) fun y4 =>
    .ld false (y4.add (Int.toNat y1.fst * (4 : Nat))) (.g [.s, .s, .b, .l]) fun y5 =>
    .call false 34 [Sh1.val (.g [.s, .s, .b, .l]) (y3), Sh1.val (.g [.s, .s, .b, .l]) (y5)] (.v (.o (.b))) fun y6 =>
    .br (!y6) (
      .ret [.bool (false)]) <|
    .nx 0 [.v (.int .i64 (Go.IntKind.i64.wrap (y1.fst + (1 : Int))))]) <|
  .ret [.bool (true)]
theorem fX_EqualFunc_Acct (x0 : SlV) (x1 : SlV) : fits Try.prog aX_EqualFunc_Acct 33 [Sc.val .l (x0), Sc.val .l (x1), (Go.Value.func (Go.Fn.func (34 : Go.FuncId)) { toList := [] : Array Go.Value } { toList := [] : Array Go.Value })] (tX_EqualFunc_Acct x0 x1) :=
  ⟨Try.f33, Try.f33.body.getD .skip, by kernel_rfl, by kernel_rfl, by kernel_rfl, by kernel_rfl, by kernel_rfl, by kernel_rfl⟩
/-! loop.example/g00793/impl.BookSame$1 -/
def aI_BookSame_1 : An := ⟨[], [], []⟩
noncomputable def tI_BookSame_1 (x0 : ByteArray × ByteArray × Bool × SlV × PUnit) (x1 : ByteArray × ByteArray × Bool × SlV × PUnit) : T :=
  .br (ByteArray.toList x0.fst == ByteArray.toList x1.fst) (
    .call false 35 [Sh1.val (.g [.s, .b, .l]) (x0.2), Sh1.val (.g [.s, .b, .l]) (x1.2)] (.v (.o (.b))) fun y1 =>
    .ret [.bool (y1)]) <|
  .ret [.bool (false)]
theorem fI_BookSame_1 (x0 : ByteArray × ByteArray × Bool × SlV × PUnit) (x1 : ByteArray × ByteArray × Bool × SlV × PUnit) : fits Try.prog aI_BookSame_1 34 [Sh1.val (.g [.s, .s, .b, .l]) (x0), Sh1.val (.g [.s, .s, .b, .l]) (x1)] (tI_BookSame_1 x0 x1) :=
  ⟨Try.f34, Try.f34.body.getD .skip, by kernel_rfl, by kernel_rfl, by kernel_rfl, by kernel_rfl, by kernel_rfl, by kernel_rfl⟩
/-! loop.example/g00793/impl.MoneySame -/
def aI_MoneySame : An := ⟨[], [], []⟩
noncomputable def tI_MoneySame (x0 : ByteArray × Bool × SlV × PUnit) (x1 : ByteArray × Bool × SlV × PUnit) : T :=
  .br (ByteArray.toList x0.fst == ByteArray.toList x1.fst) (
    .call false 49 [Sh1.val (.g [.b, .l]) (x0.2), Sh1.val (.g [.b, .l]) (x1.2)] (.v (.o (.b))) fun y1 =>
    .ret [.bool (y1)]) <|
  .ret [.bool (false)]
theorem fI_MoneySame (x0 : ByteArray × Bool × SlV × PUnit) (x1 : ByteArray × Bool × SlV × PUnit) : fits Try.prog aI_MoneySame 35 [Sh1.val (.g [.s, .b, .l]) (x0), Sh1.val (.g [.s, .b, .l]) (x1)] (tI_MoneySame x0 x1) :=
  ⟨Try.f35, Try.f35.body.getD .skip, by kernel_rfl, by kernel_rfl, by kernel_rfl, by kernel_rfl, by kernel_rfl, by kernel_rfl⟩
/-! slices.EqualFunc[[]loop.example/g00793/impl.Rest,[]loop.example/g00793/impl.Rest,loop.example/g00793/impl.Rest,loop.example/g00793/impl.Rest] -/
def aX_EqualFunc_Rest : An := ⟨[(4, [.s 17], [.o (.o (.i .i64))])], [], []⟩
noncomputable def tX_EqualFunc_Rest (x0 : SlV) (x1 : SlV) : T :=
  .br ((↑x0.n : Int) != (↑x1.n : Int)) (
    .ret [.bool (false)]) <|
  .lp [.o (.o (.i .i64))] [.v (.int .i64 ((0 : Int)))] fun y1 =>
  .br (decide (y1.fst < (↑x0.n : Int))) (
    .el (x0.a) (x0.n) (y1.fst) fun y2 =>
    .ld false (y2.add (Int.toNat y1.fst * (4 : Nat))) (.g [.s, .b, .l, .l]) fun y3 =>
    .el (x1.a) (x1.n) (y1.fst) fun y4 =>
    .ld false (y4.add (Int.toNat y1.fst * (4 : Nat))) (.g [.s, .b, .l, .l]) fun y5 =>
    .call false 37 [Sh1.val (.g [.s, .b, .l, .l]) (y3), Sh1.val (.g [.s, .b, .l, .l]) (y5)] (.v (.o (.b))) fun y6 =>
    .br (!y6) (
      .ret [.bool (false)]) <|
    .nx 0 [.v (.int .i64 (Go.IntKind.i64.wrap (y1.fst + (1 : Int))))]) <|
  .ret [.bool (true)]
theorem fX_EqualFunc_Rest (x0 : SlV) (x1 : SlV) : fits Try.prog aX_EqualFunc_Rest 36 [Sc.val .l (x0), Sc.val .l (x1), (Go.Value.func (Go.Fn.func (37 : Go.FuncId)) { toList := [] : Array Go.Value } { toList := [] : Array Go.Value })] (tX_EqualFunc_Rest x0 x1) :=
  ⟨Try.f36, Try.f36.body.getD .skip, by kernel_rfl, by kernel_rfl, by kernel_rfl, by kernel_rfl, by kernel_rfl, by kernel_rfl⟩
/-! loop.example/g00793/impl.RestsSame$1 -/
def aI_RestsSame_1 : An := ⟨[], [], []⟩
noncomputable def tI_RestsSame_1 (x0 : ByteArray × Bool × SlV × SlV × PUnit) (x1 : ByteArray × Bool × SlV × SlV × PUnit) : T :=
  .br (ByteArray.toList x0.fst == ByteArray.toList x1.fst) (
    .call false 38 [Sh1.val (.g [.b, .l, .l]) (x0.2), Sh1.val (.g [.b, .l, .l]) (x1.2)] (.v (.o (.b))) fun y1 =>
    .ret [.bool (y1)]) <|
  .ret [.bool (false)]
theorem fI_RestsSame_1 (x0 : ByteArray × Bool × SlV × SlV × PUnit) (x1 : ByteArray × Bool × SlV × SlV × PUnit) : fits Try.prog aI_RestsSame_1 37 [Sh1.val (.g [.s, .b, .l, .l]) (x0), Sh1.val (.g [.s, .b, .l, .l]) (x1)] (tI_RestsSame_1 x0 x1) :=
  ⟨Try.f37, Try.f37.body.getD .skip, by kernel_rfl, by kernel_rfl, by kernel_rfl, by kernel_rfl, by kernel_rfl, by kernel_rfl⟩
/-! loop.example/g00793/impl.ratSame -/
def aI_ratSame : An := ⟨[], [], []⟩
noncomputable def tI_ratSame (x0 : Bool × SlV × SlV × PUnit) (x1 : Bool × SlV × SlV × PUnit) : T :=
  .call false 49 [Sh1.val (.g [.b, .l]) ((x0.fst), x0.2.1, ()), Sh1.val (.g [.b, .l]) ((x1.fst), x1.2.1, ())] (.v (.o (.b))) fun y1 =>
  .br (y1) (
    .call false 50 [Sc.val .l (x0.2.2.1), Sc.val .l (x1.2.2.1)] (.v (.o (.b))) fun y2 =>
    .ret [.bool (y2)]) <|
  .ret [.bool (false)]
theorem fI_ratSame (x0 : Bool × SlV × SlV × PUnit) (x1 : Bool × SlV × SlV × PUnit) : fits Try.prog aI_ratSame 38 [Sh1.val (.g [.b, .l, .l]) (x0), Sh1.val (.g [.b, .l, .l]) (x1)] (tI_ratSame x0 x1) :=
  ⟨Try.f38, Try.f38.body.getD .skip, by kernel_rfl, by kernel_rfl, by kernel_rfl, by kernel_rfl, by kernel_rfl, by kernel_rfl⟩
/-! loop.example/g00793/impl.decSame -/
def aI_decSame : An := ⟨[], [], []⟩
noncomputable def tI_decSame (x0 : Bool × SlV × Int × PUnit) (x1 : Bool × SlV × Int × PUnit) : T :=
  .call false 49 [Sh1.val (.g [.b, .l]) ((x0.fst), x0.2.1, ()), Sh1.val (.g [.b, .l]) ((x1.fst), x1.2.1, ())] (.v (.o (.b))) fun y1 =>
  .br (y1) (
    .ret [.bool (x0.2.2.fst == x1.2.2.fst)]) <|
  .ret [.bool (false)]
theorem fI_decSame (x0 : Bool × SlV × Int × PUnit) (x1 : Bool × SlV × Int × PUnit) : fits Try.prog aI_decSame 39 [Sh1.val (.g [.b, .l, .i .i64]) (x0), Sh1.val (.g [.b, .l, .i .i64]) (x1)] (tI_decSame x0 x1) :=
  ⟨Try.f39, Try.f39.body.getD .skip, by kernel_rfl, by kernel_rfl, by kernel_rfl, by kernel_rfl, by kernel_rfl, by kernel_rfl⟩
/-! loop.example/g00793/laws.eqAcctS -/
def aL_eqAcctS : An := ⟨[(4, [.s 5], [.o (.o (.i .i64))])], [], []⟩
noncomputable def tL_eqAcctS (x0 : SlV) (x1 : SlV) : T :=
  .br ((↑x0.n : Int) != (↑x1.n : Int)) (
    .ret [.bool (false)]) <|
  .lp [.o (.o (.i .i64))] [.v (.int .i64 ((0 : Int)))] fun y1 =>
  .br (decide (y1.fst < (↑x0.n : Int))) (
    .rg <|
    .el (x0.a) (x0.n) (y1.fst) fun y2 =>
    .ld true (y2.add (Int.toNat y1.fst * (4 : Nat))) (.g [.s, .s, .b, .l]) fun y3 =>
    .el (x1.a) (x1.n) (y1.fst) fun y4 =>
    .ld true (y4.add (Int.toNat y1.fst * (4 : Nat))) (.g [.s, .s, .b, .l]) fun y5 =>
    .call true 51 [Sh1.val (.g [.s, .s, .b, .l]) (y3), Sh1.val (.g [.s, .s, .b, .l]) (y5)] (.v (.o (.b))) fun y6 =>
    .br (!y6) (
      .ret [.bool (false)]) <|
    .nx 0 [.v (.int .i64 (Go.IntKind.i64.wrap (y1.fst + (1 : Int))))]) <|
  .ret [.bool (true)]
theorem fL_eqAcctS (x0 : SlV) (x1 : SlV) : fits Try.prog aL_eqAcctS 40 [Sc.val .l (x0), Sc.val .l (x1)] (tL_eqAcctS x0 x1) :=
  ⟨Try.f40, Try.f40.body.getD .skip, by kernel_rfl, by kernel_rfl, by kernel_rfl, by kernel_rfl, by kernel_rfl, by kernel_rfl⟩
/-! loop.example/g00793/laws.eqRest -/
def aL_eqRest : An := ⟨[], [], []⟩
noncomputable def tL_eqRest (x0 : ByteArray × Bool × SlV × SlV × PUnit) (x1 : ByteArray × Bool × SlV × SlV × PUnit) : T :=
  .br (!ByteArray.toList x0.fst == ByteArray.toList x1.fst) (
    .ret [.bool (false)]) <|
  .call false 52 [Sh1.val (.g [.b, .l, .l]) (x0.2), Sh1.val (.g [.b, .l, .l]) (x1.2)] (.v (.o (.b))) fun y1 =>
  .br (!y1) (
    .ret [.bool (false)]) <|
  .ret [.bool (true)]
theorem fL_eqRest (x0 : ByteArray × Bool × SlV × SlV × PUnit) (x1 : ByteArray × Bool × SlV × SlV × PUnit) : fits Try.prog aL_eqRest 41 [Sh1.val (.g [.s, .b, .l, .l]) (x0), Sh1.val (.g [.s, .b, .l, .l]) (x1)] (tL_eqRest x0 x1) :=
  ⟨Try.f41, Try.f41.body.getD .skip, by kernel_rfl, by kernel_rfl, by kernel_rfl, by kernel_rfl, by kernel_rfl, by kernel_rfl⟩
/-! loop.example/g00793/laws.eqRateS -/
def aL_eqRateS : An := ⟨[(4, [.s 5], [.o (.o (.i .i64))])], [], []⟩
noncomputable def tL_eqRateS (x0 : SlV) (x1 : SlV) : T :=
  .br ((↑x0.n : Int) != (↑x1.n : Int)) (
    .ret [.bool (false)]) <|
  .lp [.o (.o (.i .i64))] [.v (.int .i64 ((0 : Int)))] fun y1 =>
  .br (decide (y1.fst < (↑x0.n : Int))) (
    .rg <|
    .el (x0.a) (x0.n) (y1.fst) fun y2 =>
    .ld true (y2.add (Int.toNat y1.fst * (5 : Nat))) (.g [.s, .s, .b, .l, .i .i64]) fun y3 =>
    .el (x1.a) (x1.n) (y1.fst) fun y4 =>
    .ld true (y4.add (Int.toNat y1.fst * (5 : Nat))) (.g [.s, .s, .b, .l, .i .i64]) fun y5 =>
    .call true 53 [Sh1.val (.g [.s, .s, .b, .l, .i .i64]) (y3), Sh1.val (.g [.s, .s, .b, .l, .i .i64]) (y5)] (.v (.o (.b))) fun y6 =>
    .br (!y6) (
      .ret [.bool (false)]) <|
    .nx 0 [.v (.int .i64 (Go.IntKind.i64.wrap (y1.fst + (1 : Int))))]) <|
  .ret [.bool (true)]
theorem fL_eqRateS (x0 : SlV) (x1 : SlV) : fits Try.prog aL_eqRateS 42 [Sc.val .l (x0), Sc.val .l (x1)] (tL_eqRateS x0 x1) :=
  ⟨Try.f42, Try.f42.body.getD .skip, by kernel_rfl, by kernel_rfl, by kernel_rfl, by kernel_rfl, by kernel_rfl, by kernel_rfl⟩
/-! loop.example/g00793/laws.szAcct -/
def aL_szAcct : An := ⟨[], [], []⟩
noncomputable def tL_szAcct (x0 : ByteArray × ByteArray × Bool × SlV × PUnit) (x1 : Int) : T :=
  .br (decide (Go.IntKind.i64.wrap (x1 - (↑(ByteArray.size x0.fst) : Int)) < (0 : Int))) (
    .ret [.int .i64 ((-1 : Int))]) <|
  .call false 54 [Sh1.val (.g [.s, .b, .l]) (x0.2), .int .i64 (Go.IntKind.i64.wrap (x1 - (↑(ByteArray.size x0.fst) : Int)))] (.v (.o (.i .i64))) fun y1 =>
  .br (decide (y1 < (0 : Int))) (
    .ret [.int .i64 ((-1 : Int))]) <|
  .ret [.int .i64 (y1)]
theorem fL_szAcct (x0 : ByteArray × ByteArray × Bool × SlV × PUnit) (x1 : Int) : fits Try.prog aL_szAcct 43 [Sh1.val (.g [.s, .s, .b, .l]) (x0), .int .i64 (x1)] (tL_szAcct x0 x1) :=
  ⟨Try.f43, Try.f43.body.getD .skip, by kernel_rfl, by kernel_rfl, by kernel_rfl, by kernel_rfl, by kernel_rfl, by kernel_rfl⟩
/-! loop.example/g00793/laws.szRat -/
def aL_szRat : An := ⟨[], [], []⟩
noncomputable def tL_szRat (x0 : Bool × SlV × SlV × PUnit) (x1 : Int) : T :=
  .call false 55 [Sh1.val (.g [.b, .l]) ((x0.fst), x0.2.1, ()), .int .i64 (x1)] (.v (.o (.i .i64))) fun y1 =>
  .br (decide (y1 < (0 : Int))) (
    .ret [.int .i64 ((-1 : Int))]) <|
  .call false 56 [Sc.val .l (x0.2.2.1), .int .i64 (y1)] (.v (.o (.i .i64))) fun y2 =>
  .br (decide (y2 < (0 : Int))) (
    .ret [.int .i64 ((-1 : Int))]) <|
  .ret [.int .i64 (y2)]
theorem fL_szRat (x0 : Bool × SlV × SlV × PUnit) (x1 : Int) : fits Try.prog aL_szRat 44 [Sh1.val (.g [.b, .l, .l]) (x0), .int .i64 (x1)] (tL_szRat x0 x1) :=
  ⟨Try.f44, Try.f44.body.getD .skip, by kernel_rfl, by kernel_rfl, by kernel_rfl, by kernel_rfl, by kernel_rfl, by kernel_rfl⟩
/-! loop.example/g00793/laws.szRate -/
def aL_szRate : An := ⟨[], [], []⟩
noncomputable def tL_szRate (x0 : ByteArray × ByteArray × Bool × SlV × Int × PUnit) (x1 : Int) : T :=
  .br (decide (Go.IntKind.i64.wrap (x1 - (↑(ByteArray.size x0.fst) : Int)) < (0 : Int))) (
    .ret [.int .i64 ((-1 : Int))]) <|
  .br (decide (Go.IntKind.i64.wrap (Go.IntKind.i64.wrap (x1 - (↑(ByteArray.size x0.fst) : Int)) - (↑(ByteArray.size x0.2.fst) : Int)) < (0 : Int))) (
    .ret [.int .i64 ((-1 : Int))]) <|
  .call false 57 [Sh1.val (.g [.b, .l, .i .i64]) (x0.2.2), .int .i64 (Go.IntKind.i64.wrap (Go.IntKind.i64.wrap (x1 - (↑(ByteArray.size x0.fst) : Int)) - (↑(ByteArray.size x0.2.fst) : Int)))] (.v (.o (.i .i64))) fun y1 =>
  .br (decide (y1 < (0 : Int))) (
    .ret [.int .i64 ((-1 : Int))]) <|
  .ret [.int .i64 (y1)]
theorem fL_szRate (x0 : ByteArray × ByteArray × Bool × SlV × Int × PUnit) (x1 : Int) : fits Try.prog aL_szRate 45 [Sh1.val (.g [.s, .s, .b, .l, .i .i64]) (x0), .int .i64 (x1)] (tL_szRate x0 x1) :=
  ⟨Try.f45, Try.f45.body.getD .skip, by kernel_rfl, by kernel_rfl, by kernel_rfl, by kernel_rfl, by kernel_rfl, by kernel_rfl⟩
/-! loop.example/g00793/laws.toAcct -/
def aL_toAcct : An := ⟨[], [], []⟩
noncomputable def tL_toAcct (x0 : ByteArray × ByteArray × Bool × SlV × PUnit) : T :=
  .call false 58 [Sh1.val (.g [.s, .b, .l]) (x0.2)] (.v (.g [.s, .b, .l])) fun y1 =>
  .ret [Sh1.val (.g [.s, .s, .b, .l]) ((x0.fst), (y1.fst), (y1.2.fst), y1.2.2.1, ())]
theorem fL_toAcct (x0 : ByteArray × ByteArray × Bool × SlV × PUnit) : fits Try.prog aL_toAcct 46 [Sh1.val (.g [.s, .s, .b, .l]) (x0)] (tL_toAcct x0) :=
  ⟨Try.f46, Try.f46.body.getD .skip, by kernel_rfl, by kernel_rfl, by kernel_rfl, by kernel_rfl, by kernel_rfl, by kernel_rfl⟩
/-! loop.example/g00793/laws.toRat -/
def aL_toRat : An := ⟨[], [], []⟩
noncomputable def tL_toRat (x0 : Bool × SlV × SlV × PUnit) : T :=
  .call false 59 [Sh1.val (.g [.b, .l]) ((x0.fst), x0.2.1, ())] (.v (.g [.b, .l])) fun y1 =>
  .call false 60 [Sc.val .l (x0.2.2.1)] (.v (.o (.l))) fun y2 =>
  .ret [Sh1.val (.g [.b, .l, .l]) ((y1.fst), y1.2.1, y2, ())]
theorem fL_toRat (x0 : Bool × SlV × SlV × PUnit) : fits Try.prog aL_toRat 47 [Sh1.val (.g [.b, .l, .l]) (x0)] (tL_toRat x0) :=
  ⟨Try.f47, Try.f47.body.getD .skip, by kernel_rfl, by kernel_rfl, by kernel_rfl, by kernel_rfl, by kernel_rfl, by kernel_rfl⟩
/-! loop.example/g00793/laws.toRate -/
def aL_toRate : An := ⟨[], [], []⟩
noncomputable def tL_toRate (x0 : ByteArray × ByteArray × Bool × SlV × Int × PUnit) : T :=
  .call false 61 [Sh1.val (.g [.b, .l, .i .i64]) (x0.2.2)] (.v (.g [.b, .l, .i .i64])) fun y1 =>
  .ret [Sh1.val (.g [.s, .s, .b, .l, .i .i64]) ((x0.fst), (x0.2.fst), (y1.fst), y1.2.1, ((y1.2.2.fst) : Int), ())]
theorem fL_toRate (x0 : ByteArray × ByteArray × Bool × SlV × Int × PUnit) : fits Try.prog aL_toRate 48 [Sh1.val (.g [.s, .s, .b, .l, .i .i64]) (x0)] (tL_toRate x0) :=
  ⟨Try.f48, Try.f48.body.getD .skip, by kernel_rfl, by kernel_rfl, by kernel_rfl, by kernel_rfl, by kernel_rfl, by kernel_rfl⟩
/-! loop.example/g00793/impl.intSame -/
def aI_intSame : An := ⟨[], [], []⟩
noncomputable def tI_intSame (x0 : Bool × SlV × PUnit) (x1 : Bool × SlV × PUnit) : T :=
  .br (x0.fst == x1.fst) (
    .call false 50 [Sc.val .l (x0.2.1), Sc.val .l (x1.2.1)] (.v (.o (.b))) fun y1 =>
    .ret [.bool (y1)]) <|
  .ret [.bool (false)]
theorem fI_intSame (x0 : Bool × SlV × PUnit) (x1 : Bool × SlV × PUnit) : fits Try.prog aI_intSame 49 [Sh1.val (.g [.b, .l]) (x0), Sh1.val (.g [.b, .l]) (x1)] (tI_intSame x0 x1) :=
  ⟨Try.f49, Try.f49.body.getD .skip, by kernel_rfl, by kernel_rfl, by kernel_rfl, by kernel_rfl, by kernel_rfl, by kernel_rfl⟩
/-! loop.example/g00793/impl.sameInts -/
def aI_sameInts : An := ⟨[(4, [.s 13], [.o (.o (.i .i64))])], [], []⟩
noncomputable def tI_sameInts (x0 : SlV) (x1 : SlV) : T :=
  .br ((↑x0.n : Int) != (↑x1.n : Int)) (
    .ret [.bool (false)]) <|
  .lp [.o (.o (.i .i64))] [.v (.int .i64 ((0 : Int)))] fun y1 =>
  .br (decide (y1.fst < (↑x0.n : Int))) (
    .rg <|
    .el (x0.a) (x0.n) (y1.fst) fun y2 =>
    .ld true (y2.add (Int.toNat y1.fst * (1 : Nat))) (.o (.i .i64)) fun y3 =>
    .el (x1.a) (x1.n) (y1.fst) fun y4 =>
    .ld true (y4.add (Int.toNat y1.fst * (1 : Nat))) (.o (.i .i64)) fun y5 =>
    .br (y3 != y5) (
      .ret [.bool (false)]) <|
    .nx 0 [.v (.int .i64 (Go.IntKind.i64.wrap (y1.fst + (1 : Int))))]) <|
  .ret [.bool (true)]
theorem fI_sameInts (x0 : SlV) (x1 : SlV) : fits Try.prog aI_sameInts 50 [Sc.val .l (x0), Sc.val .l (x1)] (tI_sameInts x0 x1) :=
  ⟨Try.f50, Try.f50.body.getD .skip, by kernel_rfl, by kernel_rfl, by kernel_rfl, by kernel_rfl, by kernel_rfl, by kernel_rfl⟩
/-! loop.example/g00793/laws.eqAcct -/
def aL_eqAcct : An := ⟨[], [], []⟩
noncomputable def tL_eqAcct (x0 : ByteArray × ByteArray × Bool × SlV × PUnit) (x1 : ByteArray × ByteArray × Bool × SlV × PUnit) : T :=
  .br (!ByteArray.toList x0.fst == ByteArray.toList x1.fst) (
    .ret [.bool (false)]) <|
  .call false 62 [Sh1.val (.g [.s, .b, .l]) (x0.2), Sh1.val (.g [.s, .b, .l]) (x1.2)] (.v (.o (.b))) fun y1 =>
  .br (!y1) (
    .ret [.bool (false)]) <|
  .ret [.bool (true)]
theorem fL_eqAcct (x0 : ByteArray × ByteArray × Bool × SlV × PUnit) (x1 : ByteArray × ByteArray × Bool × SlV × PUnit) : fits Try.prog aL_eqAcct 51 [Sh1.val (.g [.s, .s, .b, .l]) (x0), Sh1.val (.g [.s, .s, .b, .l]) (x1)] (tL_eqAcct x0 x1) :=
  ⟨Try.f51, Try.f51.body.getD .skip, by kernel_rfl, by kernel_rfl, by kernel_rfl, by kernel_rfl, by kernel_rfl, by kernel_rfl⟩
/-! loop.example/g00793/laws.eqRat -/
def aL_eqRat : An := ⟨[], [], []⟩
noncomputable def tL_eqRat (x0 : Bool × SlV × SlV × PUnit) (x1 : Bool × SlV × SlV × PUnit) : T :=
  .call false 63 [Sh1.val (.g [.b, .l]) ((x0.fst), x0.2.1, ()), Sh1.val (.g [.b, .l]) ((x1.fst), x1.2.1, ())] (.v (.o (.b))) fun y1 =>
  .br (!y1) (
    .ret [.bool (false)]) <|
  .call false 64 [Sc.val .l (x0.2.2.1), Sc.val .l (x1.2.2.1)] (.v (.o (.b))) fun y2 =>
  .br (!y2) (
    .ret [.bool (false)]) <|
  .ret [.bool (true)]
theorem fL_eqRat (x0 : Bool × SlV × SlV × PUnit) (x1 : Bool × SlV × SlV × PUnit) : fits Try.prog aL_eqRat 52 [Sh1.val (.g [.b, .l, .l]) (x0), Sh1.val (.g [.b, .l, .l]) (x1)] (tL_eqRat x0 x1) :=
  ⟨Try.f52, Try.f52.body.getD .skip, by kernel_rfl, by kernel_rfl, by kernel_rfl, by kernel_rfl, by kernel_rfl, by kernel_rfl⟩
/-! loop.example/g00793/laws.eqRate -/
def aL_eqRate : An := ⟨[], [], []⟩
noncomputable def tL_eqRate (x0 : ByteArray × ByteArray × Bool × SlV × Int × PUnit) (x1 : ByteArray × ByteArray × Bool × SlV × Int × PUnit) : T :=
  .br (!ByteArray.toList x0.fst == ByteArray.toList x1.fst) (
    .ret [.bool (false)]) <|
  .br (!ByteArray.toList x0.2.fst == ByteArray.toList x1.2.fst) (
    .ret [.bool (false)]) <|
  .call false 65 [Sh1.val (.g [.b, .l, .i .i64]) (x0.2.2), Sh1.val (.g [.b, .l, .i .i64]) (x1.2.2)] (.v (.o (.b))) fun y1 =>
  .br (!y1) (
    .ret [.bool (false)]) <|
  .ret [.bool (true)]
theorem fL_eqRate (x0 : ByteArray × ByteArray × Bool × SlV × Int × PUnit) (x1 : ByteArray × ByteArray × Bool × SlV × Int × PUnit) : fits Try.prog aL_eqRate 53 [Sh1.val (.g [.s, .s, .b, .l, .i .i64]) (x0), Sh1.val (.g [.s, .s, .b, .l, .i .i64]) (x1)] (tL_eqRate x0 x1) :=
  ⟨Try.f53, Try.f53.body.getD .skip, by kernel_rfl, by kernel_rfl, by kernel_rfl, by kernel_rfl, by kernel_rfl, by kernel_rfl⟩
/-! loop.example/g00793/laws.szMoney -/
def aL_szMoney : An := ⟨[], [], []⟩
noncomputable def tL_szMoney (x0 : ByteArray × Bool × SlV × PUnit) (x1 : Int) : T :=
  .br (decide (Go.IntKind.i64.wrap (x1 - (↑(ByteArray.size x0.fst) : Int)) < (0 : Int))) (
    .ret [.int .i64 ((-1 : Int))]) <|
  .call false 55 [Sh1.val (.g [.b, .l]) (x0.2), .int .i64 (Go.IntKind.i64.wrap (x1 - (↑(ByteArray.size x0.fst) : Int)))] (.v (.o (.i .i64))) fun y1 =>
  .br (decide (y1 < (0 : Int))) (
    .ret [.int .i64 ((-1 : Int))]) <|
  .ret [.int .i64 (y1)]
theorem fL_szMoney (x0 : ByteArray × Bool × SlV × PUnit) (x1 : Int) : fits Try.prog aL_szMoney 54 [Sh1.val (.g [.s, .b, .l]) (x0), .int .i64 (x1)] (tL_szMoney x0 x1) :=
  ⟨Try.f54, Try.f54.body.getD .skip, by kernel_rfl, by kernel_rfl, by kernel_rfl, by kernel_rfl, by kernel_rfl, by kernel_rfl⟩
/-! loop.example/g00793/laws.szSigned -/
def aL_szSigned : An := ⟨[], [], []⟩
noncomputable def tL_szSigned (x0 : Bool × SlV × PUnit) (x1 : Int) : T :=
  .call false 56 [Sc.val .l (x0.2.1), .int .i64 (x1)] (.v (.o (.i .i64))) fun y1 =>
  .br (decide (y1 < (0 : Int))) (
    .ret [.int .i64 ((-1 : Int))]) <|
  .ret [.int .i64 (y1)]
theorem fL_szSigned (x0 : Bool × SlV × PUnit) (x1 : Int) : fits Try.prog aL_szSigned 55 [Sh1.val (.g [.b, .l]) (x0), .int .i64 (x1)] (tL_szSigned x0 x1) :=
  ⟨Try.f55, Try.f55.body.getD .skip, by kernel_rfl, by kernel_rfl, by kernel_rfl, by kernel_rfl, by kernel_rfl, by kernel_rfl⟩
/-! loop.example/g00793/laws.szIntS -/
def aL_szIntS : An := ⟨[], [], []⟩
noncomputable def tL_szIntS (x0 : SlV) (x1 : Int) : T :=
  .br (decide (Go.IntKind.i64.wrap (x1 - (↑x0.n : Int)) < (0 : Int))) (
    .ret [.int .i64 ((-1 : Int))]) <|
  .ret [.int .i64 (Go.IntKind.i64.wrap (x1 - (↑x0.n : Int)))]
theorem fL_szIntS (x0 : SlV) (x1 : Int) : fits Try.prog aL_szIntS 56 [Sc.val .l (x0), .int .i64 (x1)] (tL_szIntS x0 x1) :=
  ⟨Try.f56, Try.f56.body.getD .skip, by kernel_rfl, by kernel_rfl, by kernel_rfl, by kernel_rfl, by kernel_rfl, by kernel_rfl⟩
/-! loop.example/g00793/laws.szDec -/
def aL_szDec : An := ⟨[], [], []⟩
noncomputable def tL_szDec (x0 : Bool × SlV × Int × PUnit) (x1 : Int) : T :=
  .call false 55 [Sh1.val (.g [.b, .l]) ((x0.fst), x0.2.1, ()), .int .i64 (x1)] (.v (.o (.i .i64))) fun y1 =>
  .br (decide (y1 < (0 : Int))) (
    .ret [.int .i64 ((-1 : Int))]) <|
  .ret [.int .i64 (y1)]
theorem fL_szDec (x0 : Bool × SlV × Int × PUnit) (x1 : Int) : fits Try.prog aL_szDec 57 [Sh1.val (.g [.b, .l, .i .i64]) (x0), .int .i64 (x1)] (tL_szDec x0 x1) :=
  ⟨Try.f57, Try.f57.body.getD .skip, by kernel_rfl, by kernel_rfl, by kernel_rfl, by kernel_rfl, by kernel_rfl, by kernel_rfl⟩
/-! loop.example/g00793/laws.toMoney -/
def aL_toMoney : An := ⟨[], [], []⟩
noncomputable def tL_toMoney (x0 : ByteArray × Bool × SlV × PUnit) : T :=
  .call false 59 [Sh1.val (.g [.b, .l]) (x0.2)] (.v (.g [.b, .l])) fun y1 =>
  .ret [Sh1.val (.g [.s, .b, .l]) ((x0.fst), (y1.fst), y1.2.1, ())]
theorem fL_toMoney (x0 : ByteArray × Bool × SlV × PUnit) : fits Try.prog aL_toMoney 58 [Sh1.val (.g [.s, .b, .l]) (x0)] (tL_toMoney x0) :=
  ⟨Try.f58, Try.f58.body.getD .skip, by kernel_rfl, by kernel_rfl, by kernel_rfl, by kernel_rfl, by kernel_rfl, by kernel_rfl⟩
/-! loop.example/g00793/laws.toSigned -/
def aL_toSigned : An := ⟨[], [], []⟩
noncomputable def tL_toSigned (x0 : Bool × SlV × PUnit) : T :=
  .call false 60 [Sc.val .l (x0.2.1)] (.v (.o (.l))) fun y1 =>
  .ret [Sh1.val (.g [.b, .l]) ((x0.fst), y1, ())]
theorem fL_toSigned (x0 : Bool × SlV × PUnit) : fits Try.prog aL_toSigned 59 [Sh1.val (.g [.b, .l]) (x0)] (tL_toSigned x0) :=
  ⟨Try.f59, Try.f59.body.getD .skip, by kernel_rfl, by kernel_rfl, by kernel_rfl, by kernel_rfl, by kernel_rfl, by kernel_rfl⟩
/-! loop.example/g00793/laws.toIntS -/
def aL_toIntS : An := ⟨[(3, [.s 3, .s 4], [.a 3, .o (.o (.i .i64))])], [], []⟩
noncomputable def tL_toIntS (x0 : SlV) : T :=
  .rq ((0 : Int) ≤ (↑x0.n : Int) ∧ (↑x0.n : Int) ≤ (↑x0.n : Int) ∧ (↑(8 : Nat) : Int) * (↑x0.n : Int) ≤ (281474976710656 : Int) ∧ (↑x0.n : Int) ≤ (9223372036854775807 : Int)) <|
  .lp [.a 3, .o (.o (.i .i64))] [.a 3 ((↑x0.n : Int).toNat) ((Go.madeCells { toList := [Go.Value.int Go.IntKind.i64 (0 : Int)] : Array Go.Value } ((↑x0.n : Int).toNat * (1 : Nat))).toList), .v (.int .i64 ((0 : Int)))] fun y1 =>
  .br (decide (y1.2.fst < (↑x0.n : Int))) (
    .el (x0.a) (x0.n) (y1.2.fst) fun y2 =>
    .ld false (y2.add (Int.toNat y1.2.fst * (1 : Nat))) (.o (.i .i64)) fun y3 =>
    .rq ((0 : Int) ≤ y1.2.fst ∧ y1.2.fst < (↑y1.1.fst : Int)) <|
    .rq (Int.toNat y1.2.fst * (1 : Nat) + [(Sh1.o (Sc.i Go.IntKind.i64)).val y3].length ≤ y1.1.snd.length) <|
    .nx 0 [.a 3 (y1.1.fst) (setl y1.1.snd (Int.toNat y1.2.fst * (1 : Nat)) [(Sh1.o (Sc.i Go.IntKind.i64)).val y3]), .v (.int .i64 (Go.IntKind.i64.wrap (y1.2.fst + (1 : Int))))]) <|
  .fz (y1.1.fst) (y1.1.snd) 3 fun b2 c2 =>
  .ret [.slice (some { block := b2, off := (0 : Nat) : Go.Addr }) (y1.1.fst) (c2)]
theorem fL_toIntS (x0 : SlV) : fits Try.prog aL_toIntS 60 [Sc.val .l (x0)] (tL_toIntS x0) :=
  ⟨Try.f60, Try.f60.body.getD .skip, by kernel_rfl, by kernel_rfl, by kernel_rfl, by kernel_rfl, by kernel_rfl, by kernel_rfl⟩
/-! loop.example/g00793/laws.toDec -/
def aL_toDec : An := ⟨[], [], []⟩
noncomputable def tL_toDec (x0 : Bool × SlV × Int × PUnit) : T :=
  .call false 59 [Sh1.val (.g [.b, .l]) ((x0.fst), x0.2.1, ())] (.v (.g [.b, .l])) fun y1 =>
  .ret [Sh1.val (.g [.b, .l, .i .i64]) ((y1.fst), y1.2.1, ((x0.2.2.fst) : Int), ())]
theorem fL_toDec (x0 : Bool × SlV × Int × PUnit) : fits Try.prog aL_toDec 61 [Sh1.val (.g [.b, .l, .i .i64]) (x0)] (tL_toDec x0) :=
  ⟨Try.f61, Try.f61.body.getD .skip, by kernel_rfl, by kernel_rfl, by kernel_rfl, by kernel_rfl, by kernel_rfl, by kernel_rfl⟩
/-! loop.example/g00793/laws.eqMoney -/
def aL_eqMoney : An := ⟨[], [], []⟩
noncomputable def tL_eqMoney (x0 : ByteArray × Bool × SlV × PUnit) (x1 : ByteArray × Bool × SlV × PUnit) : T :=
  .br (!ByteArray.toList x0.fst == ByteArray.toList x1.fst) (
    .ret [.bool (false)]) <|
  .call false 63 [Sh1.val (.g [.b, .l]) (x0.2), Sh1.val (.g [.b, .l]) (x1.2)] (.v (.o (.b))) fun y1 =>
  .br (!y1) (
    .ret [.bool (false)]) <|
  .ret [.bool (true)]
theorem fL_eqMoney (x0 : ByteArray × Bool × SlV × PUnit) (x1 : ByteArray × Bool × SlV × PUnit) : fits Try.prog aL_eqMoney 62 [Sh1.val (.g [.s, .b, .l]) (x0), Sh1.val (.g [.s, .b, .l]) (x1)] (tL_eqMoney x0 x1) :=
  ⟨Try.f62, Try.f62.body.getD .skip, by kernel_rfl, by kernel_rfl, by kernel_rfl, by kernel_rfl, by kernel_rfl, by kernel_rfl⟩
/-! loop.example/g00793/laws.eqSigned -/
def aL_eqSigned : An := ⟨[], [], []⟩
noncomputable def tL_eqSigned (x0 : Bool × SlV × PUnit) (x1 : Bool × SlV × PUnit) : T :=
  .br (!x0.fst == x1.fst) (
    .ret [.bool (false)]) <|
  .call false 64 [Sc.val .l (x0.2.1), Sc.val .l (x1.2.1)] (.v (.o (.b))) fun y1 =>
  .br (!y1) (
    .ret [.bool (false)]) <|
  .ret [.bool (true)]
theorem fL_eqSigned (x0 : Bool × SlV × PUnit) (x1 : Bool × SlV × PUnit) : fits Try.prog aL_eqSigned 63 [Sh1.val (.g [.b, .l]) (x0), Sh1.val (.g [.b, .l]) (x1)] (tL_eqSigned x0 x1) :=
  ⟨Try.f63, Try.f63.body.getD .skip, by kernel_rfl, by kernel_rfl, by kernel_rfl, by kernel_rfl, by kernel_rfl, by kernel_rfl⟩
/-! loop.example/g00793/laws.eqIntS -/
def aL_eqIntS : An := ⟨[(4, [.s 5], [.o (.o (.i .i64))])], [], []⟩
noncomputable def tL_eqIntS (x0 : SlV) (x1 : SlV) : T :=
  .br ((↑x0.n : Int) != (↑x1.n : Int)) (
    .ret [.bool (false)]) <|
  .lp [.o (.o (.i .i64))] [.v (.int .i64 ((0 : Int)))] fun y1 =>
  .br (decide (y1.fst < (↑x0.n : Int))) (
    .rg <|
    .el (x0.a) (x0.n) (y1.fst) fun y2 =>
    .ld true (y2.add (Int.toNat y1.fst * (1 : Nat))) (.o (.i .i64)) fun y3 =>
    .el (x1.a) (x1.n) (y1.fst) fun y4 =>
    .ld true (y4.add (Int.toNat y1.fst * (1 : Nat))) (.o (.i .i64)) fun y5 =>
    .br (y3 != y5) (
      .ret [.bool (false)]) <|
    .nx 0 [.v (.int .i64 (Go.IntKind.i64.wrap (y1.fst + (1 : Int))))]) <|
  .ret [.bool (true)]
theorem fL_eqIntS (x0 : SlV) (x1 : SlV) : fits Try.prog aL_eqIntS 64 [Sc.val .l (x0), Sc.val .l (x1)] (tL_eqIntS x0 x1) :=
  ⟨Try.f64, Try.f64.body.getD .skip, by kernel_rfl, by kernel_rfl, by kernel_rfl, by kernel_rfl, by kernel_rfl, by kernel_rfl⟩
/-! loop.example/g00793/laws.eqDec -/
def aL_eqDec : An := ⟨[], [], []⟩
noncomputable def tL_eqDec (x0 : Bool × SlV × Int × PUnit) (x1 : Bool × SlV × Int × PUnit) : T :=
  .call false 63 [Sh1.val (.g [.b, .l]) ((x0.fst), x0.2.1, ()), Sh1.val (.g [.b, .l]) ((x1.fst), x1.2.1, ())] (.v (.o (.b))) fun y1 =>
  .br (!y1) (
    .ret [.bool (false)]) <|
  .br (x0.2.2.fst != x1.2.2.fst) (
    .ret [.bool (false)]) <|
  .ret [.bool (true)]
theorem fL_eqDec (x0 : Bool × SlV × Int × PUnit) (x1 : Bool × SlV × Int × PUnit) : fits Try.prog aL_eqDec 65 [Sh1.val (.g [.b, .l, .i .i64]) (x0), Sh1.val (.g [.b, .l, .i .i64]) (x1)] (tL_eqDec x0 x1) :=
  ⟨Try.f65, Try.f65.body.getD .skip, by kernel_rfl, by kernel_rfl, by kernel_rfl, by kernel_rfl, by kernel_rfl, by kernel_rfl⟩
end Go.Proofs.Ytagimdcegmpbmaa
