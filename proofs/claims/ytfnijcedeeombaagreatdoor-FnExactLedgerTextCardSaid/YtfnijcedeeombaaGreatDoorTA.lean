/-
  What each function of the seat comes to, as a tree; each tree is checked against the code.
-/
import Derived.Test.YtfnijcedeeombaaGreatDoorEngD
import Derived.Test.YtfnijcedeeombaaGreatDoorChecked
import Derived.KernelRfl
namespace Go.Proofs.YtfnijcedeeombaaGreatDoor
open Sx
set_option maxRecDepth 100000
abbrev gL_FnExactLedgerText : Nat := 3
abbrev gL_szLedger : Nat := 4
abbrev gS_LedgerText : Nat := 5
abbrev gL_toLedger : Nat := 6
abbrev gI_LedgerText : Nat := 7
abbrev gL_eqLedger : Nat := 8
abbrev gL_szBook : Nat := 9
abbrev gL_szRestS : Nat := 10
abbrev gL_szRates : Nat := 11
abbrev gS_LedgerOk : Nat := 12
abbrev gS_RateText : Nat := 13
abbrev gS_MoneyText : Nat := 14
abbrev gS_RatText : Nat := 15
abbrev gL_toBook : Nat := 16
abbrev gL_toRestS : Nat := 17
abbrev gL_toRates : Nat := 18
abbrev gI_LedgerOk : Nat := 19
abbrev gI_RateText : Nat := 20
abbrev gI_MoneyText : Nat := 21
abbrev gI_restText : Nat := 22
abbrev gL_eqBook : Nat := 23
abbrev gL_eqRestS : Nat := 24
abbrev gL_eqRates : Nat := 25
abbrev gL_szAcctS : Nat := 26
abbrev gL_szRest : Nat := 27
abbrev gL_szRateS : Nat := 28
abbrev gS_BookOk : Nat := 29
abbrev gS_RestsOk : Nat := 30
abbrev gS_RatesOk : Nat := 31
abbrev gS_RateOk : Nat := 32
abbrev gS_DecText : Nat := 33
abbrev gS_MoneyOk : Nat := 34
abbrev gS_CurPlaces : Nat := 35
abbrev gS_RatOk : Nat := 36
abbrev gS_l02Cmp : Nat := 37
abbrev gS_IntStr : Nat := 38
abbrev gS_NatText : Nat := 39
abbrev gL_toAcctS : Nat := 40
abbrev gL_toRest : Nat := 41
abbrev gL_toRateS : Nat := 42
abbrev gI_BookOk : Nat := 43
abbrev gI_RestsOk : Nat := 44
abbrev gI_RatesOk : Nat := 45
abbrev gI_RateOk : Nat := 46
abbrev gI_DecText : Nat := 47
abbrev gI_MoneyOk : Nat := 48
abbrev gI_CurPlaces : Nat := 49
abbrev gI_RatText : Nat := 50
abbrev gL_eqAcctS : Nat := 51
abbrev gL_eqRest : Nat := 52
abbrev gL_eqRateS : Nat := 53
abbrev gL_szAcct : Nat := 54
abbrev gL_szRat : Nat := 55
abbrev gL_szRate : Nat := 56
abbrev gS_IsWord : Nat := 57
abbrev gS_CurKnown : Nat := 58
abbrev gS_RatSign : Nat := 59
abbrev gS_l10At : Nat := 60
abbrev gS_DecOk : Nat := 61
abbrev gS_IntSign : Nat := 62
abbrev gS_Pad : Nat := 63
abbrev gS_IntOk : Nat := 64
abbrev gS_l08Find : Nat := 65
abbrev gS_NatOk : Nat := 66
abbrev gS_NatGcd : Nat := 67
abbrev gS_IntText : Nat := 68
abbrev gL_toAcct : Nat := 69
abbrev gL_toRat : Nat := 70
abbrev gL_toRate : Nat := 71
abbrev gI_IsWord : Nat := 72
abbrev gI_CurKnown : Nat := 73
abbrev gI_RatOk : Nat := 74
abbrev gI_RatSign : Nat := 75
abbrev gI_DecOk : Nat := 76
abbrev gI_intSign : Nat := 77
abbrev gI_Pad : Nat := 78
abbrev gI_natText : Nat := 79
abbrev gI_IntOk : Nat := 80
abbrev gI_currencyOf : Nat := 81
abbrev gI_isOne : Nat := 82
abbrev gI_IntStr : Nat := 83
abbrev gI_NatText : Nat := 84
abbrev gL_eqAcct : Nat := 85
abbrev gL_eqRat : Nat := 86
abbrev gL_eqRate : Nat := 87
abbrev gL_szMoney : Nat := 88
abbrev gL_szSigned : Nat := 89
abbrev gL_szIntS : Nat := 90
abbrev gL_szDec : Nat := 91
abbrev gS_l01All : Nat := 92
abbrev gS_RatCmp : Nat := 93
abbrev gS_RatZero : Nat := 94
abbrev gS_l01In : Nat := 95
abbrev gS_IntCmp : Nat := 96
abbrev gS_l08Table : Nat := 97
abbrev gS_l03Div : Nat := 98
abbrev gL_toMoney : Nat := 99
abbrev gL_toSigned : Nat := 100
abbrev gL_toIntS : Nat := 101
abbrev gL_toDec : Nat := 102
abbrev gI_isLower : Nat := 103
abbrev gI_isDigit : Nat := 104
abbrev gI_NatOk : Nat := 105
abbrev gI_natGcd : Nat := 106
abbrev gI_isScale : Nat := 107
abbrev gI_IntText : Nat := 109
abbrev gL_eqMoney : Nat := 110
abbrev gL_eqSigned : Nat := 111
abbrev gL_eqIntS : Nat := 112
abbrev gL_eqDec : Nat := 113
abbrev gS_l04Make : Nat := 114
abbrev gS_l02Mul : Nat := 115
abbrev gS_l03Small : Nat := 116
abbrev gS_NatOf : Nat := 117
abbrev gS_l02Trim : Nat := 118
abbrev gS_l03Digit : Nat := 119
abbrev gS_l02Sub : Nat := 120
abbrev gI_natDiv : Nat := 121
abbrev gI_natCopy : Nat := 122
abbrev gS_l02Cap : Nat := 130
abbrev gI_natCmp : Nat := 131
abbrev gI_natSmall : Nat := 132
abbrev gI_NatOf : Nat := 133
abbrev gI_natMul : Nat := 134
abbrev gI_divStep : Nat := 135
abbrev gI_trim : Nat := 136
abbrev gI_natOf : Nat := 143
abbrev gI_subTimes : Nat := 144
abbrev gI_addBack : Nat := 145
/-! loop.example/g00793/laws.FnExactLedgerText -/
def aL_FnExactLedgerText : An := ⟨[], [], []⟩
noncomputable def tL_FnExactLedgerText (x0 : SlV × SlV × ByteArray × SlV × PUnit) : T :=
  .call false 4 [Sh1.val (.g [.l, .l, .s, .l]) (x0), .int .i64 ((1048576 : Int))] (.v (.o (.i .i64))) fun y1 =>
  .br (decide (y1 < (0 : Int))) (
    .ret [.bool (true)]) <|
  .call false 6 [Sh1.val (.g [.l, .l, .s, .l]) (x0)] (.v (.g [.l, .l, .s, .l])) fun y2 =>
  .call false 5 [Sh1.val (.g [.l, .l, .s, .l]) (y2)] (.v (.o (.s))) fun y3 =>
  .call false 6 [Sh1.val (.g [.l, .l, .s, .l]) (x0)] (.v (.g [.l, .l, .s, .l])) fun y4 =>
  .call false 7 [Sh1.val (.g [.l, .l, .s, .l]) (y4)] (.v (.o (.s))) fun y5 =>
  .br (!y5.toList == y3.toList) (
    .ret [.bool (false)]) <|
  .rg <|
  .call true 6 [Sh1.val (.g [.l, .l, .s, .l]) (x0)] (.v (.g [.l, .l, .s, .l])) fun y6 =>
  .call true 8 [Sh1.val (.g [.l, .l, .s, .l]) (y4), Sh1.val (.g [.l, .l, .s, .l]) (y6)] (.v (.o (.b))) fun y7 =>
  .br (!y7) (
    .ret [.bool (false)]) <|
  .ret [.bool (true)]
theorem fL_FnExactLedgerText (x0 : SlV × SlV × ByteArray × SlV × PUnit) : fits Tryz.prog aL_FnExactLedgerText 3 [Sh1.val (.g [.l, .l, .s, .l]) (x0)] (tL_FnExactLedgerText x0) :=
  ⟨Tryz.f3, Tryz.f3.body.getD .skip, by kernel_rfl, by kernel_rfl, by kernel_rfl, by kernel_rfl, by kernel_rfl, by kernel_rfl⟩
/-! loop.example/g00793/laws.szLedger -/
def aL_szLedger : An := ⟨[], [], []⟩
noncomputable def tL_szLedger (x0 : SlV × SlV × ByteArray × SlV × PUnit) (x1 : Int) : T :=
  .call false 9 [Sh1.val (.g [.l]) (x0.1, ()), .int .i64 (x1)] (.v (.o (.i .i64))) fun y1 =>
  .br (decide (y1 < (0 : Int))) (
    .ret [.int .i64 ((-1 : Int))]) <|
  .call false 10 [Sc.val .l (x0.2.1), .int .i64 (y1)] (.v (.o (.i .i64))) fun y2 =>
  .br (decide (y2 < (0 : Int))) (
    .ret [.int .i64 ((-1 : Int))]) <|
  .call false 11 [Sh1.val (.g [.s, .l]) (x0.2.2), .int .i64 (y2)] (.v (.o (.i .i64))) fun y3 =>
  .br (decide (y3 < (0 : Int))) (
    .ret [.int .i64 ((-1 : Int))]) <|
  .ret [.int .i64 (y3)]
theorem fL_szLedger (x0 : SlV × SlV × ByteArray × SlV × PUnit) (x1 : Int) : fits Tryz.prog aL_szLedger 4 [Sh1.val (.g [.l, .l, .s, .l]) (x0), .int .i64 (x1)] (tL_szLedger x0 x1) :=
  ⟨Tryz.f4, Tryz.f4.body.getD .skip, by kernel_rfl, by kernel_rfl, by kernel_rfl, by kernel_rfl, by kernel_rfl, by kernel_rfl⟩
/-! loop.example/g00793/spec.LedgerText -/
def aS_LedgerText : An := ⟨[(5, [.s 3, .s 22], [.o (.o (.s)), .o (.o (.i .i64))]), (10, [.s 3, .s 37], [.o (.o (.s)), .o (.o (.i .i64))]), (15, [.s 3, .s 56], [.o (.o (.s)), .o (.o (.i .i64))])], [], []⟩
noncomputable def tS_LedgerText (x0 : SlV × SlV × ByteArray × SlV × PUnit) : T :=
  .call false 12 [Sh1.val (.g [.l, .l, .s, .l]) (x0)] (.v (.o (.b))) fun y1 =>
  .br (!y1) (
    .ret [.string ({ data := { toList := [] : Array UInt8 } : ByteArray })]) <|
  .rq ({ data := { toList := [(112 : UInt8), (105 : UInt8), (118 : UInt8), (111 : UInt8), (116 : UInt8), (32 : UInt8)] : Array UInt8 } : ByteArray }.size + ByteArray.size x0.2.2.fst ≤ (9223372036854775807 : Nat)) <|
  .rq (({ data := { toList := [(112 : UInt8), (105 : UInt8), (118 : UInt8), (111 : UInt8), (116 : UInt8), (32 : UInt8)] : Array UInt8 } : ByteArray } ++ x0.2.2.fst).size + { data := { toList := [(10 : UInt8)] : Array UInt8 } : ByteArray }.size ≤ (9223372036854775807 : Nat)) <|
  .lp [.o (.o (.s)), .o (.o (.i .i64))] [.v (.string ({ data := { toList := [(112 : UInt8), (105 : UInt8), (118 : UInt8), (111 : UInt8), (116 : UInt8), (32 : UInt8)] : Array UInt8 } : ByteArray } ++ x0.2.2.fst ++ { data := { toList := [(10 : UInt8)] : Array UInt8 } : ByteArray })), .v (.int .i64 ((0 : Int)))] fun y2 =>
  .br (decide (y2.2.fst < (↑x0.2.2.2.1.n : Int))) (
    .el (x0.2.2.2.1.a) (x0.2.2.2.1.n) (y2.2.fst) fun y3 =>
    .ld false (y3.add (Int.toNat y2.2.fst * (5 : Nat))) (.g [.s, .s, .b, .l, .i .i64]) fun y4 =>
    .rq (ByteArray.size y2.fst + { data := { toList := [(114 : UInt8), (97 : UInt8), (116 : UInt8), (101 : UInt8), (32 : UInt8)] : Array UInt8 } : ByteArray }.size ≤ (9223372036854775807 : Nat)) <|
    .call false 13 [Sh1.val (.g [.s, .s, .b, .l, .i .i64]) (y4)] (.v (.o (.s))) fun y5 =>
    .rq ((y2.fst ++ { data := { toList := [(114 : UInt8), (97 : UInt8), (116 : UInt8), (101 : UInt8), (32 : UInt8)] : Array UInt8 } : ByteArray }).size + y5.size ≤ (9223372036854775807 : Nat)) <|
    .rq ((y2.fst ++ { data := { toList := [(114 : UInt8), (97 : UInt8), (116 : UInt8), (101 : UInt8), (32 : UInt8)] : Array UInt8 } : ByteArray } ++ y5).size + { data := { toList := [(10 : UInt8)] : Array UInt8 } : ByteArray }.size ≤ (9223372036854775807 : Nat)) <|
    .nx 0 [.v (.string (y2.fst ++ { data := { toList := [(114 : UInt8), (97 : UInt8), (116 : UInt8), (101 : UInt8), (32 : UInt8)] : Array UInt8 } : ByteArray } ++ y5 ++ { data := { toList := [(10 : UInt8)] : Array UInt8 } : ByteArray })), .v (.int .i64 (Go.IntKind.i64.wrap (y2.2.fst + (1 : Int))))]) <|
  .lp [.o (.o (.s)), .o (.o (.i .i64))] [.v (.string (y2.fst)), .v (.int .i64 ((0 : Int)))] fun y3 =>
  .br (decide (y3.2.fst < (↑x0.1.n : Int))) (
    .el (x0.1.a) (x0.1.n) (y3.2.fst) fun y4 =>
    .ld false (y4.add (Int.toNat y3.2.fst * (4 : Nat))) (.g [.s, .s, .b, .l]) fun y5 =>
    .rg <|
    .rq (ByteArray.size y3.fst + { data := { toList := [(97 : UInt8), (99 : UInt8), (99 : UInt8), (116 : UInt8), (32 : UInt8)] : Array UInt8 } : ByteArray }.size ≤ (9223372036854775807 : Nat)) <|
    .rq ((y3.fst ++ { data := { toList := [(97 : UInt8), (99 : UInt8), (99 : UInt8), (116 : UInt8), (32 : UInt8)] : Array UInt8 } : ByteArray }).size + ByteArray.size y5.fst ≤ (9223372036854775807 : Nat)) <|
    .rq ((y3.fst ++ { data := { toList := [(97 : UInt8), (99 : UInt8), (99 : UInt8), (116 : UInt8), (32 : UInt8)] : Array UInt8 } : ByteArray } ++ y5.fst).size + { data := { toList := [(32 : UInt8)] : Array UInt8 } : ByteArray }.size ≤ (9223372036854775807 : Nat)) <|
    .call true 14 [Sh1.val (.g [.s, .b, .l]) (y5.2)] (.v (.o (.s))) fun y6 =>
    .rq ((y3.fst ++ { data := { toList := [(97 : UInt8), (99 : UInt8), (99 : UInt8), (116 : UInt8), (32 : UInt8)] : Array UInt8 } : ByteArray } ++ y5.fst ++ { data := { toList := [(32 : UInt8)] : Array UInt8 } : ByteArray }).size + y6.size ≤ (9223372036854775807 : Nat)) <|
    .rq ((y3.fst ++ { data := { toList := [(97 : UInt8), (99 : UInt8), (99 : UInt8), (116 : UInt8), (32 : UInt8)] : Array UInt8 } : ByteArray } ++ y5.fst ++ { data := { toList := [(32 : UInt8)] : Array UInt8 } : ByteArray } ++ y6).size + { data := { toList := [(10 : UInt8)] : Array UInt8 } : ByteArray }.size ≤ (9223372036854775807 : Nat)) <|
    .nx 1 [.v (.string (y3.fst ++ { data := { toList := [(97 : UInt8), (99 : UInt8), (99 : UInt8), (116 : UInt8), (32 : UInt8)] : Array UInt8 } : ByteArray } ++ y5.fst ++ { data := { toList := [(32 : UInt8)] : Array UInt8 } : ByteArray } ++ y6 ++ { data := { toList := [(10 : UInt8)] : Array UInt8 } : ByteArray })), .v (.int .i64 (Go.IntKind.i64.wrap (y3.2.fst + (1 : Int))))]) <|
  .lp [.o (.o (.s)), .o (.o (.i .i64))] [.v (.string (y3.fst)), .v (.int .i64 ((0 : Int)))] fun y4 =>
  .br (decide (y4.2.fst < (↑x0.2.1.n : Int))) (
    .el (x0.2.1.a) (x0.2.1.n) (y4.2.fst) fun y5 =>
    .ld false (y5.add (Int.toNat y4.2.fst * (4 : Nat))) (.g [.s, .b, .l, .l]) fun y6 =>
    .rg <|
    .rq (ByteArray.size y4.fst + { data := { toList := [(114 : UInt8), (101 : UInt8), (115 : UInt8), (116 : UInt8), (32 : UInt8)] : Array UInt8 } : ByteArray }.size ≤ (9223372036854775807 : Nat)) <|
    .rq ((y4.fst ++ { data := { toList := [(114 : UInt8), (101 : UInt8), (115 : UInt8), (116 : UInt8), (32 : UInt8)] : Array UInt8 } : ByteArray }).size + ByteArray.size y6.fst ≤ (9223372036854775807 : Nat)) <|
    .rq ((y4.fst ++ { data := { toList := [(114 : UInt8), (101 : UInt8), (115 : UInt8), (116 : UInt8), (32 : UInt8)] : Array UInt8 } : ByteArray } ++ y6.fst).size + { data := { toList := [(32 : UInt8)] : Array UInt8 } : ByteArray }.size ≤ (9223372036854775807 : Nat)) <|
    .call true 15 [Sh1.val (.g [.b, .l, .l]) (y6.2)] (.v (.o (.s))) fun y7 =>
    .rq ((y4.fst ++ { data := { toList := [(114 : UInt8), (101 : UInt8), (115 : UInt8), (116 : UInt8), (32 : UInt8)] : Array UInt8 } : ByteArray } ++ y6.fst ++ { data := { toList := [(32 : UInt8)] : Array UInt8 } : ByteArray }).size + y7.size ≤ (9223372036854775807 : Nat)) <|
    .rq ((y4.fst ++ { data := { toList := [(114 : UInt8), (101 : UInt8), (115 : UInt8), (116 : UInt8), (32 : UInt8)] : Array UInt8 } : ByteArray } ++ y6.fst ++ { data := { toList := [(32 : UInt8)] : Array UInt8 } : ByteArray } ++ y7).size + { data := { toList := [(10 : UInt8)] : Array UInt8 } : ByteArray }.size ≤ (9223372036854775807 : Nat)) <|
    .nx 2 [.v (.string (y4.fst ++ { data := { toList := [(114 : UInt8), (101 : UInt8), (115 : UInt8), (116 : UInt8), (32 : UInt8)] : Array UInt8 } : ByteArray } ++ y6.fst ++ { data := { toList := [(32 : UInt8)] : Array UInt8 } : ByteArray } ++ y7 ++ { data := { toList := [(10 : UInt8)] : Array UInt8 } : ByteArray })), .v (.int .i64 (Go.IntKind.i64.wrap (y4.2.fst + (1 : Int))))]) <|
  .ret [.string (y4.fst)]
theorem fS_LedgerText (x0 : SlV × SlV × ByteArray × SlV × PUnit) : fits Tryz.prog aS_LedgerText 5 [Sh1.val (.g [.l, .l, .s, .l]) (x0)] (tS_LedgerText x0) :=
  ⟨Tryz.f5, Tryz.f5.body.getD .skip, by kernel_rfl, by kernel_rfl, by kernel_rfl, by kernel_rfl, by kernel_rfl, by kernel_rfl⟩
/-! loop.example/g00793/laws.toLedger -/
def aL_toLedger : An := ⟨[], [], []⟩
noncomputable def tL_toLedger (x0 : SlV × SlV × ByteArray × SlV × PUnit) : T :=
  .call false 16 [Sh1.val (.g [.l]) (x0.1, ())] (.v (.g [.l])) fun y1 =>
  .call false 17 [Sc.val .l (x0.2.1)] (.v (.o (.l))) fun y2 =>
  .call false 18 [Sh1.val (.g [.s, .l]) (x0.2.2)] (.v (.g [.s, .l])) fun y3 =>
  .ret [Sh1.val (.g [.l, .l, .s, .l]) (y1.1, y2, (y3.fst), y3.2.1, ())]
theorem fL_toLedger (x0 : SlV × SlV × ByteArray × SlV × PUnit) : fits Tryz.prog aL_toLedger 6 [Sh1.val (.g [.l, .l, .s, .l]) (x0)] (tL_toLedger x0) :=
  ⟨Tryz.f6, Tryz.f6.body.getD .skip, by kernel_rfl, by kernel_rfl, by kernel_rfl, by kernel_rfl, by kernel_rfl, by kernel_rfl⟩
/-! loop.example/g00793/impl.LedgerText -/
def aI_LedgerText : An := ⟨[(5, [.s 3, .s 22], [.o (.o (.s)), .o (.o (.i .i64))]), (10, [.s 3, .s 37], [.o (.o (.s)), .o (.o (.i .i64))]), (15, [.s 3, .s 56], [.o (.o (.s)), .o (.o (.i .i64))])], [], []⟩
noncomputable def tI_LedgerText (x0 : SlV × SlV × ByteArray × SlV × PUnit) : T :=
  .call false 19 [Sh1.val (.g [.l, .l, .s, .l]) (x0)] (.v (.o (.b))) fun y1 =>
  .br (!y1) (
    .ret [.string ({ data := { toList := [] : Array UInt8 } : ByteArray })]) <|
  .rq ({ data := { toList := [(112 : UInt8), (105 : UInt8), (118 : UInt8), (111 : UInt8), (116 : UInt8), (32 : UInt8)] : Array UInt8 } : ByteArray }.size + ByteArray.size x0.2.2.fst ≤ (9223372036854775807 : Nat)) <|
  .rq (({ data := { toList := [(112 : UInt8), (105 : UInt8), (118 : UInt8), (111 : UInt8), (116 : UInt8), (32 : UInt8)] : Array UInt8 } : ByteArray } ++ x0.2.2.fst).size + { data := { toList := [(10 : UInt8)] : Array UInt8 } : ByteArray }.size ≤ (9223372036854775807 : Nat)) <|
  .lp [.o (.o (.s)), .o (.o (.i .i64))] [.v (.string ({ data := { toList := [(112 : UInt8), (105 : UInt8), (118 : UInt8), (111 : UInt8), (116 : UInt8), (32 : UInt8)] : Array UInt8 } : ByteArray } ++ x0.2.2.fst ++ { data := { toList := [(10 : UInt8)] : Array UInt8 } : ByteArray })), .v (.int .i64 ((0 : Int)))] fun y2 =>
  .br (decide (y2.2.fst < (↑x0.2.2.2.1.n : Int))) (
    .el (x0.2.2.2.1.a) (x0.2.2.2.1.n) (y2.2.fst) fun y3 =>
    .ld false (y3.add (Int.toNat y2.2.fst * (5 : Nat))) (.g [.s, .s, .b, .l, .i .i64]) fun y4 =>
    .call false 20 [Sh1.val (.g [.s, .s, .b, .l, .i .i64]) (y4)] (.v (.o (.s))) fun y5 =>
    .rq ({ data := { toList := [(114 : UInt8), (97 : UInt8), (116 : UInt8), (101 : UInt8), (32 : UInt8)] : Array UInt8 } : ByteArray }.size + y5.size ≤ (9223372036854775807 : Nat)) <|
    .rq (({ data := { toList := [(114 : UInt8), (97 : UInt8), (116 : UInt8), (101 : UInt8), (32 : UInt8)] : Array UInt8 } : ByteArray } ++ y5).size + { data := { toList := [(10 : UInt8)] : Array UInt8 } : ByteArray }.size ≤ (9223372036854775807 : Nat)) <|
    .rq (ByteArray.size y2.fst + ({ data := { toList := [(114 : UInt8), (97 : UInt8), (116 : UInt8), (101 : UInt8), (32 : UInt8)] : Array UInt8 } : ByteArray } ++ y5 ++ { data := { toList := [(10 : UInt8)] : Array UInt8 } : ByteArray }).size ≤ (9223372036854775807 : Nat)) <|
    .nx 0 [.v (.string (y2.fst ++ ({ data := { toList := [(114 : UInt8), (97 : UInt8), (116 : UInt8), (101 : UInt8), (32 : UInt8)] : Array UInt8 } : ByteArray } ++ y5 ++ { data := { toList := [(10 : UInt8)] : Array UInt8 } : ByteArray }))), .v (.int .i64 (Go.IntKind.i64.wrap (y2.2.fst + (1 : Int))))]) <|
  .lp [.o (.o (.s)), .o (.o (.i .i64))] [.v (.string (y2.fst)), .v (.int .i64 ((0 : Int)))] fun y3 =>
  .br (decide (y3.2.fst < (↑x0.1.n : Int))) (
    .el (x0.1.a) (x0.1.n) (y3.2.fst) fun y4 =>
    .ld false (y4.add (Int.toNat y3.2.fst * (4 : Nat))) (.g [.s, .s, .b, .l]) fun y5 =>
    .rg <|
    .rq ({ data := { toList := [(97 : UInt8), (99 : UInt8), (99 : UInt8), (116 : UInt8), (32 : UInt8)] : Array UInt8 } : ByteArray }.size + ByteArray.size y5.fst ≤ (9223372036854775807 : Nat)) <|
    .rq (({ data := { toList := [(97 : UInt8), (99 : UInt8), (99 : UInt8), (116 : UInt8), (32 : UInt8)] : Array UInt8 } : ByteArray } ++ y5.fst).size + { data := { toList := [(32 : UInt8)] : Array UInt8 } : ByteArray }.size ≤ (9223372036854775807 : Nat)) <|
    .call true 21 [Sh1.val (.g [.s, .b, .l]) (y5.2)] (.v (.o (.s))) fun y6 =>
    .rq (({ data := { toList := [(97 : UInt8), (99 : UInt8), (99 : UInt8), (116 : UInt8), (32 : UInt8)] : Array UInt8 } : ByteArray } ++ y5.fst ++ { data := { toList := [(32 : UInt8)] : Array UInt8 } : ByteArray }).size + y6.size ≤ (9223372036854775807 : Nat)) <|
    .rq (({ data := { toList := [(97 : UInt8), (99 : UInt8), (99 : UInt8), (116 : UInt8), (32 : UInt8)] : Array UInt8 } : ByteArray } ++ y5.fst ++ { data := { toList := [(32 : UInt8)] : Array UInt8 } : ByteArray } ++ y6).size + { data := { toList := [(10 : UInt8)] : Array UInt8 } : ByteArray }.size ≤ (9223372036854775807 : Nat)) <|
    .rq (ByteArray.size y3.fst + ({ data := { toList := [(97 : UInt8), (99 : UInt8), (99 : UInt8), (116 : UInt8), (32 : UInt8)] : Array UInt8 } : ByteArray } ++ y5.fst ++ { data := { toList := [(32 : UInt8)] : Array UInt8 } : ByteArray } ++ y6 ++ { data := { toList := [(10 : UInt8)] : Array UInt8 } : ByteArray }).size ≤ (9223372036854775807 : Nat)) <|
    .nx 1 [.v (.string (y3.fst ++ ({ data := { toList := [(97 : UInt8), (99 : UInt8), (99 : UInt8), (116 : UInt8), (32 : UInt8)] : Array UInt8 } : ByteArray } ++ y5.fst ++ { data := { toList := [(32 : UInt8)] : Array UInt8 } : ByteArray } ++ y6 ++ { data := { toList := [(10 : UInt8)] : Array UInt8 } : ByteArray }))), .v (.int .i64 (Go.IntKind.i64.wrap (y3.2.fst + (1 : Int))))]) <|
  .lp [.o (.o (.s)), .o (.o (.i .i64))] [.v (.string (y3.fst)), .v (.int .i64 ((0 : Int)))] fun y4 =>
  .br (decide (y4.2.fst < (↑x0.2.1.n : Int))) (
    .el (x0.2.1.a) (x0.2.1.n) (y4.2.fst) fun y5 =>
    .ld false (y5.add (Int.toNat y4.2.fst * (4 : Nat))) (.g [.s, .b, .l, .l]) fun y6 =>
    .call false 22 [Sh1.val (.g [.s, .b, .l, .l]) (y6)] (.v (.o (.s))) fun y7 =>
    .rq ({ data := { toList := [(114 : UInt8), (101 : UInt8), (115 : UInt8), (116 : UInt8), (32 : UInt8)] : Array UInt8 } : ByteArray }.size + y7.size ≤ (9223372036854775807 : Nat)) <|
    .rq (({ data := { toList := [(114 : UInt8), (101 : UInt8), (115 : UInt8), (116 : UInt8), (32 : UInt8)] : Array UInt8 } : ByteArray } ++ y7).size + { data := { toList := [(10 : UInt8)] : Array UInt8 } : ByteArray }.size ≤ (9223372036854775807 : Nat)) <|
    .rq (ByteArray.size y4.fst + ({ data := { toList := [(114 : UInt8), (101 : UInt8), (115 : UInt8), (116 : UInt8), (32 : UInt8)] : Array UInt8 } : ByteArray } ++ y7 ++ { data := { toList := [(10 : UInt8)] : Array UInt8 } : ByteArray }).size ≤ (9223372036854775807 : Nat)) <|
    .nx 2 [.v (.string (y4.fst ++ ({ data := { toList := [(114 : UInt8), (101 : UInt8), (115 : UInt8), (116 : UInt8), (32 : UInt8)] : Array UInt8 } : ByteArray } ++ y7 ++ { data := { toList := [(10 : UInt8)] : Array UInt8 } : ByteArray }))), .v (.int .i64 (Go.IntKind.i64.wrap (y4.2.fst + (1 : Int))))]) <|
  .ret [.string (y4.fst)]
theorem fI_LedgerText (x0 : SlV × SlV × ByteArray × SlV × PUnit) : fits Tryz.prog aI_LedgerText 7 [Sh1.val (.g [.l, .l, .s, .l]) (x0)] (tI_LedgerText x0) :=
  ⟨Tryz.f7, Tryz.f7.body.getD .skip, by kernel_rfl, by kernel_rfl, by kernel_rfl, by kernel_rfl, by kernel_rfl, by kernel_rfl⟩
/-! loop.example/g00793/laws.eqLedger -/
def aL_eqLedger : An := ⟨[], [], []⟩
noncomputable def tL_eqLedger (x0 : SlV × SlV × ByteArray × SlV × PUnit) (x1 : SlV × SlV × ByteArray × SlV × PUnit) : T :=
  .call false 23 [Sh1.val (.g [.l]) (x0.1, ()), Sh1.val (.g [.l]) (x1.1, ())] (.v (.o (.b))) fun y1 =>
  .br (!y1) (
    .ret [.bool (false)]) <|
  .call false 24 [Sc.val .l (x0.2.1), Sc.val .l (x1.2.1)] (.v (.o (.b))) fun y2 =>
  .br (!y2) (
    .ret [.bool (false)]) <|
  .call false 25 [Sh1.val (.g [.s, .l]) (x0.2.2), Sh1.val (.g [.s, .l]) (x1.2.2)] (.v (.o (.b))) fun y3 =>
  .br (!y3) (
    .ret [.bool (false)]) <|
  .ret [.bool (true)]
theorem fL_eqLedger (x0 : SlV × SlV × ByteArray × SlV × PUnit) (x1 : SlV × SlV × ByteArray × SlV × PUnit) : fits Tryz.prog aL_eqLedger 8 [Sh1.val (.g [.l, .l, .s, .l]) (x0), Sh1.val (.g [.l, .l, .s, .l]) (x1)] (tL_eqLedger x0 x1) :=
  ⟨Tryz.f8, Tryz.f8.body.getD .skip, by kernel_rfl, by kernel_rfl, by kernel_rfl, by kernel_rfl, by kernel_rfl, by kernel_rfl⟩
/-! loop.example/g00793/laws.szBook -/
def aL_szBook : An := ⟨[], [], []⟩
noncomputable def tL_szBook (x0 : SlV × PUnit) (x1 : Int) : T :=
  .call false 26 [Sc.val .l (x0.1), .int .i64 (x1)] (.v (.o (.i .i64))) fun y1 =>
  .br (decide (y1 < (0 : Int))) (
    .ret [.int .i64 ((-1 : Int))]) <|
  .ret [.int .i64 (y1)]
theorem fL_szBook (x0 : SlV × PUnit) (x1 : Int) : fits Tryz.prog aL_szBook 9 [Sh1.val (.g [.l]) (x0), .int .i64 (x1)] (tL_szBook x0 x1) :=
  ⟨Tryz.f9, Tryz.f9.body.getD .skip, by kernel_rfl, by kernel_rfl, by kernel_rfl, by kernel_rfl, by kernel_rfl, by kernel_rfl⟩
/-! loop.example/g00793/laws.szRestS -/
def aL_szRestS : An := ⟨[(5, [.s 1, .s 5], [.o (.o (.i .i64)), .o (.o (.i .i64))])], [], []⟩
noncomputable def tL_szRestS (x0 : SlV) (x1 : Int) : T :=
  .br (decide (Go.IntKind.i64.wrap (x1 - (↑x0.n : Int)) < (0 : Int))) (
    .ret [.int .i64 ((-1 : Int))]) <|
  .lp [.o (.o (.i .i64)), .o (.o (.i .i64))] [.v (.int .i64 (Go.IntKind.i64.wrap (x1 - (↑x0.n : Int)))), .v (.int .i64 ((0 : Int)))] fun y1 =>
  .br (decide (y1.2.fst < (↑x0.n : Int))) (
    .el (x0.a) (x0.n) (y1.2.fst) fun y2 =>
    .ld false (y2.add (Int.toNat y1.2.fst * (4 : Nat))) (.g [.s, .b, .l, .l]) fun y3 =>
    .call false 27 [Sh1.val (.g [.s, .b, .l, .l]) (y3), .int .i64 (y1.fst)] (.v (.o (.i .i64))) fun y4 =>
    .br (decide (y4 < (0 : Int))) (
      .ret [.int .i64 ((-1 : Int))]) <|
    .nx 0 [.v (.int .i64 (y4)), .v (.int .i64 (Go.IntKind.i64.wrap (y1.2.fst + (1 : Int))))]) <|
  .ret [.int .i64 (y1.fst)]
theorem fL_szRestS (x0 : SlV) (x1 : Int) : fits Tryz.prog aL_szRestS 10 [Sc.val .l (x0), .int .i64 (x1)] (tL_szRestS x0 x1) :=
  ⟨Tryz.f10, Tryz.f10.body.getD .skip, by kernel_rfl, by kernel_rfl, by kernel_rfl, by kernel_rfl, by kernel_rfl, by kernel_rfl⟩
/-! loop.example/g00793/laws.szRates -/
def aL_szRates : An := ⟨[], [], []⟩
noncomputable def tL_szRates (x0 : ByteArray × SlV × PUnit) (x1 : Int) : T :=
  .br (decide (Go.IntKind.i64.wrap (x1 - (↑(ByteArray.size x0.fst) : Int)) < (0 : Int))) (
    .ret [.int .i64 ((-1 : Int))]) <|
  .call false 28 [Sc.val .l (x0.2.1), .int .i64 (Go.IntKind.i64.wrap (x1 - (↑(ByteArray.size x0.fst) : Int)))] (.v (.o (.i .i64))) fun y1 =>
  .br (decide (y1 < (0 : Int))) (
    .ret [.int .i64 ((-1 : Int))]) <|
  .ret [.int .i64 (y1)]
theorem fL_szRates (x0 : ByteArray × SlV × PUnit) (x1 : Int) : fits Tryz.prog aL_szRates 11 [Sh1.val (.g [.s, .l]) (x0), .int .i64 (x1)] (tL_szRates x0 x1) :=
  ⟨Tryz.f11, Tryz.f11.body.getD .skip, by kernel_rfl, by kernel_rfl, by kernel_rfl, by kernel_rfl, by kernel_rfl, by kernel_rfl⟩
/-! loop.example/g00793/spec.LedgerOk -/
def aS_LedgerOk : An := ⟨[], [], []⟩
noncomputable def tS_LedgerOk (x0 : SlV × SlV × ByteArray × SlV × PUnit) : T :=
  .call false 29 [Sh1.val (.g [.l]) (x0.1, ())] (.v (.o (.b))) fun y1 =>
  .br (y1) (
    .call false 30 [Sc.val .l (x0.2.1)] (.v (.o (.b))) fun y2 =>
    .br (y2) (
      .call false 31 [Sh1.val (.g [.s, .l]) (x0.2.2)] (.v (.o (.b))) fun y3 =>
      .ret [.bool (y3)]) <|
    .ret [.bool (false)]) <|
  .ret [.bool (false)]
theorem fS_LedgerOk (x0 : SlV × SlV × ByteArray × SlV × PUnit) : fits Tryz.prog aS_LedgerOk 12 [Sh1.val (.g [.l, .l, .s, .l]) (x0)] (tS_LedgerOk x0) :=
  ⟨Tryz.f12, Tryz.f12.body.getD .skip, by kernel_rfl, by kernel_rfl, by kernel_rfl, by kernel_rfl, by kernel_rfl, by kernel_rfl⟩
/-! loop.example/g00793/spec.RateText -/
def aS_RateText : An := ⟨[], [], []⟩
noncomputable def tS_RateText (x0 : ByteArray × ByteArray × Bool × SlV × Int × PUnit) : T :=
  .call false 32 [Sh1.val (.g [.s, .s, .b, .l, .i .i64]) (x0)] (.v (.o (.b))) fun y1 =>
  .br (!y1) (
    .ret [.string ({ data := { toList := [] : Array UInt8 } : ByteArray })]) <|
  .rg <|
  .rq (ByteArray.size x0.fst + { data := { toList := [(32 : UInt8)] : Array UInt8 } : ByteArray }.size ≤ (9223372036854775807 : Nat)) <|
  .rq ((x0.fst ++ { data := { toList := [(32 : UInt8)] : Array UInt8 } : ByteArray }).size + ByteArray.size x0.2.fst ≤ (9223372036854775807 : Nat)) <|
  .rq ((x0.fst ++ { data := { toList := [(32 : UInt8)] : Array UInt8 } : ByteArray } ++ x0.2.fst).size + { data := { toList := [(32 : UInt8)] : Array UInt8 } : ByteArray }.size ≤ (9223372036854775807 : Nat)) <|
  .call true 33 [Sh1.val (.g [.b, .l, .i .i64]) (x0.2.2)] (.v (.o (.s))) fun y2 =>
  .rq ((x0.fst ++ { data := { toList := [(32 : UInt8)] : Array UInt8 } : ByteArray } ++ x0.2.fst ++ { data := { toList := [(32 : UInt8)] : Array UInt8 } : ByteArray }).size + y2.size ≤ (9223372036854775807 : Nat)) <|
  .ret [.string (x0.fst ++ { data := { toList := [(32 : UInt8)] : Array UInt8 } : ByteArray } ++ x0.2.fst ++ { data := { toList := [(32 : UInt8)] : Array UInt8 } : ByteArray } ++ y2)]
theorem fS_RateText (x0 : ByteArray × ByteArray × Bool × SlV × Int × PUnit) : fits Tryz.prog aS_RateText 13 [Sh1.val (.g [.s, .s, .b, .l, .i .i64]) (x0)] (tS_RateText x0) :=
  ⟨Tryz.f13, Tryz.f13.body.getD .skip, by kernel_rfl, by kernel_rfl, by kernel_rfl, by kernel_rfl, by kernel_rfl, by kernel_rfl⟩
/-! loop.example/g00793/spec.MoneyText -/
def aS_MoneyText : An := ⟨[], [], []⟩
noncomputable def tS_MoneyText (x0 : ByteArray × Bool × SlV × PUnit) : T :=
  .call false 34 [Sh1.val (.g [.s, .b, .l]) (x0)] (.v (.o (.b))) fun y1 =>
  .br (!y1) (
    .ret [.string ({ data := { toList := [] : Array UInt8 } : ByteArray })]) <|
  .rg <|
  .rq (ByteArray.size x0.fst + { data := { toList := [(32 : UInt8)] : Array UInt8 } : ByteArray }.size ≤ (9223372036854775807 : Nat)) <|
  .call true 35 [.string (x0.fst)] (.v (.o (.i .i64))) fun y2 =>
  .call true 33 [Sh1.val (.g [.b, .l, .i .i64]) ((x0.2.fst), x0.2.2.1, ((y2) : Int), ())] (.v (.o (.s))) fun y3 =>
  .rq ((x0.fst ++ { data := { toList := [(32 : UInt8)] : Array UInt8 } : ByteArray }).size + y3.size ≤ (9223372036854775807 : Nat)) <|
  .ret [.string (x0.fst ++ { data := { toList := [(32 : UInt8)] : Array UInt8 } : ByteArray } ++ y3)]
theorem fS_MoneyText (x0 : ByteArray × Bool × SlV × PUnit) : fits Tryz.prog aS_MoneyText 14 [Sh1.val (.g [.s, .b, .l]) (x0)] (tS_MoneyText x0) :=
  ⟨Tryz.f14, Tryz.f14.body.getD .skip, by kernel_rfl, by kernel_rfl, by kernel_rfl, by kernel_rfl, by kernel_rfl, by kernel_rfl⟩
/-! loop.example/g00793/spec.RatText -/
def aS_RatText : An := ⟨[], [], []⟩
noncomputable def tS_RatText (x0 : Bool × SlV × SlV × PUnit) : T :=
  .call false 36 [Sh1.val (.g [.b, .l, .l]) (x0)] (.v (.o (.b))) fun y1 =>
  .br (!y1) (
    .ret [.string ({ data := { toList := [] : Array UInt8 } : ByteArray })]) <|
  .fz ((1 : Nat)) [.int .i64 ((1 : Int))] 3 fun b2 c2 =>
  .call false 37 [Sc.val .l (x0.2.2.1), .slice (some { block := b2, off := (0 : Nat) : Go.Addr }) ((1 : Nat)) (c2)] (.v (.o (.i .i64))) fun y3 =>
  .br (y3 == (0 : Int)) (
    .call false 38 [Sh1.val (.g [.b, .l]) ((x0.fst), x0.2.1, ())] (.v (.o (.s))) fun y4 =>
    .ret [.string (y4)]) <|
  .rg <|
  .call true 38 [Sh1.val (.g [.b, .l]) ((x0.fst), x0.2.1, ())] (.v (.o (.s))) fun y4 =>
  .rq (y4.size + { data := { toList := [(47 : UInt8)] : Array UInt8 } : ByteArray }.size ≤ (9223372036854775807 : Nat)) <|
  .call true 39 [Sc.val .l (x0.2.2.1)] (.v (.o (.s))) fun y5 =>
  .rq ((y4 ++ { data := { toList := [(47 : UInt8)] : Array UInt8 } : ByteArray }).size + y5.size ≤ (9223372036854775807 : Nat)) <|
  .ret [.string (y4 ++ { data := { toList := [(47 : UInt8)] : Array UInt8 } : ByteArray } ++ y5)]
theorem fS_RatText (x0 : Bool × SlV × SlV × PUnit) : fits Tryz.prog aS_RatText 15 [Sh1.val (.g [.b, .l, .l]) (x0)] (tS_RatText x0) :=
  ⟨Tryz.f15, Tryz.f15.body.getD .skip, by kernel_rfl, by kernel_rfl, by kernel_rfl, by kernel_rfl, by kernel_rfl, by kernel_rfl⟩
/-! loop.example/g00793/laws.toBook -/
def aL_toBook : An := ⟨[], [], []⟩
noncomputable def tL_toBook (x0 : SlV × PUnit) : T :=
  .call false 40 [Sc.val .l (x0.1)] (.v (.o (.l))) fun y1 =>
  .ret [Sh1.val (.g [.l]) (y1, ())]
theorem fL_toBook (x0 : SlV × PUnit) : fits Tryz.prog aL_toBook 16 [Sh1.val (.g [.l]) (x0)] (tL_toBook x0) :=
  ⟨Tryz.f16, Tryz.f16.body.getD .skip, by kernel_rfl, by kernel_rfl, by kernel_rfl, by kernel_rfl, by kernel_rfl, by kernel_rfl⟩
/-! loop.example/g00793/laws.toRestS -/
def aL_toRestS : An := ⟨[(3, [.s 3, .s 4], [.a 65, .o (.o (.i .i64))])], [], []⟩
noncomputable def tL_toRestS (x0 : SlV) : T :=
  .rq ((0 : Int) ≤ (↑x0.n : Int) ∧ (↑x0.n : Int) ≤ (↑x0.n : Int) ∧ (↑(72 : Nat) : Int) * (↑x0.n : Int) ≤ (281474976710656 : Int) ∧ (↑x0.n : Int) ≤ (9223372036854775807 : Int)) <|
  .lp [.a 65, .o (.o (.i .i64))] [.a 65 ((↑x0.n : Int).toNat) ((Go.madeCells { toList := [Go.Value.string { data := { toList := [] : Array UInt8 } : ByteArray }, Go.Value.bool false, Go.Value.slice none (0 : Nat) (0 : Nat), Go.Value.slice none (0 : Nat) (0 : Nat)] : Array Go.Value } ((↑x0.n : Int).toNat * (4 : Nat))).toList), .v (.int .i64 ((0 : Int)))] fun y1 =>
  .br (decide (y1.2.fst < (↑x0.n : Int))) (
    .el (x0.a) (x0.n) (y1.2.fst) fun y2 =>
    .ld false (y2.add (Int.toNat y1.2.fst * (4 : Nat))) (.g [.s, .b, .l, .l]) fun y3 =>
    .call false 41 [Sh1.val (.g [.s, .b, .l, .l]) (y3)] (.v (.g [.s, .b, .l, .l])) fun y4 =>
    .rq ((0 : Int) ≤ y1.2.fst ∧ y1.2.fst < (↑y1.1.fst : Int)) <|
    .rq (Int.toNat y1.2.fst * (4 : Nat) + [Go.Value.string y4.fst, Go.Value.bool y4.2.fst, Go.Value.slice y4.2.2.1.a y4.2.2.1.n y4.2.2.1.c, Go.Value.slice y4.2.2.2.1.a y4.2.2.2.1.n y4.2.2.2.1.c].length ≤ y1.1.snd.length) <|
    .nx 0 [.a 65 (y1.1.fst) (setl y1.1.snd (Int.toNat y1.2.fst * (4 : Nat)) [Go.Value.string y4.fst, Go.Value.bool y4.2.fst, Go.Value.slice y4.2.2.1.a y4.2.2.1.n y4.2.2.1.c, Go.Value.slice y4.2.2.2.1.a y4.2.2.2.1.n y4.2.2.2.1.c]), .v (.int .i64 (Go.IntKind.i64.wrap (y1.2.fst + (1 : Int))))]) <|
  .fz (y1.1.fst) (y1.1.snd) 65 fun b2 c2 =>
  .ret [.slice (some { block := b2, off := (0 : Nat) : Go.Addr }) (y1.1.fst) (c2)]
theorem fL_toRestS (x0 : SlV) : fits Tryz.prog aL_toRestS 17 [Sc.val .l (x0)] (tL_toRestS x0) :=
  ⟨Tryz.f17, Tryz.f17.body.getD .skip, by kernel_rfl, by kernel_rfl, by kernel_rfl, by kernel_rfl, by kernel_rfl, by kernel_rfl⟩
/-! loop.example/g00793/laws.toRates -/
def aL_toRates : An := ⟨[], [], []⟩
noncomputable def tL_toRates (x0 : ByteArray × SlV × PUnit) : T :=
  .call false 42 [Sc.val .l (x0.2.1)] (.v (.o (.l))) fun y1 =>
  .ret [Sh1.val (.g [.s, .l]) ((x0.fst), y1, ())]
theorem fL_toRates (x0 : ByteArray × SlV × PUnit) : fits Tryz.prog aL_toRates 18 [Sh1.val (.g [.s, .l]) (x0)] (tL_toRates x0) :=
  ⟨Tryz.f18, Tryz.f18.body.getD .skip, by kernel_rfl, by kernel_rfl, by kernel_rfl, by kernel_rfl, by kernel_rfl, by kernel_rfl⟩
/-! loop.example/g00793/impl.LedgerOk -/
def aI_LedgerOk : An := ⟨[], [], []⟩
noncomputable def tI_LedgerOk (x0 : SlV × SlV × ByteArray × SlV × PUnit) : T :=
  .call false 43 [Sh1.val (.g [.l]) (x0.1, ())] (.v (.o (.b))) fun y1 =>
  .br (y1) (
    .call false 44 [Sc.val .l (x0.2.1)] (.v (.o (.b))) fun y2 =>
    .br (y2) (
      .call false 45 [Sh1.val (.g [.s, .l]) (x0.2.2)] (.v (.o (.b))) fun y3 =>
      .ret [.bool (y3)]) <|
    .ret [.bool (false)]) <|
  .ret [.bool (false)]
theorem fI_LedgerOk (x0 : SlV × SlV × ByteArray × SlV × PUnit) : fits Tryz.prog aI_LedgerOk 19 [Sh1.val (.g [.l, .l, .s, .l]) (x0)] (tI_LedgerOk x0) :=
  ⟨Tryz.f19, Tryz.f19.body.getD .skip, by kernel_rfl, by kernel_rfl, by kernel_rfl, by kernel_rfl, by kernel_rfl, by kernel_rfl⟩
/-! loop.example/g00793/impl.RateText -/
def aI_RateText : An := ⟨[], [], []⟩
noncomputable def tI_RateText (x0 : ByteArray × ByteArray × Bool × SlV × Int × PUnit) : T :=
  .call false 46 [Sh1.val (.g [.s, .s, .b, .l, .i .i64]) (x0)] (.v (.o (.b))) fun y1 =>
  .br (!y1) (
    .ret [.string ({ data := { toList := [] : Array UInt8 } : ByteArray })]) <|
  .rg <|
  .rq (ByteArray.size x0.fst + { data := { toList := [(32 : UInt8)] : Array UInt8 } : ByteArray }.size ≤ (9223372036854775807 : Nat)) <|
  .rq ((x0.fst ++ { data := { toList := [(32 : UInt8)] : Array UInt8 } : ByteArray }).size + ByteArray.size x0.2.fst ≤ (9223372036854775807 : Nat)) <|
  .rq ((x0.fst ++ { data := { toList := [(32 : UInt8)] : Array UInt8 } : ByteArray } ++ x0.2.fst).size + { data := { toList := [(32 : UInt8)] : Array UInt8 } : ByteArray }.size ≤ (9223372036854775807 : Nat)) <|
  .call true 47 [Sh1.val (.g [.b, .l, .i .i64]) (x0.2.2)] (.v (.o (.s))) fun y2 =>
  .rq ((x0.fst ++ { data := { toList := [(32 : UInt8)] : Array UInt8 } : ByteArray } ++ x0.2.fst ++ { data := { toList := [(32 : UInt8)] : Array UInt8 } : ByteArray }).size + y2.size ≤ (9223372036854775807 : Nat)) <|
  .ret [.string (x0.fst ++ { data := { toList := [(32 : UInt8)] : Array UInt8 } : ByteArray } ++ x0.2.fst ++ { data := { toList := [(32 : UInt8)] : Array UInt8 } : ByteArray } ++ y2)]
theorem fI_RateText (x0 : ByteArray × ByteArray × Bool × SlV × Int × PUnit) : fits Tryz.prog aI_RateText 20 [Sh1.val (.g [.s, .s, .b, .l, .i .i64]) (x0)] (tI_RateText x0) :=
  ⟨Tryz.f20, Tryz.f20.body.getD .skip, by kernel_rfl, by kernel_rfl, by kernel_rfl, by kernel_rfl, by kernel_rfl, by kernel_rfl⟩
/-! loop.example/g00793/impl.MoneyText -/
def aI_MoneyText : An := ⟨[], [], []⟩
noncomputable def tI_MoneyText (x0 : ByteArray × Bool × SlV × PUnit) : T :=
  .call false 48 [Sh1.val (.g [.s, .b, .l]) (x0)] (.v (.o (.b))) fun y1 =>
  .br (!y1) (
    .ret [.string ({ data := { toList := [] : Array UInt8 } : ByteArray })]) <|
  .rg <|
  .rq (ByteArray.size x0.fst + { data := { toList := [(32 : UInt8)] : Array UInt8 } : ByteArray }.size ≤ (9223372036854775807 : Nat)) <|
  .call true 49 [.string (x0.fst)] (.v (.o (.i .i64))) fun y2 =>
  .call true 47 [Sh1.val (.g [.b, .l, .i .i64]) ((x0.2.fst), x0.2.2.1, ((y2) : Int), ())] (.v (.o (.s))) fun y3 =>
  .rq ((x0.fst ++ { data := { toList := [(32 : UInt8)] : Array UInt8 } : ByteArray }).size + y3.size ≤ (9223372036854775807 : Nat)) <|
  .ret [.string (x0.fst ++ { data := { toList := [(32 : UInt8)] : Array UInt8 } : ByteArray } ++ y3)]
theorem fI_MoneyText (x0 : ByteArray × Bool × SlV × PUnit) : fits Tryz.prog aI_MoneyText 21 [Sh1.val (.g [.s, .b, .l]) (x0)] (tI_MoneyText x0) :=
  ⟨Tryz.f21, Tryz.f21.body.getD .skip, by kernel_rfl, by kernel_rfl, by kernel_rfl, by kernel_rfl, by kernel_rfl, by kernel_rfl⟩
/-! loop.example/g00793/impl.restText -/
def aI_restText : An := ⟨[], [], []⟩
noncomputable def tI_restText (x0 : ByteArray × Bool × SlV × SlV × PUnit) : T :=
  .rg <|
  .rq (ByteArray.size x0.fst + { data := { toList := [(32 : UInt8)] : Array UInt8 } : ByteArray }.size ≤ (9223372036854775807 : Nat)) <|
  .call true 50 [Sh1.val (.g [.b, .l, .l]) (x0.2)] (.v (.o (.s))) fun y1 =>
  .rq ((x0.fst ++ { data := { toList := [(32 : UInt8)] : Array UInt8 } : ByteArray }).size + y1.size ≤ (9223372036854775807 : Nat)) <|
  .ret [.string (x0.fst ++ { data := { toList := [(32 : UInt8)] : Array UInt8 } : ByteArray } ++ y1)]
theorem fI_restText (x0 : ByteArray × Bool × SlV × SlV × PUnit) : fits Tryz.prog aI_restText 22 [Sh1.val (.g [.s, .b, .l, .l]) (x0)] (tI_restText x0) :=
  ⟨Tryz.f22, Tryz.f22.body.getD .skip, by kernel_rfl, by kernel_rfl, by kernel_rfl, by kernel_rfl, by kernel_rfl, by kernel_rfl⟩
/-! loop.example/g00793/laws.eqBook -/
def aL_eqBook : An := ⟨[], [], []⟩
noncomputable def tL_eqBook (x0 : SlV × PUnit) (x1 : SlV × PUnit) : T :=
  .call false 51 [Sc.val .l (x0.1), Sc.val .l (x1.1)] (.v (.o (.b))) fun y1 =>
  .br (!y1) (
    .ret [.bool (false)]) <|
  .ret [.bool (true)]
theorem fL_eqBook (x0 : SlV × PUnit) (x1 : SlV × PUnit) : fits Tryz.prog aL_eqBook 23 [Sh1.val (.g [.l]) (x0), Sh1.val (.g [.l]) (x1)] (tL_eqBook x0 x1) :=
  ⟨Tryz.f23, Tryz.f23.body.getD .skip, by kernel_rfl, by kernel_rfl, by kernel_rfl, by kernel_rfl, by kernel_rfl, by kernel_rfl⟩
/-! loop.example/g00793/laws.eqRestS -/
def aL_eqRestS : An := ⟨[(4, [.s 5], [.o (.o (.i .i64))])], [], []⟩
noncomputable def tL_eqRestS (x0 : SlV) (x1 : SlV) : T :=
  .br ((↑x0.n : Int) != (↑x1.n : Int)) (
    .ret [.bool (false)]) <|
  .lp [.o (.o (.i .i64))] [.v (.int .i64 ((0 : Int)))] fun y1 =>
  .br (decide (y1.fst < (↑x0.n : Int))) (
    .rg <|
    .el (x0.a) (x0.n) (y1.fst) fun y2 =>
    .ld true (y2.add (Int.toNat y1.fst * (4 : Nat))) (.g [.s, .b, .l, .l]) fun y3 =>
    .el (x1.a) (x1.n) (y1.fst) fun y4 =>
    .ld true (y4.add (Int.toNat y1.fst * (4 : Nat))) (.g [.s, .b, .l, .l]) fun y5 =>
    .call true 52 [Sh1.val (.g [.s, .b, .l, .l]) (y3), Sh1.val (.g [.s, .b, .l, .l]) (y5)] (.v (.o (.b))) fun y6 =>
    .br (!y6) (
      .ret [.bool (false)]) <|
    .nx 0 [.v (.int .i64 (Go.IntKind.i64.wrap (y1.fst + (1 : Int))))]) <|
  .ret [.bool (true)]
theorem fL_eqRestS (x0 : SlV) (x1 : SlV) : fits Tryz.prog aL_eqRestS 24 [Sc.val .l (x0), Sc.val .l (x1)] (tL_eqRestS x0 x1) :=
  ⟨Tryz.f24, Tryz.f24.body.getD .skip, by kernel_rfl, by kernel_rfl, by kernel_rfl, by kernel_rfl, by kernel_rfl, by kernel_rfl⟩
/-! loop.example/g00793/laws.eqRates -/
def aL_eqRates : An := ⟨[], [], []⟩
noncomputable def tL_eqRates (x0 : ByteArray × SlV × PUnit) (x1 : ByteArray × SlV × PUnit) : T :=
  .br (!ByteArray.toList x0.fst == ByteArray.toList x1.fst) (
    .ret [.bool (false)]) <|
  .call false 53 [Sc.val .l (x0.2.1), Sc.val .l (x1.2.1)] (.v (.o (.b))) fun y1 =>
  .br (!y1) (
    .ret [.bool (false)]) <|
  .ret [.bool (true)]
theorem fL_eqRates (x0 : ByteArray × SlV × PUnit) (x1 : ByteArray × SlV × PUnit) : fits Tryz.prog aL_eqRates 25 [Sh1.val (.g [.s, .l]) (x0), Sh1.val (.g [.s, .l]) (x1)] (tL_eqRates x0 x1) :=
  ⟨Tryz.f25, Tryz.f25.body.getD .skip, by kernel_rfl, by kernel_rfl, by kernel_rfl, by kernel_rfl, by kernel_rfl, by kernel_rfl⟩
/-! loop.example/g00793/laws.szAcctS -/
def aL_szAcctS : An := ⟨[(5, [.s 1, .s 5], [.o (.o (.i .i64)), .o (.o (.i .i64))])], [], []⟩
noncomputable def tL_szAcctS (x0 : SlV) (x1 : Int) : T :=
  .br (decide (Go.IntKind.i64.wrap (x1 - (↑x0.n : Int)) < (0 : Int))) (
    .ret [.int .i64 ((-1 : Int))]) <|
  .lp [.o (.o (.i .i64)), .o (.o (.i .i64))] [.v (.int .i64 (Go.IntKind.i64.wrap (x1 - (↑x0.n : Int)))), .v (.int .i64 ((0 : Int)))] fun y1 =>
  .br (decide (y1.2.fst < (↑x0.n : Int))) (
    .el (x0.a) (x0.n) (y1.2.fst) fun y2 =>
    .ld false (y2.add (Int.toNat y1.2.fst * (4 : Nat))) (.g [.s, .s, .b, .l]) fun y3 =>
    .call false 54 [Sh1.val (.g [.s, .s, .b, .l]) (y3), .int .i64 (y1.fst)] (.v (.o (.i .i64))) fun y4 =>
    .br (decide (y4 < (0 : Int))) (
      .ret [.int .i64 ((-1 : Int))]) <|
    .nx 0 [.v (.int .i64 (y4)), .v (.int .i64 (Go.IntKind.i64.wrap (y1.2.fst + (1 : Int))))]) <|
  .ret [.int .i64 (y1.fst)]
theorem fL_szAcctS (x0 : SlV) (x1 : Int) : fits Tryz.prog aL_szAcctS 26 [Sc.val .l (x0), .int .i64 (x1)] (tL_szAcctS x0 x1) :=
  ⟨Tryz.f26, Tryz.f26.body.getD .skip, by kernel_rfl, by kernel_rfl, by kernel_rfl, by kernel_rfl, by kernel_rfl, by kernel_rfl⟩
/-! loop.example/g00793/laws.szRest -/
def aL_szRest : An := ⟨[], [], []⟩
noncomputable def tL_szRest (x0 : ByteArray × Bool × SlV × SlV × PUnit) (x1 : Int) : T :=
  .br (decide (Go.IntKind.i64.wrap (x1 - (↑(ByteArray.size x0.fst) : Int)) < (0 : Int))) (
    .ret [.int .i64 ((-1 : Int))]) <|
  .call false 55 [Sh1.val (.g [.b, .l, .l]) (x0.2), .int .i64 (Go.IntKind.i64.wrap (x1 - (↑(ByteArray.size x0.fst) : Int)))] (.v (.o (.i .i64))) fun y1 =>
  .br (decide (y1 < (0 : Int))) (
    .ret [.int .i64 ((-1 : Int))]) <|
  .ret [.int .i64 (y1)]
theorem fL_szRest (x0 : ByteArray × Bool × SlV × SlV × PUnit) (x1 : Int) : fits Tryz.prog aL_szRest 27 [Sh1.val (.g [.s, .b, .l, .l]) (x0), .int .i64 (x1)] (tL_szRest x0 x1) :=
  ⟨Tryz.f27, Tryz.f27.body.getD .skip, by kernel_rfl, by kernel_rfl, by kernel_rfl, by kernel_rfl, by kernel_rfl, by kernel_rfl⟩
/-! loop.example/g00793/laws.szRateS -/
def aL_szRateS : An := ⟨[(5, [.s 1, .s 5], [.o (.o (.i .i64)), .o (.o (.i .i64))])], [], []⟩
noncomputable def tL_szRateS (x0 : SlV) (x1 : Int) : T :=
  .br (decide (Go.IntKind.i64.wrap (x1 - (↑x0.n : Int)) < (0 : Int))) (
    .ret [.int .i64 ((-1 : Int))]) <|
  .lp [.o (.o (.i .i64)), .o (.o (.i .i64))] [.v (.int .i64 (Go.IntKind.i64.wrap (x1 - (↑x0.n : Int)))), .v (.int .i64 ((0 : Int)))] fun y1 =>
  .br (decide (y1.2.fst < (↑x0.n : Int))) (
    .el (x0.a) (x0.n) (y1.2.fst) fun y2 =>
    .ld false (y2.add (Int.toNat y1.2.fst * (5 : Nat))) (.g [.s, .s, .b, .l, .i .i64]) fun y3 =>
    .call false 56 [Sh1.val (.g [.s, .s, .b, .l, .i .i64]) (y3), .int .i64 (y1.fst)] (.v (.o (.i .i64))) fun y4 =>
    .br (decide (y4 < (0 : Int))) (
      .ret [.int .i64 ((-1 : Int))]) <|
    .nx 0 [.v (.int .i64 (y4)), .v (.int .i64 (Go.IntKind.i64.wrap (y1.2.fst + (1 : Int))))]) <|
  .ret [.int .i64 (y1.fst)]
theorem fL_szRateS (x0 : SlV) (x1 : Int) : fits Tryz.prog aL_szRateS 28 [Sc.val .l (x0), .int .i64 (x1)] (tL_szRateS x0 x1) :=
  ⟨Tryz.f28, Tryz.f28.body.getD .skip, by kernel_rfl, by kernel_rfl, by kernel_rfl, by kernel_rfl, by kernel_rfl, by kernel_rfl⟩
/-! loop.example/g00793/spec.BookOk -/
def aS_BookOk : An := ⟨[(2, [.s 8], [.o (.o (.i .i64))])], [], []⟩
noncomputable def tS_BookOk (x0 : SlV × PUnit) : T :=
  .lp [.o (.o (.i .i64))] [.v (.int .i64 ((0 : Int)))] fun y1 =>
  .br (decide (y1.fst < (↑x0.1.n : Int))) (
    .el (x0.1.a) (x0.1.n) (y1.fst) fun y2 =>
    .ld false (y2.add (Int.toNat y1.fst * (4 : Nat))) (.g [.s, .s, .b, .l]) fun y3 =>
    .rg <|
    .call true 57 [.string (y3.fst)] (.v (.o (.b))) fun y4 =>
    .br (!y4) (
      .ret [.bool (false)]) <|
    .call true 34 [Sh1.val (.g [.s, .b, .l]) (y3.2)] (.v (.o (.b))) fun y5 =>
    .br (!y5) (
      .ret [.bool (false)]) <|
    .br (decide (y1.fst > (0 : Int))) (
      .el (x0.1.a) (x0.1.n) (Go.IntKind.i64.wrap (y1.fst - (1 : Int))) fun y6 =>
      .ld true ((y6.add ((Go.IntKind.i64.wrap (y1.fst - (1 : Int))).toNat * (4 : Nat))).add (0 : Nat)) (.o (.s)) fun y7 =>
      .br (!Go.Op.bytesLess y7.toList (ByteArray.toList y3.fst)) (
        .ret [.bool (false)]) <|
      .nx 0 [.v (.int .i64 (Go.IntKind.i64.wrap (y1.fst + (1 : Int))))]) <|
    .nx 0 [.v (.int .i64 (Go.IntKind.i64.wrap (y1.fst + (1 : Int))))]) <|
  .ret [.bool (decide ((↑x0.1.n : Int) ≤ (12 : Int)))]
theorem fS_BookOk (x0 : SlV × PUnit) : fits Tryz.prog aS_BookOk 29 [Sh1.val (.g [.l]) (x0)] (tS_BookOk x0) :=
  ⟨Tryz.f29, Tryz.f29.body.getD .skip, by kernel_rfl, by kernel_rfl, by kernel_rfl, by kernel_rfl, by kernel_rfl, by kernel_rfl⟩
/-! loop.example/g00793/spec.RestsOk -/
def aS_RestsOk : An := ⟨[(2, [.s 7], [.o (.o (.i .i64))])], [], []⟩
noncomputable def tS_RestsOk (x0 : SlV) : T :=
  .lp [.o (.o (.i .i64))] [.v (.int .i64 ((0 : Int)))] fun y1 =>
  .br (decide (y1.fst < (↑x0.n : Int))) (
    .el (x0.a) (x0.n) (y1.fst) fun y2 =>
    .ld false (y2.add (Int.toNat y1.fst * (4 : Nat))) (.g [.s, .b, .l, .l]) fun y3 =>
    .rg <|
    .call true 58 [.string (y3.fst)] (.v (.o (.b))) fun y4 =>
    .br (!y4) (
      .ret [.bool (false)]) <|
    .call true 36 [Sh1.val (.g [.b, .l, .l]) (y3.2)] (.v (.o (.b))) fun y5 =>
    .br (!y5) (
      .ret [.bool (false)]) <|
    .call true 59 [Sh1.val (.g [.b, .l, .l]) (y3.2)] (.v (.o (.i .i64))) fun y6 =>
    .br (y6 == (0 : Int)) (
      .ret [.bool (false)]) <|
    .br (decide (y1.fst > (0 : Int))) (
      .el (x0.a) (x0.n) (Go.IntKind.i64.wrap (y1.fst - (1 : Int))) fun y7 =>
      .ld true ((y7.add ((Go.IntKind.i64.wrap (y1.fst - (1 : Int))).toNat * (4 : Nat))).add (0 : Nat)) (.o (.s)) fun y8 =>
      .br (!Go.Op.bytesLess y8.toList (ByteArray.toList y3.fst)) (
        .ret [.bool (false)]) <|
      .nx 0 [.v (.int .i64 (Go.IntKind.i64.wrap (y1.fst + (1 : Int))))]) <|
    .nx 0 [.v (.int .i64 (Go.IntKind.i64.wrap (y1.fst + (1 : Int))))]) <|
  .ret [.bool (true)]
theorem fS_RestsOk (x0 : SlV) : fits Tryz.prog aS_RestsOk 30 [Sc.val .l (x0)] (tS_RestsOk x0) :=
  ⟨Tryz.f30, Tryz.f30.body.getD .skip, by kernel_rfl, by kernel_rfl, by kernel_rfl, by kernel_rfl, by kernel_rfl, by kernel_rfl⟩
/-! loop.example/g00793/spec.RatesOk -/
def aS_RatesOk : An := ⟨[(4, [.s 18], [.o (.o (.i .i64))])], [], []⟩
noncomputable def tS_RatesOk (x0 : ByteArray × SlV × PUnit) : T :=
  .call false 58 [.string (x0.fst)] (.v (.o (.b))) fun y1 =>
  .br (!y1) (
    .ret [.bool (false)]) <|
  .br (decide ((↑x0.2.1.n : Int) > (12 : Int))) (
    .ret [.bool (false)]) <|
  .lp [.o (.o (.i .i64))] [.v (.int .i64 ((0 : Int)))] fun y2 =>
  .br (decide (y2.fst < (↑x0.2.1.n : Int))) (
    .el (x0.2.1.a) (x0.2.1.n) (y2.fst) fun y3 =>
    .ld false (y3.add (Int.toNat y2.fst * (5 : Nat))) (.g [.s, .s, .b, .l, .i .i64]) fun y4 =>
    .call false 32 [Sh1.val (.g [.s, .s, .b, .l, .i .i64]) (y4)] (.v (.o (.b))) fun y5 =>
    .br (!y5) (
      .ret [.bool (false)]) <|
    .call false 60 [Sc.val .l (x0.2.1), .string (y4.fst), .string (y4.2.fst)] (.v (.o (.i .i64))) fun y6 =>
    .br (y6 != y2.fst) (
      .ret [.bool (false)]) <|
    .nx 0 [.v (.int .i64 (Go.IntKind.i64.wrap (y2.fst + (1 : Int))))]) <|
  .ret [.bool (true)]
theorem fS_RatesOk (x0 : ByteArray × SlV × PUnit) : fits Tryz.prog aS_RatesOk 31 [Sh1.val (.g [.s, .l]) (x0)] (tS_RatesOk x0) :=
  ⟨Tryz.f31, Tryz.f31.body.getD .skip, by kernel_rfl, by kernel_rfl, by kernel_rfl, by kernel_rfl, by kernel_rfl, by kernel_rfl⟩
/-! loop.example/g00793/spec.RateOk -/
def aS_RateOk : An := ⟨[], [], []⟩
noncomputable def tS_RateOk (x0 : ByteArray × ByteArray × Bool × SlV × Int × PUnit) : T :=
  .call false 58 [.string (x0.fst)] (.v (.o (.b))) fun y1 =>
  .br (y1) (
    .call false 58 [.string (x0.2.fst)] (.v (.o (.b))) fun y2 =>
    .br (y2) (
      .br (!ByteArray.toList x0.fst == ByteArray.toList x0.2.fst) (
        .call false 61 [Sh1.val (.g [.b, .l, .i .i64]) (x0.2.2)] (.v (.o (.b))) fun y3 =>
        .br (y3) (
          .call false 62 [Sh1.val (.g [.b, .l]) ((x0.2.2.fst), x0.2.2.2.1, ())] (.v (.o (.i .i64))) fun y4 =>
          .br (decide (y4 > (0 : Int))) (
            .ret [.bool (decide ((↑x0.2.2.2.1.n : Int) ≤ (2 : Int)))]) <|
          .ret [.bool (false)]) <|
        .ret [.bool (false)]) <|
      .ret [.bool (false)]) <|
    .ret [.bool (false)]) <|
  .ret [.bool (false)]
theorem fS_RateOk (x0 : ByteArray × ByteArray × Bool × SlV × Int × PUnit) : fits Tryz.prog aS_RateOk 32 [Sh1.val (.g [.s, .s, .b, .l, .i .i64]) (x0)] (tS_RateOk x0) :=
  ⟨Tryz.f32, Tryz.f32.body.getD .skip, by kernel_rfl, by kernel_rfl, by kernel_rfl, by kernel_rfl, by kernel_rfl, by kernel_rfl⟩
/-! loop.example/g00793/spec.DecText -/
def aS_DecText : An := ⟨[], [], []⟩
noncomputable def tS_DecText (x0 : Bool × SlV × Int × PUnit) : T :=
  .call false 61 [Sh1.val (.g [.b, .l, .i .i64]) (x0)] (.v (.o (.b))) fun y1 =>
  .br (!y1) (
    .ret [.string ({ data := { toList := [] : Array UInt8 } : ByteArray })]) <|
  .rg <|
  .call true 39 [Sc.val .l (x0.2.1)] (.v (.o (.s))) fun y2 =>
  .call true 63 [.string (y2), .int .i64 (Go.IntKind.i64.wrap (x0.2.2.fst + (1 : Int)))] (.v (.o (.s))) fun y3 =>
  .br (decide (x0.2.2.fst > (0 : Int))) (
    .rg <|
    .rq ((0 : Int) ≤ (0 : Int) ∧ (0 : Int) ≤ Go.IntKind.i64.wrap ((↑y3.size : Int) - x0.2.2.fst) ∧ Go.IntKind.i64.wrap ((↑y3.size : Int) - x0.2.2.fst) ≤ (↑y3.size : Int)) <|
    .rq ((y3.extract (Int.toNat (0 : Int)) (Go.IntKind.i64.wrap ((↑y3.size : Int) - x0.2.2.fst)).toNat).size + { data := { toList := [(46 : UInt8)] : Array UInt8 } : ByteArray }.size ≤ (9223372036854775807 : Nat)) <|
    .rq ((0 : Int) ≤ Go.IntKind.i64.wrap ((↑y3.size : Int) - x0.2.2.fst) ∧ Go.IntKind.i64.wrap ((↑y3.size : Int) - x0.2.2.fst) ≤ (↑y3.size : Int) ∧ (↑y3.size : Int) ≤ (↑y3.size : Int)) <|
    .rq ((y3.extract (Int.toNat (0 : Int)) (Go.IntKind.i64.wrap ((↑y3.size : Int) - x0.2.2.fst)).toNat ++ { data := { toList := [(46 : UInt8)] : Array UInt8 } : ByteArray }).size + (y3.extract (Go.IntKind.i64.wrap ((↑y3.size : Int) - x0.2.2.fst)).toNat (↑y3.size : Int).toNat).size ≤ (9223372036854775807 : Nat)) <|
    .br (x0.fst) (
      .rq ({ data := { toList := [(45 : UInt8)] : Array UInt8 } : ByteArray }.size + (y3.extract (Int.toNat (0 : Int)) (Go.IntKind.i64.wrap ((↑y3.size : Int) - x0.2.2.fst)).toNat ++ { data := { toList := [(46 : UInt8)] : Array UInt8 } : ByteArray } ++ y3.extract (Go.IntKind.i64.wrap ((↑y3.size : Int) - x0.2.2.fst)).toNat (↑y3.size : Int).toNat).size ≤ (9223372036854775807 : Nat)) <|
      .ret [.string ({ data := { toList := [(45 : UInt8)] : Array UInt8 } : ByteArray } ++ (y3.extract (Int.toNat (0 : Int)) (Go.IntKind.i64.wrap ((↑y3.size : Int) - x0.2.2.fst)).toNat ++ { data := { toList := [(46 : UInt8)] : Array UInt8 } : ByteArray } ++ y3.extract (Go.IntKind.i64.wrap ((↑y3.size : Int) - x0.2.2.fst)).toNat (↑y3.size : Int).toNat))]) <|
    .ret [.string (y3.extract (Int.toNat (0 : Int)) (Go.IntKind.i64.wrap ((↑y3.size : Int) - x0.2.2.fst)).toNat ++ { data := { toList := [(46 : UInt8)] : Array UInt8 } : ByteArray } ++ y3.extract (Go.IntKind.i64.wrap ((↑y3.size : Int) - x0.2.2.fst)).toNat (↑y3.size : Int).toNat)]) <|
  .br (x0.fst) (
    .rq ({ data := { toList := [(45 : UInt8)] : Array UInt8 } : ByteArray }.size + y3.size ≤ (9223372036854775807 : Nat)) <|
    .ret [.string ({ data := { toList := [(45 : UInt8)] : Array UInt8 } : ByteArray } ++ y3)]) <|
  .ret [.string (y3)]
theorem fS_DecText (x0 : Bool × SlV × Int × PUnit) : fits Tryz.prog aS_DecText 33 [Sh1.val (.g [.b, .l, .i .i64]) (x0)] (tS_DecText x0) :=
  ⟨Tryz.f33, Tryz.f33.body.getD .skip, by kernel_rfl, by kernel_rfl, by kernel_rfl, by kernel_rfl, by kernel_rfl, by kernel_rfl⟩
/-! loop.example/g00793/spec.MoneyOk -/
def aS_MoneyOk : An := ⟨[], [], []⟩
noncomputable def tS_MoneyOk (x0 : ByteArray × Bool × SlV × PUnit) : T :=
  .call false 58 [.string (x0.fst)] (.v (.o (.b))) fun y1 =>
  .br (y1) (
    .call false 64 [Sh1.val (.g [.b, .l]) (x0.2)] (.v (.o (.b))) fun y2 =>
    .br (y2) (
      .ret [.bool (decide ((↑x0.2.2.1.n : Int) ≤ (4 : Int)))]) <|
    .ret [.bool (false)]) <|
  .ret [.bool (false)]
theorem fS_MoneyOk (x0 : ByteArray × Bool × SlV × PUnit) : fits Tryz.prog aS_MoneyOk 34 [Sh1.val (.g [.s, .b, .l]) (x0)] (tS_MoneyOk x0) :=
  ⟨Tryz.f34, Tryz.f34.body.getD .skip, by kernel_rfl, by kernel_rfl, by kernel_rfl, by kernel_rfl, by kernel_rfl, by kernel_rfl⟩
/-! loop.example/g00793/spec.CurPlaces -/
def aS_CurPlaces : An := ⟨[], [], []⟩
noncomputable def tS_CurPlaces (x0 : ByteArray) : T :=
  .call false 65 [.string (x0)] (.v (.g [.s, .s, .i .i64, .i .i64])) fun y1 =>
  .ret [.int .i64 (y1.2.2.fst)]
theorem fS_CurPlaces (x0 : ByteArray) : fits Tryz.prog aS_CurPlaces 35 [.string (x0)] (tS_CurPlaces x0) :=
  ⟨Tryz.f35, Tryz.f35.body.getD .skip, by kernel_rfl, by kernel_rfl, by kernel_rfl, by kernel_rfl, by kernel_rfl, by kernel_rfl⟩
/-! loop.example/g00793/spec.RatOk -/
def aS_RatOk : An := ⟨[], [], []⟩
noncomputable def tS_RatOk (x0 : Bool × SlV × SlV × PUnit) : T :=
  .call false 64 [Sh1.val (.g [.b, .l]) ((x0.fst), x0.2.1, ())] (.v (.o (.b))) fun y1 =>
  .br (!y1) (
    .ret [.bool (false)]) <|
  .call false 66 [Sc.val .l (x0.2.2.1)] (.v (.o (.b))) fun y2 =>
  .br (!y2) (
    .ret [.bool (false)]) <|
  .br ((↑x0.2.2.1.n : Int) == (0 : Int)) (
    .ret [.bool (false)]) <|
  .br (decide ((↑x0.2.2.1.n : Int) > (18 : Int))) (
    .ret [.bool (false)]) <|
  .br (decide ((↑x0.2.1.n : Int) > (18 : Int))) (
    .ret [.bool (false)]) <|
  .call false 67 [Sc.val .l (x0.2.1), Sc.val .l (x0.2.2.1)] (.v (.o (.l))) fun y3 =>
  .fz ((1 : Nat)) [.int .i64 ((1 : Int))] 3 fun b4 c4 =>
  .call false 37 [Sc.val .l (y3), .slice (some { block := b4, off := (0 : Nat) : Go.Addr }) ((1 : Nat)) (c4)] (.v (.o (.i .i64))) fun y5 =>
  .ret [.bool (y5 == (0 : Int))]
theorem fS_RatOk (x0 : Bool × SlV × SlV × PUnit) : fits Tryz.prog aS_RatOk 36 [Sh1.val (.g [.b, .l, .l]) (x0)] (tS_RatOk x0) :=
  ⟨Tryz.f36, Tryz.f36.body.getD .skip, by kernel_rfl, by kernel_rfl, by kernel_rfl, by kernel_rfl, by kernel_rfl, by kernel_rfl⟩
/-! loop.example/g00793/spec.l02Cmp -/
def aS_l02Cmp : An := ⟨[(6, [.s 5], [.o (.o (.i .i64))])], [], []⟩
noncomputable def tS_l02Cmp (x0 : SlV) (x1 : SlV) : T :=
  .br ((↑x0.n : Int) != (↑x1.n : Int)) (
    .br (decide ((↑x0.n : Int) < (↑x1.n : Int))) (
      .ret [.int .i64 ((-1 : Int))]) <|
    .ret [.int .i64 ((1 : Int))]) <|
  .lp [.o (.o (.i .i64))] [.v (.int .i64 (Go.IntKind.i64.wrap ((↑x0.n : Int) - (1 : Int))))] fun y1 =>
  .br (decide (y1.fst ≥ (0 : Int))) (
    .rg <|
    .el (x0.a) (x0.n) (y1.fst) fun y2 =>
    .ld true (y2.add (Int.toNat y1.fst * (1 : Nat))) (.o (.i .i64)) fun y3 =>
    .el (x1.a) (x1.n) (y1.fst) fun y4 =>
    .ld true (y4.add (Int.toNat y1.fst * (1 : Nat))) (.o (.i .i64)) fun y5 =>
    .br (decide (y3 < y5)) (
      .ret [.int .i64 ((-1 : Int))]) <|
    .rg <|
    .el (x0.a) (x0.n) (y1.fst) fun y6 =>
    .ld true (y6.add (Int.toNat y1.fst * (1 : Nat))) (.o (.i .i64)) fun y7 =>
    .el (x1.a) (x1.n) (y1.fst) fun y8 =>
    .ld true (y8.add (Int.toNat y1.fst * (1 : Nat))) (.o (.i .i64)) fun y9 =>
    .br (decide (y7 > y9)) (
      .ret [.int .i64 ((1 : Int))]) <|
    .nx 0 [.v (.int .i64 (Go.IntKind.i64.wrap (y1.fst - (1 : Int))))]) <|
  .ret [.int .i64 ((0 : Int))]
theorem fS_l02Cmp (x0 : SlV) (x1 : SlV) : fits Tryz.prog aS_l02Cmp 37 [Sc.val .l (x0), Sc.val .l (x1)] (tS_l02Cmp x0 x1) :=
  ⟨Tryz.f37, Tryz.f37.body.getD .skip, by kernel_rfl, by kernel_rfl, by kernel_rfl, by kernel_rfl, by kernel_rfl, by kernel_rfl⟩
/-! loop.example/g00793/spec.IntStr -/
def aS_IntStr : An := ⟨[], [], []⟩
noncomputable def tS_IntStr (x0 : Bool × SlV × PUnit) : T :=
  .call false 64 [Sh1.val (.g [.b, .l]) (x0)] (.v (.o (.b))) fun y1 =>
  .br (!y1) (
    .ret [.string ({ data := { toList := [] : Array UInt8 } : ByteArray })]) <|
  .br (x0.fst) (
    .call false 39 [Sc.val .l (x0.2.1)] (.v (.o (.s))) fun y2 =>
    .rq ({ data := { toList := [(45 : UInt8)] : Array UInt8 } : ByteArray }.size + y2.size ≤ (9223372036854775807 : Nat)) <|
    .ret [.string ({ data := { toList := [(45 : UInt8)] : Array UInt8 } : ByteArray } ++ y2)]) <|
  .call false 39 [Sc.val .l (x0.2.1)] (.v (.o (.s))) fun y2 =>
  .ret [.string (y2)]
theorem fS_IntStr (x0 : Bool × SlV × PUnit) : fits Tryz.prog aS_IntStr 38 [Sh1.val (.g [.b, .l]) (x0)] (tS_IntStr x0) :=
  ⟨Tryz.f38, Tryz.f38.body.getD .skip, by kernel_rfl, by kernel_rfl, by kernel_rfl, by kernel_rfl, by kernel_rfl, by kernel_rfl⟩
/-! loop.example/g00793/spec.NatText -/
def aS_NatText : An := ⟨[(7, [.s 3, .s 4], [.o (.o (.s)), .o (.o (.i .i64))])], [], []⟩
noncomputable def tS_NatText (x0 : SlV) : T :=
  .call false 66 [Sc.val .l (x0)] (.v (.o (.b))) fun y1 =>
  .br (!y1) (
    .ret [.string ({ data := { toList := [] : Array UInt8 } : ByteArray })]) <|
  .br ((↑x0.n : Int) == (0 : Int)) (
    .ret [.string ({ data := { toList := [(48 : UInt8)] : Array UInt8 } : ByteArray })]) <|
  .el (x0.a) (x0.n) (Go.IntKind.i64.wrap ((↑x0.n : Int) - (1 : Int))) fun y2 =>
  .ld false (y2.add ((Go.IntKind.i64.wrap ((↑x0.n : Int) - (1 : Int))).toNat * (1 : Nat))) (.o (.i .i64)) fun y3 =>
  .call false 68 [.int .i64 (y3)] (.v (.o (.s))) fun y4 =>
  .lp [.o (.o (.s)), .o (.o (.i .i64))] [.v (.string (y4)), .v (.int .i64 (Go.IntKind.i64.wrap ((↑x0.n : Int) - (2 : Int))))] fun y5 =>
  .br (decide (y5.2.fst ≥ (0 : Int))) (
    .el (x0.a) (x0.n) (y5.2.fst) fun y6 =>
    .ld false (y6.add (Int.toNat y5.2.fst * (1 : Nat))) (.o (.i .i64)) fun y7 =>
    .call false 68 [.int .i64 (y7)] (.v (.o (.s))) fun y8 =>
    .call false 63 [.string (y8), .int .i64 ((9 : Int))] (.v (.o (.s))) fun y9 =>
    .rq (ByteArray.size y5.fst + y9.size ≤ (9223372036854775807 : Nat)) <|
    .nx 0 [.v (.string (y5.fst ++ y9)), .v (.int .i64 (Go.IntKind.i64.wrap (y5.2.fst - (1 : Int))))]) <|
  .ret [.string (y5.fst)]
theorem fS_NatText (x0 : SlV) : fits Tryz.prog aS_NatText 39 [Sc.val .l (x0)] (tS_NatText x0) :=
  ⟨Tryz.f39, Tryz.f39.body.getD .skip, by kernel_rfl, by kernel_rfl, by kernel_rfl, by kernel_rfl, by kernel_rfl, by kernel_rfl⟩
/-! loop.example/g00793/laws.toAcctS -/
def aL_toAcctS : An := ⟨[(3, [.s 3, .s 4], [.a 60, .o (.o (.i .i64))])], [], []⟩
noncomputable def tL_toAcctS (x0 : SlV) : T :=
  .rq ((0 : Int) ≤ (↑x0.n : Int) ∧ (↑x0.n : Int) ≤ (↑x0.n : Int) ∧ (↑(64 : Nat) : Int) * (↑x0.n : Int) ≤ (281474976710656 : Int) ∧ (↑x0.n : Int) ≤ (9223372036854775807 : Int)) <|
  .lp [.a 60, .o (.o (.i .i64))] [.a 60 ((↑x0.n : Int).toNat) ((Go.madeCells { toList := [Go.Value.string { data := { toList := [] : Array UInt8 } : ByteArray }, Go.Value.string { data := { toList := [] : Array UInt8 } : ByteArray }, Go.Value.bool false, Go.Value.slice none (0 : Nat) (0 : Nat)] : Array Go.Value } ((↑x0.n : Int).toNat * (4 : Nat))).toList), .v (.int .i64 ((0 : Int)))] fun y1 =>
  .br (decide (y1.2.fst < (↑x0.n : Int))) (
    .el (x0.a) (x0.n) (y1.2.fst) fun y2 =>
    .ld false (y2.add (Int.toNat y1.2.fst * (4 : Nat))) (.g [.s, .s, .b, .l]) fun y3 =>
    .call false 69 [Sh1.val (.g [.s, .s, .b, .l]) (y3)] (.v (.g [.s, .s, .b, .l])) fun y4 =>
    .rq ((0 : Int) ≤ y1.2.fst ∧ y1.2.fst < (↑y1.1.fst : Int)) <|
    .rq (Int.toNat y1.2.fst * (4 : Nat) + [Go.Value.string y4.fst, Go.Value.string y4.2.fst, Go.Value.bool y4.2.2.fst, Go.Value.slice y4.2.2.2.1.a y4.2.2.2.1.n y4.2.2.2.1.c].length ≤ y1.1.snd.length) <|
    .nx 0 [.a 60 (y1.1.fst) (setl y1.1.snd (Int.toNat y1.2.fst * (4 : Nat)) [Go.Value.string y4.fst, Go.Value.string y4.2.fst, Go.Value.bool y4.2.2.fst, Go.Value.slice y4.2.2.2.1.a y4.2.2.2.1.n y4.2.2.2.1.c]), .v (.int .i64 (Go.IntKind.i64.wrap (y1.2.fst + (1 : Int))))]) <|
  .fz (y1.1.fst) (y1.1.snd) 60 fun b2 c2 =>
  .ret [.slice (some { block := b2, off := (0 : Nat) : Go.Addr }) (y1.1.fst) (c2)]
theorem fL_toAcctS (x0 : SlV) : fits Tryz.prog aL_toAcctS 40 [Sc.val .l (x0)] (tL_toAcctS x0) :=
  ⟨Tryz.f40, Tryz.f40.body.getD .skip, by kernel_rfl, by kernel_rfl, by kernel_rfl, by kernel_rfl, by kernel_rfl, by kernel_rfl⟩
/-! loop.example/g00793/laws.toRest -/
def aL_toRest : An := ⟨[], [], []⟩
noncomputable def tL_toRest (x0 : ByteArray × Bool × SlV × SlV × PUnit) : T :=
  .call false 70 [Sh1.val (.g [.b, .l, .l]) (x0.2)] (.v (.g [.b, .l, .l])) fun y1 =>
  .ret [Sh1.val (.g [.s, .b, .l, .l]) ((x0.fst), (y1.fst), y1.2.1, y1.2.2.1, ())]
theorem fL_toRest (x0 : ByteArray × Bool × SlV × SlV × PUnit) : fits Tryz.prog aL_toRest 41 [Sh1.val (.g [.s, .b, .l, .l]) (x0)] (tL_toRest x0) :=
  ⟨Tryz.f41, Tryz.f41.body.getD .skip, by kernel_rfl, by kernel_rfl, by kernel_rfl, by kernel_rfl, by kernel_rfl, by kernel_rfl⟩
/-! loop.example/g00793/laws.toRateS -/
def aL_toRateS : An := ⟨[(3, [.s 3, .s 4], [.a 55, .o (.o (.i .i64))])], [], []⟩
noncomputable def tL_toRateS (x0 : SlV) : T :=
  .rq ((0 : Int) ≤ (↑x0.n : Int) ∧ (↑x0.n : Int) ≤ (↑x0.n : Int) ∧ (↑(72 : Nat) : Int) * (↑x0.n : Int) ≤ (281474976710656 : Int) ∧ (↑x0.n : Int) ≤ (9223372036854775807 : Int)) <|
  .lp [.a 55, .o (.o (.i .i64))] [.a 55 ((↑x0.n : Int).toNat) ((Go.madeCells { toList := [Go.Value.string { data := { toList := [] : Array UInt8 } : ByteArray }, Go.Value.string { data := { toList := [] : Array UInt8 } : ByteArray }, Go.Value.bool false, Go.Value.slice none (0 : Nat) (0 : Nat), Go.Value.int Go.IntKind.i64 (0 : Int)] : Array Go.Value } ((↑x0.n : Int).toNat * (5 : Nat))).toList), .v (.int .i64 ((0 : Int)))] fun y1 =>
  .br (decide (y1.2.fst < (↑x0.n : Int))) (
    .el (x0.a) (x0.n) (y1.2.fst) fun y2 =>
    .ld false (y2.add (Int.toNat y1.2.fst * (5 : Nat))) (.g [.s, .s, .b, .l, .i .i64]) fun y3 =>
    .call false 71 [Sh1.val (.g [.s, .s, .b, .l, .i .i64]) (y3)] (.v (.g [.s, .s, .b, .l, .i .i64])) fun y4 =>
    .rq ((0 : Int) ≤ y1.2.fst ∧ y1.2.fst < (↑y1.1.fst : Int)) <|
    .rq (Int.toNat y1.2.fst * (5 : Nat) + [Go.Value.string y4.fst, Go.Value.string y4.2.fst, Go.Value.bool y4.2.2.fst, Go.Value.slice y4.2.2.2.1.a y4.2.2.2.1.n y4.2.2.2.1.c, Go.Value.int Go.IntKind.i64 y4.2.2.2.2.fst].length ≤ y1.1.snd.length) <|
    .nx 0 [.a 55 (y1.1.fst) (setl y1.1.snd (Int.toNat y1.2.fst * (5 : Nat)) [Go.Value.string y4.fst, Go.Value.string y4.2.fst, Go.Value.bool y4.2.2.fst, Go.Value.slice y4.2.2.2.1.a y4.2.2.2.1.n y4.2.2.2.1.c, Go.Value.int Go.IntKind.i64 y4.2.2.2.2.fst]), .v (.int .i64 (Go.IntKind.i64.wrap (y1.2.fst + (1 : Int))))]) <|
  .fz (y1.1.fst) (y1.1.snd) 55 fun b2 c2 =>
  .ret [.slice (some { block := b2, off := (0 : Nat) : Go.Addr }) (y1.1.fst) (c2)]
theorem fL_toRateS (x0 : SlV) : fits Tryz.prog aL_toRateS 42 [Sc.val .l (x0)] (tL_toRateS x0) :=
  ⟨Tryz.f42, Tryz.f42.body.getD .skip, by kernel_rfl, by kernel_rfl, by kernel_rfl, by kernel_rfl, by kernel_rfl, by kernel_rfl⟩
/-! loop.example/g00793/impl.BookOk -/
def aI_BookOk : An := ⟨[(4, [.s 12], [.o (.o (.i .i64))])], [], []⟩
noncomputable def tI_BookOk (x0 : SlV × PUnit) : T :=
  .br (decide ((↑x0.1.n : Int) > (12 : Int))) (
    .ret [.bool (false)]) <|
  .lp [.o (.o (.i .i64))] [.v (.int .i64 ((0 : Int)))] fun y1 =>
  .br (decide (y1.fst < (↑x0.1.n : Int))) (
    .el (x0.1.a) (x0.1.n) (y1.fst) fun y2 =>
    .ld false (y2.add (Int.toNat y1.fst * (4 : Nat))) (.g [.s, .s, .b, .l]) fun y3 =>
    .rg <|
    .call true 72 [.string (y3.fst)] (.v (.o (.b))) fun y4 =>
    .br (!y4) (
      .ret [.bool (false)]) <|
    .call true 48 [Sh1.val (.g [.s, .b, .l]) (y3.2)] (.v (.o (.b))) fun y5 =>
    .br (!y5) (
      .ret [.bool (false)]) <|
    .br (decide (y1.fst > (0 : Int))) (
      .el (x0.1.a) (x0.1.n) (Go.IntKind.i64.wrap (y1.fst - (1 : Int))) fun y6 =>
      .ld true ((y6.add ((Go.IntKind.i64.wrap (y1.fst - (1 : Int))).toNat * (4 : Nat))).add (0 : Nat)) (.o (.s)) fun y7 =>
      .br (!Go.Op.bytesLess y7.toList (ByteArray.toList y3.fst)) (
        .ret [.bool (false)]) <|
      .nx 0 [.v (.int .i64 (Go.IntKind.i64.wrap (y1.fst + (1 : Int))))]) <|
    .nx 0 [.v (.int .i64 (Go.IntKind.i64.wrap (y1.fst + (1 : Int))))]) <|
  .ret [.bool (true)]
theorem fI_BookOk (x0 : SlV × PUnit) : fits Tryz.prog aI_BookOk 43 [Sh1.val (.g [.l]) (x0)] (tI_BookOk x0) :=
  ⟨Tryz.f43, Tryz.f43.body.getD .skip, by kernel_rfl, by kernel_rfl, by kernel_rfl, by kernel_rfl, by kernel_rfl, by kernel_rfl⟩
/-! loop.example/g00793/impl.RestsOk -/
def aI_RestsOk : An := ⟨[(2, [.s 7], [.o (.o (.i .i64))])], [], []⟩
noncomputable def tI_RestsOk (x0 : SlV) : T :=
  .lp [.o (.o (.i .i64))] [.v (.int .i64 ((0 : Int)))] fun y1 =>
  .br (decide (y1.fst < (↑x0.n : Int))) (
    .el (x0.a) (x0.n) (y1.fst) fun y2 =>
    .ld false (y2.add (Int.toNat y1.fst * (4 : Nat))) (.g [.s, .b, .l, .l]) fun y3 =>
    .rg <|
    .call true 73 [.string (y3.fst)] (.v (.o (.b))) fun y4 =>
    .br (!y4) (
      .ret [.bool (false)]) <|
    .call true 74 [Sh1.val (.g [.b, .l, .l]) (y3.2)] (.v (.o (.b))) fun y5 =>
    .br (!y5) (
      .ret [.bool (false)]) <|
    .call true 75 [Sh1.val (.g [.b, .l, .l]) (y3.2)] (.v (.o (.i .i64))) fun y6 =>
    .br (y6 == (0 : Int)) (
      .ret [.bool (false)]) <|
    .br (decide (y1.fst > (0 : Int))) (
      .el (x0.a) (x0.n) (Go.IntKind.i64.wrap (y1.fst - (1 : Int))) fun y7 =>
      .ld true ((y7.add ((Go.IntKind.i64.wrap (y1.fst - (1 : Int))).toNat * (4 : Nat))).add (0 : Nat)) (.o (.s)) fun y8 =>
      .br (!Go.Op.bytesLess y8.toList (ByteArray.toList y3.fst)) (
        .ret [.bool (false)]) <|
      .nx 0 [.v (.int .i64 (Go.IntKind.i64.wrap (y1.fst + (1 : Int))))]) <|
    .nx 0 [.v (.int .i64 (Go.IntKind.i64.wrap (y1.fst + (1 : Int))))]) <|
  .ret [.bool (true)]
theorem fI_RestsOk (x0 : SlV) : fits Tryz.prog aI_RestsOk 44 [Sc.val .l (x0)] (tI_RestsOk x0) :=
  ⟨Tryz.f44, Tryz.f44.body.getD .skip, by kernel_rfl, by kernel_rfl, by kernel_rfl, by kernel_rfl, by kernel_rfl, by kernel_rfl⟩
/-! loop.example/g00793/impl.RatesOk -/
def aI_RatesOk : An := ⟨[(5, [.s 21], [.o (.o (.i .i64))])], [], []⟩
noncomputable def tI_RatesOk (x0 : ByteArray × SlV × PUnit) : T :=
  .call false 73 [.string (x0.fst)] (.v (.o (.b))) fun y1 =>
  .br (!y1) (
    .ret [.bool (false)]) <|
  .br (decide ((↑x0.2.1.n : Int) > (12 : Int))) (
    .ret [.bool (false)]) <|
  .mo (.mk 126) (.v (.o (.x))) fun y2 =>
  .lp [.o (.o (.i .i64))] [.v (.int .i64 ((0 : Int)))] fun y3 =>
  .br (decide (y3.fst < (↑x0.2.1.n : Int))) (
    .el (x0.2.1.a) (x0.2.1.n) (y3.fst) fun y4 =>
    .ld false (y4.add (Int.toNat y3.fst * (5 : Nat))) (.g [.s, .s, .b, .l, .i .i64]) fun y5 =>
    .call false 46 [Sh1.val (.g [.s, .s, .b, .l, .i .i64]) (y5)] (.v (.o (.b))) fun y6 =>
    .br (!y6) (
      .ret [.bool (false)]) <|
    .mo (.lk 126 ((y2.1)) (Sh1.val (.g [.s, .s]) ((y5.fst), (y5.2.fst), ())) false) (.v (.o (.b))) fun y7 =>
    .br (y7) (
      .ret [.bool (false)]) <|
    .mo (.up 126 ((y2.1)) (Sh1.val (.g [.s, .s]) ((y5.fst), (y5.2.fst), ())) (.bool (true))) (.t []) fun _ =>
    .nx 0 [.v (.int .i64 (Go.IntKind.i64.wrap (y3.fst + (1 : Int))))]) <|
  .ret [.bool (true)]
theorem fI_RatesOk (x0 : ByteArray × SlV × PUnit) : fits Tryz.prog aI_RatesOk 45 [Sh1.val (.g [.s, .l]) (x0)] (tI_RatesOk x0) :=
  ⟨Tryz.f45, Tryz.f45.body.getD .skip, by kernel_rfl, by kernel_rfl, by kernel_rfl, by kernel_rfl, by kernel_rfl, by kernel_rfl⟩
/-! loop.example/g00793/impl.RateOk -/
def aI_RateOk : An := ⟨[], [], []⟩
noncomputable def tI_RateOk (x0 : ByteArray × ByteArray × Bool × SlV × Int × PUnit) : T :=
  .call false 73 [.string (x0.fst)] (.v (.o (.b))) fun y1 =>
  .br (y1) (
    .call false 73 [.string (x0.2.fst)] (.v (.o (.b))) fun y2 =>
    .br (y2) (
      .br (!ByteArray.toList x0.fst == ByteArray.toList x0.2.fst) (
        .call false 76 [Sh1.val (.g [.b, .l, .i .i64]) (x0.2.2)] (.v (.o (.b))) fun y3 =>
        .br (y3) (
          .call false 77 [Sh1.val (.g [.b, .l]) ((x0.2.2.fst), x0.2.2.2.1, ())] (.v (.o (.i .i64))) fun y4 =>
          .br (decide (y4 > (0 : Int))) (
            .ret [.bool (decide ((↑x0.2.2.2.1.n : Int) ≤ (2 : Int)))]) <|
          .ret [.bool (false)]) <|
        .ret [.bool (false)]) <|
      .ret [.bool (false)]) <|
    .ret [.bool (false)]) <|
  .ret [.bool (false)]
theorem fI_RateOk (x0 : ByteArray × ByteArray × Bool × SlV × Int × PUnit) : fits Tryz.prog aI_RateOk 46 [Sh1.val (.g [.s, .s, .b, .l, .i .i64]) (x0)] (tI_RateOk x0) :=
  ⟨Tryz.f46, Tryz.f46.body.getD .skip, by kernel_rfl, by kernel_rfl, by kernel_rfl, by kernel_rfl, by kernel_rfl, by kernel_rfl⟩
/-! loop.example/g00793/impl.DecText -/
def aI_DecText : An := ⟨[], [], []⟩
noncomputable def tI_DecText (x0 : Bool × SlV × Int × PUnit) : T :=
  .call false 76 [Sh1.val (.g [.b, .l, .i .i64]) (x0)] (.v (.o (.b))) fun y1 =>
  .br (!y1) (
    .ret [.string ({ data := { toList := [] : Array UInt8 } : ByteArray })]) <|
  .rg <|
  .call true 79 [Sc.val .l (x0.2.1)] (.v (.o (.s))) fun y2 =>
  .call true 78 [.string (y2), .int .i64 (Go.IntKind.i64.wrap (x0.2.2.fst + (1 : Int)))] (.v (.o (.s))) fun y3 =>
  .br (decide (x0.2.2.fst > (0 : Int))) (
    .rg <|
    .rq ((0 : Int) ≤ (0 : Int) ∧ (0 : Int) ≤ Go.IntKind.i64.wrap ((↑y3.size : Int) - x0.2.2.fst) ∧ Go.IntKind.i64.wrap ((↑y3.size : Int) - x0.2.2.fst) ≤ (↑y3.size : Int)) <|
    .rq ((y3.extract (Int.toNat (0 : Int)) (Go.IntKind.i64.wrap ((↑y3.size : Int) - x0.2.2.fst)).toNat).size + { data := { toList := [(46 : UInt8)] : Array UInt8 } : ByteArray }.size ≤ (9223372036854775807 : Nat)) <|
    .rq ((0 : Int) ≤ Go.IntKind.i64.wrap ((↑y3.size : Int) - x0.2.2.fst) ∧ Go.IntKind.i64.wrap ((↑y3.size : Int) - x0.2.2.fst) ≤ (↑y3.size : Int) ∧ (↑y3.size : Int) ≤ (↑y3.size : Int)) <|
    .rq ((y3.extract (Int.toNat (0 : Int)) (Go.IntKind.i64.wrap ((↑y3.size : Int) - x0.2.2.fst)).toNat ++ { data := { toList := [(46 : UInt8)] : Array UInt8 } : ByteArray }).size + (y3.extract (Go.IntKind.i64.wrap ((↑y3.size : Int) - x0.2.2.fst)).toNat (↑y3.size : Int).toNat).size ≤ (9223372036854775807 : Nat)) <|
    .br (x0.fst) (
      .rq ({ data := { toList := [(45 : UInt8)] : Array UInt8 } : ByteArray }.size + (y3.extract (Int.toNat (0 : Int)) (Go.IntKind.i64.wrap ((↑y3.size : Int) - x0.2.2.fst)).toNat ++ { data := { toList := [(46 : UInt8)] : Array UInt8 } : ByteArray } ++ y3.extract (Go.IntKind.i64.wrap ((↑y3.size : Int) - x0.2.2.fst)).toNat (↑y3.size : Int).toNat).size ≤ (9223372036854775807 : Nat)) <|
      .ret [.string ({ data := { toList := [(45 : UInt8)] : Array UInt8 } : ByteArray } ++ (y3.extract (Int.toNat (0 : Int)) (Go.IntKind.i64.wrap ((↑y3.size : Int) - x0.2.2.fst)).toNat ++ { data := { toList := [(46 : UInt8)] : Array UInt8 } : ByteArray } ++ y3.extract (Go.IntKind.i64.wrap ((↑y3.size : Int) - x0.2.2.fst)).toNat (↑y3.size : Int).toNat))]) <|
    .ret [.string (y3.extract (Int.toNat (0 : Int)) (Go.IntKind.i64.wrap ((↑y3.size : Int) - x0.2.2.fst)).toNat ++ { data := { toList := [(46 : UInt8)] : Array UInt8 } : ByteArray } ++ y3.extract (Go.IntKind.i64.wrap ((↑y3.size : Int) - x0.2.2.fst)).toNat (↑y3.size : Int).toNat)]) <|
  .br (x0.fst) (
    .rq ({ data := { toList := [(45 : UInt8)] : Array UInt8 } : ByteArray }.size + y3.size ≤ (9223372036854775807 : Nat)) <|
    .ret [.string ({ data := { toList := [(45 : UInt8)] : Array UInt8 } : ByteArray } ++ y3)]) <|
  .ret [.string (y3)]
theorem fI_DecText (x0 : Bool × SlV × Int × PUnit) : fits Tryz.prog aI_DecText 47 [Sh1.val (.g [.b, .l, .i .i64]) (x0)] (tI_DecText x0) :=
  ⟨Tryz.f47, Tryz.f47.body.getD .skip, by kernel_rfl, by kernel_rfl, by kernel_rfl, by kernel_rfl, by kernel_rfl, by kernel_rfl⟩
/-! loop.example/g00793/impl.MoneyOk -/
def aI_MoneyOk : An := ⟨[], [], []⟩
noncomputable def tI_MoneyOk (x0 : ByteArray × Bool × SlV × PUnit) : T :=
  .call false 73 [.string (x0.fst)] (.v (.o (.b))) fun y1 =>
  .br (y1) (
    .call false 80 [Sh1.val (.g [.b, .l]) (x0.2)] (.v (.o (.b))) fun y2 =>
    .br (y2) (
      .ret [.bool (decide ((↑x0.2.2.1.n : Int) ≤ (4 : Int)))]) <|
    .ret [.bool (false)]) <|
  .ret [.bool (false)]
theorem fI_MoneyOk (x0 : ByteArray × Bool × SlV × PUnit) : fits Tryz.prog aI_MoneyOk 48 [Sh1.val (.g [.s, .b, .l]) (x0)] (tI_MoneyOk x0) :=
  ⟨Tryz.f48, Tryz.f48.body.getD .skip, by kernel_rfl, by kernel_rfl, by kernel_rfl, by kernel_rfl, by kernel_rfl, by kernel_rfl⟩
/-! loop.example/g00793/impl.CurPlaces -/
def aI_CurPlaces : An := ⟨[], [], []⟩
noncomputable def tI_CurPlaces (x0 : ByteArray) : T :=
  .call false 81 [.string (x0)] (.t [(.g [.s, .s, .i .i64, .i .i64]), (.o (.b))]) fun y1 =>
  .ret [.int .i64 (y1.1.2.2.fst)]
theorem fI_CurPlaces (x0 : ByteArray) : fits Tryz.prog aI_CurPlaces 49 [.string (x0)] (tI_CurPlaces x0) :=
  ⟨Tryz.f49, Tryz.f49.body.getD .skip, by kernel_rfl, by kernel_rfl, by kernel_rfl, by kernel_rfl, by kernel_rfl, by kernel_rfl⟩
/-! loop.example/g00793/impl.RatText -/
def aI_RatText : An := ⟨[], [], []⟩
noncomputable def tI_RatText (x0 : Bool × SlV × SlV × PUnit) : T :=
  .call false 74 [Sh1.val (.g [.b, .l, .l]) (x0)] (.v (.o (.b))) fun y1 =>
  .br (!y1) (
    .ret [.string ({ data := { toList := [] : Array UInt8 } : ByteArray })]) <|
  .call false 82 [Sc.val .l (x0.2.2.1)] (.v (.o (.b))) fun y2 =>
  .br (y2) (
    .call false 83 [Sh1.val (.g [.b, .l]) ((x0.fst), x0.2.1, ())] (.v (.o (.s))) fun y3 =>
    .ret [.string (y3)]) <|
  .rg <|
  .call true 83 [Sh1.val (.g [.b, .l]) ((x0.fst), x0.2.1, ())] (.v (.o (.s))) fun y3 =>
  .rq (y3.size + { data := { toList := [(47 : UInt8)] : Array UInt8 } : ByteArray }.size ≤ (9223372036854775807 : Nat)) <|
  .call true 84 [Sc.val .l (x0.2.2.1)] (.v (.o (.s))) fun y4 =>
  .rq ((y3 ++ { data := { toList := [(47 : UInt8)] : Array UInt8 } : ByteArray }).size + y4.size ≤ (9223372036854775807 : Nat)) <|
  .ret [.string (y3 ++ { data := { toList := [(47 : UInt8)] : Array UInt8 } : ByteArray } ++ y4)]
theorem fI_RatText (x0 : Bool × SlV × SlV × PUnit) : fits Tryz.prog aI_RatText 50 [Sh1.val (.g [.b, .l, .l]) (x0)] (tI_RatText x0) :=
  ⟨Tryz.f50, Tryz.f50.body.getD .skip, by kernel_rfl, by kernel_rfl, by kernel_rfl, by kernel_rfl, by kernel_rfl, by kernel_rfl⟩
/-! loop.example/g00793/laws.eqAcctS -/
def aL_eqAcctS : An := ⟨[(4, [.s 5], [.o (.o (.i .i64))])], [], []⟩
noncomputable def tL_eqAcctS (x0 : SlV) (x1 : SlV) : T :=
  .br ((↑x0.n : Int) != (↑x1.n : Int)) (
    .ret [.bool (false)]) <|
  .lp [.o (.o (.i .i64))] [.v (.int .i64 ((0 : Int)))] fun y1 =>
  .br (decide (y1.fst < (↑x0.n : Int))) (
    .rg <|
    .el (x0.a) (x0.n) (y1.fst) fun y2 =>
    .ld true (y2.add (Int.toNat y1.fst * (4 : Nat))) (.g [.s, .s, .b, .l]) fun y3 =>
    .el (x1.a) (x1.n) (y1.fst) fun y4 =>
    .ld true (y4.add (Int.toNat y1.fst * (4 : Nat))) (.g [.s, .s, .b, .l]) fun y5 =>
    .call true 85 [Sh1.val (.g [.s, .s, .b, .l]) (y3), Sh1.val (.g [.s, .s, .b, .l]) (y5)] (.v (.o (.b))) fun y6 =>
    .br (!y6) (
      .ret [.bool (false)]) <|
    .nx 0 [.v (.int .i64 (Go.IntKind.i64.wrap (y1.fst + (1 : Int))))]) <|
  .ret [.bool (true)]
theorem fL_eqAcctS (x0 : SlV) (x1 : SlV) : fits Tryz.prog aL_eqAcctS 51 [Sc.val .l (x0), Sc.val .l (x1)] (tL_eqAcctS x0 x1) :=
  ⟨Tryz.f51, Tryz.f51.body.getD .skip, by kernel_rfl, by kernel_rfl, by kernel_rfl, by kernel_rfl, by kernel_rfl, by kernel_rfl⟩
/-! loop.example/g00793/laws.eqRest -/
def aL_eqRest : An := ⟨[], [], []⟩
noncomputable def tL_eqRest (x0 : ByteArray × Bool × SlV × SlV × PUnit) (x1 : ByteArray × Bool × SlV × SlV × PUnit) : T :=
  .br (!ByteArray.toList x0.fst == ByteArray.toList x1.fst) (
    .ret [.bool (false)]) <|
  .call false 86 [Sh1.val (.g [.b, .l, .l]) (x0.2), Sh1.val (.g [.b, .l, .l]) (x1.2)] (.v (.o (.b))) fun y1 =>
  .br (!y1) (
    .ret [.bool (false)]) <|
  .ret [.bool (true)]
theorem fL_eqRest (x0 : ByteArray × Bool × SlV × SlV × PUnit) (x1 : ByteArray × Bool × SlV × SlV × PUnit) : fits Tryz.prog aL_eqRest 52 [Sh1.val (.g [.s, .b, .l, .l]) (x0), Sh1.val (.g [.s, .b, .l, .l]) (x1)] (tL_eqRest x0 x1) :=
  ⟨Tryz.f52, Tryz.f52.body.getD .skip, by kernel_rfl, by kernel_rfl, by kernel_rfl, by kernel_rfl, by kernel_rfl, by kernel_rfl⟩
/-! loop.example/g00793/laws.eqRateS -/
def aL_eqRateS : An := ⟨[(4, [.s 5], [.o (.o (.i .i64))])], [], []⟩
noncomputable def tL_eqRateS (x0 : SlV) (x1 : SlV) : T :=
  .br ((↑x0.n : Int) != (↑x1.n : Int)) (
    .ret [.bool (false)]) <|
  .lp [.o (.o (.i .i64))] [.v (.int .i64 ((0 : Int)))] fun y1 =>
  .br (decide (y1.fst < (↑x0.n : Int))) (
    .rg <|
    .el (x0.a) (x0.n) (y1.fst) fun y2 =>
    .ld true (y2.add (Int.toNat y1.fst * (5 : Nat))) (.g [.s, .s, .b, .l, .i .i64]) fun y3 =>
    .el (x1.a) (x1.n) (y1.fst) fun y4 =>
    .ld true (y4.add (Int.toNat y1.fst * (5 : Nat))) (.g [.s, .s, .b, .l, .i .i64]) fun y5 =>
    .call true 87 [Sh1.val (.g [.s, .s, .b, .l, .i .i64]) (y3), Sh1.val (.g [.s, .s, .b, .l, .i .i64]) (y5)] (.v (.o (.b))) fun y6 =>
    .br (!y6) (
      .ret [.bool (false)]) <|
    .nx 0 [.v (.int .i64 (Go.IntKind.i64.wrap (y1.fst + (1 : Int))))]) <|
  .ret [.bool (true)]
theorem fL_eqRateS (x0 : SlV) (x1 : SlV) : fits Tryz.prog aL_eqRateS 53 [Sc.val .l (x0), Sc.val .l (x1)] (tL_eqRateS x0 x1) :=
  ⟨Tryz.f53, Tryz.f53.body.getD .skip, by kernel_rfl, by kernel_rfl, by kernel_rfl, by kernel_rfl, by kernel_rfl, by kernel_rfl⟩
/-! loop.example/g00793/laws.szAcct -/
def aL_szAcct : An := ⟨[], [], []⟩
noncomputable def tL_szAcct (x0 : ByteArray × ByteArray × Bool × SlV × PUnit) (x1 : Int) : T :=
  .br (decide (Go.IntKind.i64.wrap (x1 - (↑(ByteArray.size x0.fst) : Int)) < (0 : Int))) (
    .ret [.int .i64 ((-1 : Int))]) <|
  .call false 88 [Sh1.val (.g [.s, .b, .l]) (x0.2), .int .i64 (Go.IntKind.i64.wrap (x1 - (↑(ByteArray.size x0.fst) : Int)))] (.v (.o (.i .i64))) fun y1 =>
  .br (decide (y1 < (0 : Int))) (
    .ret [.int .i64 ((-1 : Int))]) <|
  .ret [.int .i64 (y1)]
theorem fL_szAcct (x0 : ByteArray × ByteArray × Bool × SlV × PUnit) (x1 : Int) : fits Tryz.prog aL_szAcct 54 [Sh1.val (.g [.s, .s, .b, .l]) (x0), .int .i64 (x1)] (tL_szAcct x0 x1) :=
  ⟨Tryz.f54, Tryz.f54.body.getD .skip, by kernel_rfl, by kernel_rfl, by kernel_rfl, by kernel_rfl, by kernel_rfl, by kernel_rfl⟩
/-! loop.example/g00793/laws.szRat -/
def aL_szRat : An := ⟨[], [], []⟩
noncomputable def tL_szRat (x0 : Bool × SlV × SlV × PUnit) (x1 : Int) : T :=
  .call false 89 [Sh1.val (.g [.b, .l]) ((x0.fst), x0.2.1, ()), .int .i64 (x1)] (.v (.o (.i .i64))) fun y1 =>
  .br (decide (y1 < (0 : Int))) (
    .ret [.int .i64 ((-1 : Int))]) <|
  .call false 90 [Sc.val .l (x0.2.2.1), .int .i64 (y1)] (.v (.o (.i .i64))) fun y2 =>
  .br (decide (y2 < (0 : Int))) (
    .ret [.int .i64 ((-1 : Int))]) <|
  .ret [.int .i64 (y2)]
theorem fL_szRat (x0 : Bool × SlV × SlV × PUnit) (x1 : Int) : fits Tryz.prog aL_szRat 55 [Sh1.val (.g [.b, .l, .l]) (x0), .int .i64 (x1)] (tL_szRat x0 x1) :=
  ⟨Tryz.f55, Tryz.f55.body.getD .skip, by kernel_rfl, by kernel_rfl, by kernel_rfl, by kernel_rfl, by kernel_rfl, by kernel_rfl⟩
/-! loop.example/g00793/laws.szRate -/
def aL_szRate : An := ⟨[], [], []⟩
noncomputable def tL_szRate (x0 : ByteArray × ByteArray × Bool × SlV × Int × PUnit) (x1 : Int) : T :=
  .br (decide (Go.IntKind.i64.wrap (x1 - (↑(ByteArray.size x0.fst) : Int)) < (0 : Int))) (
    .ret [.int .i64 ((-1 : Int))]) <|
  .br (decide (Go.IntKind.i64.wrap (Go.IntKind.i64.wrap (x1 - (↑(ByteArray.size x0.fst) : Int)) - (↑(ByteArray.size x0.2.fst) : Int)) < (0 : Int))) (
    .ret [.int .i64 ((-1 : Int))]) <|
  .call false 91 [Sh1.val (.g [.b, .l, .i .i64]) (x0.2.2), .int .i64 (Go.IntKind.i64.wrap (Go.IntKind.i64.wrap (x1 - (↑(ByteArray.size x0.fst) : Int)) - (↑(ByteArray.size x0.2.fst) : Int)))] (.v (.o (.i .i64))) fun y1 =>
  .br (decide (y1 < (0 : Int))) (
    .ret [.int .i64 ((-1 : Int))]) <|
  .ret [.int .i64 (y1)]
theorem fL_szRate (x0 : ByteArray × ByteArray × Bool × SlV × Int × PUnit) (x1 : Int) : fits Tryz.prog aL_szRate 56 [Sh1.val (.g [.s, .s, .b, .l, .i .i64]) (x0), .int .i64 (x1)] (tL_szRate x0 x1) :=
  ⟨Tryz.f56, Tryz.f56.body.getD .skip, by kernel_rfl, by kernel_rfl, by kernel_rfl, by kernel_rfl, by kernel_rfl, by kernel_rfl⟩
/-! loop.example/g00793/spec.IsWord -/
def aS_IsWord : An := ⟨[], [], []⟩
noncomputable def tS_IsWord (x0 : ByteArray) : T :=
  .call false 92 [.string (x0), .int .u8 ((97 : Int)), .int .u8 ((122 : Int)), .int .u8 ((48 : Int)), .int .u8 ((57 : Int))] (.v (.o (.b))) fun y1 =>
  .br (y1) (
    .br (decide ((↑x0.size : Int) ≤ (12 : Int))) (
      .rq ((0 : Int) ≤ (0 : Int) ∧ (0 : Int) < (↑x0.size : Int)) <|
      .ret [.bool (decide (at0 x0 (Int.toNat (0 : Int)) ≥ (97 : Int)))]) <|
    .ret [.bool (false)]) <|
  .ret [.bool (false)]
theorem fS_IsWord (x0 : ByteArray) : fits Tryz.prog aS_IsWord 57 [.string (x0)] (tS_IsWord x0) :=
  ⟨Tryz.f57, Tryz.f57.body.getD .skip, by kernel_rfl, by kernel_rfl, by kernel_rfl, by kernel_rfl, by kernel_rfl, by kernel_rfl⟩
/-! loop.example/g00793/spec.CurKnown -/
def aS_CurKnown : An := ⟨[], [], []⟩
noncomputable def tS_CurKnown (x0 : ByteArray) : T :=
  .call false 65 [.string (x0)] (.v (.g [.s, .s, .i .i64, .i .i64])) fun y1 =>
  .ret [.bool (!ByteArray.toList y1.fst == { data := { toList := [] : Array UInt8 } : ByteArray }.toList)]
theorem fS_CurKnown (x0 : ByteArray) : fits Tryz.prog aS_CurKnown 58 [.string (x0)] (tS_CurKnown x0) :=
  ⟨Tryz.f58, Tryz.f58.body.getD .skip, by kernel_rfl, by kernel_rfl, by kernel_rfl, by kernel_rfl, by kernel_rfl, by kernel_rfl⟩
/-! loop.example/g00793/spec.RatSign -/
def aS_RatSign : An := ⟨[], [], []⟩
noncomputable def tS_RatSign (x0 : Bool × SlV × SlV × PUnit) : T :=
  .rg <|
  .call true 94 [] (.v (.g [.b, .l, .l])) fun y1 =>
  .call true 93 [Sh1.val (.g [.b, .l, .l]) (x0), Sh1.val (.g [.b, .l, .l]) (y1)] (.v (.o (.i .i64))) fun y2 =>
  .ret [.int .i64 (y2)]
theorem fS_RatSign (x0 : Bool × SlV × SlV × PUnit) : fits Tryz.prog aS_RatSign 59 [Sh1.val (.g [.b, .l, .l]) (x0)] (tS_RatSign x0) :=
  ⟨Tryz.f59, Tryz.f59.body.getD .skip, by kernel_rfl, by kernel_rfl, by kernel_rfl, by kernel_rfl, by kernel_rfl, by kernel_rfl⟩
/-! loop.example/g00793/spec.l10At -/
def aS_l10At : An := ⟨[(2, [.s 11], [.o (.o (.i .i64))])], [], []⟩
noncomputable def tS_l10At (x0 : SlV) (x1 : ByteArray) (x2 : ByteArray) : T :=
  .lp [.o (.o (.i .i64))] [.v (.int .i64 ((0 : Int)))] fun y1 =>
  .br (decide (y1.fst < (↑x0.n : Int))) (
    .el (x0.a) (x0.n) (y1.fst) fun y2 =>
    .ld false (y2.add (Int.toNat y1.fst * (5 : Nat))) (.g [.s, .s, .b, .l, .i .i64]) fun y3 =>
    .br (ByteArray.toList y3.fst == x1.toList) (
      .br (ByteArray.toList y3.2.fst == x2.toList) (
        .ret [.int .i64 (y1.fst)]) <|
      .nx 0 [.v (.int .i64 (Go.IntKind.i64.wrap (y1.fst + (1 : Int))))]) <|
    .nx 0 [.v (.int .i64 (Go.IntKind.i64.wrap (y1.fst + (1 : Int))))]) <|
  .ret [.int .i64 ((-1 : Int))]
theorem fS_l10At (x0 : SlV) (x1 : ByteArray) (x2 : ByteArray) : fits Tryz.prog aS_l10At 60 [Sc.val .l (x0), .string (x1), .string (x2)] (tS_l10At x0 x1 x2) :=
  ⟨Tryz.f60, Tryz.f60.body.getD .skip, by kernel_rfl, by kernel_rfl, by kernel_rfl, by kernel_rfl, by kernel_rfl, by kernel_rfl⟩
/-! loop.example/g00793/spec.DecOk -/
def aS_DecOk : An := ⟨[], [], []⟩
noncomputable def tS_DecOk (x0 : Bool × SlV × Int × PUnit) : T :=
  .call false 64 [Sh1.val (.g [.b, .l]) ((x0.fst), x0.2.1, ())] (.v (.o (.b))) fun y1 =>
  .br (y1) (
    .br (decide ((↑x0.2.1.n : Int) ≤ (6 : Int))) (
      .call false 95 [.int .i64 (x0.2.2.fst), .int .i64 ((0 : Int)), .int .i64 ((30 : Int))] (.v (.o (.b))) fun y2 =>
      .ret [.bool (y2)]) <|
    .ret [.bool (false)]) <|
  .ret [.bool (false)]
theorem fS_DecOk (x0 : Bool × SlV × Int × PUnit) : fits Tryz.prog aS_DecOk 61 [Sh1.val (.g [.b, .l, .i .i64]) (x0)] (tS_DecOk x0) :=
  ⟨Tryz.f61, Tryz.f61.body.getD .skip, by kernel_rfl, by kernel_rfl, by kernel_rfl, by kernel_rfl, by kernel_rfl, by kernel_rfl⟩
/-! loop.example/g00793/spec.IntSign -/
def aS_IntSign : An := ⟨[], [], []⟩
noncomputable def tS_IntSign (x0 : Bool × SlV × PUnit) : T :=
  .call false 96 [Sh1.val (.g [.b, .l]) (x0), Sh1.val (.g [.b, .l]) ((false), (⟨(none), ((0 : Nat)), ((0 : Nat))⟩ : SlV), ())] (.v (.o (.i .i64))) fun y1 =>
  .ret [.int .i64 (y1)]
theorem fS_IntSign (x0 : Bool × SlV × PUnit) : fits Tryz.prog aS_IntSign 62 [Sh1.val (.g [.b, .l]) (x0)] (tS_IntSign x0) :=
  ⟨Tryz.f62, Tryz.f62.body.getD .skip, by kernel_rfl, by kernel_rfl, by kernel_rfl, by kernel_rfl, by kernel_rfl, by kernel_rfl⟩
/-! loop.example/g00793/spec.Pad -/
def aS_Pad : An := ⟨[(3, [.s 0], [.o (.o (.s))])], [], []⟩
noncomputable def tS_Pad (x0 : ByteArray) (x1 : Int) : T :=
  .br (decide (x1 > (2000 : Int))) (
    .ret [.string (x0)]) <|
  .lp [.o (.o (.s))] [.v (.string (x0))] fun y1 =>
  .br (decide ((↑(ByteArray.size y1.fst) : Int) < x1)) (
    .rq ({ data := { toList := [(48 : UInt8)] : Array UInt8 } : ByteArray }.size + ByteArray.size y1.fst ≤ (9223372036854775807 : Nat)) <|
    .nx 0 [.v (.string ({ data := { toList := [(48 : UInt8)] : Array UInt8 } : ByteArray } ++ y1.fst))]) <|
  .ret [.string (y1.fst)]
theorem fS_Pad (x0 : ByteArray) (x1 : Int) : fits Tryz.prog aS_Pad 63 [.string (x0), .int .i64 (x1)] (tS_Pad x0 x1) :=
  ⟨Tryz.f63, Tryz.f63.body.getD .skip, by kernel_rfl, by kernel_rfl, by kernel_rfl, by kernel_rfl, by kernel_rfl, by kernel_rfl⟩
/-! loop.example/g00793/spec.IntOk -/
def aS_IntOk : An := ⟨[], [], []⟩
noncomputable def tS_IntOk (x0 : Bool × SlV × PUnit) : T :=
  .call false 66 [Sc.val .l (x0.2.1)] (.v (.o (.b))) fun y1 =>
  .br (y1) (
    .br (!x0.fst) (
      .ret [.bool (true)]) <|
    .ret [.bool (decide ((↑x0.2.1.n : Int) > (0 : Int)))]) <|
  .ret [.bool (false)]
theorem fS_IntOk (x0 : Bool × SlV × PUnit) : fits Tryz.prog aS_IntOk 64 [Sh1.val (.g [.b, .l]) (x0)] (tS_IntOk x0) :=
  ⟨Tryz.f64, Tryz.f64.body.getD .skip, by kernel_rfl, by kernel_rfl, by kernel_rfl, by kernel_rfl, by kernel_rfl, by kernel_rfl⟩
/-! loop.example/g00793/spec.l08Find -/
def aS_l08Find : An := ⟨[(2, [.s 7, .c 2 0, .c 2 1, .c 2 2, .c 2 3], [.o (.o (.i .i64)), .o (.o (.s)), .o (.o (.s)), .o (.o (.i .i64)), .o (.o (.i .i64))])], [], []⟩
noncomputable def tS_l08Find (x0 : ByteArray) : T :=
  .call false 97 [] (.v (.o (.l))) fun y1 =>
  .lp [.o (.o (.i .i64)), .o (.o (.s)), .o (.o (.s)), .o (.o (.i .i64)), .o (.o (.i .i64))] [.v (.int .i64 ((0 : Int))), .v (.string ({ data := { toList := [] : Array UInt8 } : ByteArray })), .v (.string ({ data := { toList := [] : Array UInt8 } : ByteArray })), .v (.int .i64 ((0 : Int))), .v (.int .i64 ((0 : Int)))] fun y2 =>
  .br (decide (y2.fst < (↑y1.n : Int))) (
    .el (y1.a) (y1.n) (y2.fst) fun y3 =>
    .ld false (y3.add (Int.toNat y2.fst * (4 : Nat))) (.g [.s, .s, .i .i64, .i .i64]) fun y4 =>
    .br (ByteArray.toList y4.fst == x0.toList) (
      .ret [Sh1.val (.g [.s, .s, .i .i64, .i .i64]) (y4)]) <|
    .nx 0 [.v (.int .i64 (Go.IntKind.i64.wrap (y2.fst + (1 : Int)))), .v (.string (y2.2.fst)), .v (.string (y2.2.2.fst)), .v (.int .i64 (y2.2.2.2.fst)), .v (.int .i64 (y2.2.2.2.2.fst))]) <|
  .ret [Sh1.val (.g [.s, .s, .i .i64, .i .i64]) (({ data := { toList := [] : Array UInt8 } : ByteArray }), ({ data := { toList := [] : Array UInt8 } : ByteArray }), (((0 : Int)) : Int), (((0 : Int)) : Int), ())]
theorem fS_l08Find (x0 : ByteArray) : fits Tryz.prog aS_l08Find 65 [.string (x0)] (tS_l08Find x0) :=
  ⟨Tryz.f65, Tryz.f65.body.getD .skip, by kernel_rfl, by kernel_rfl, by kernel_rfl, by kernel_rfl, by kernel_rfl, by kernel_rfl⟩
/-! loop.example/g00793/spec.NatOk -/
def aS_NatOk : An := ⟨[(2, [.s 7], [.o (.o (.i .i64))])], [], []⟩
noncomputable def tS_NatOk (x0 : SlV) : T :=
  .lp [.o (.o (.i .i64))] [.v (.int .i64 ((0 : Int)))] fun y1 =>
  .br (decide (y1.fst < (↑x0.n : Int))) (
    .el (x0.a) (x0.n) (y1.fst) fun y2 =>
    .ld false (y2.add (Int.toNat y1.fst * (1 : Nat))) (.o (.i .i64)) fun y3 =>
    .call false 95 [.int .i64 (y3), .int .i64 ((0 : Int)), .int .i64 ((999999999 : Int))] (.v (.o (.b))) fun y4 =>
    .br (!y4) (
      .ret [.bool (false)]) <|
    .nx 0 [.v (.int .i64 (Go.IntKind.i64.wrap (y1.fst + (1 : Int))))]) <|
  .br (decide ((↑x0.n : Int) ≤ (50 : Int))) (
    .br ((↑x0.n : Int) == (0 : Int)) (
      .ret [.bool (true)]) <|
    .el (x0.a) (x0.n) (Go.IntKind.i64.wrap ((↑x0.n : Int) - (1 : Int))) fun y2 =>
    .ld false (y2.add ((Go.IntKind.i64.wrap ((↑x0.n : Int) - (1 : Int))).toNat * (1 : Nat))) (.o (.i .i64)) fun y3 =>
    .ret [.bool (y3 != (0 : Int))]) <|
  .ret [.bool (false)]
theorem fS_NatOk (x0 : SlV) : fits Tryz.prog aS_NatOk 66 [Sc.val .l (x0)] (tS_NatOk x0) :=
  ⟨Tryz.f66, Tryz.f66.body.getD .skip, by kernel_rfl, by kernel_rfl, by kernel_rfl, by kernel_rfl, by kernel_rfl, by kernel_rfl⟩
/-! loop.example/g00793/spec.NatGcd -/
def aS_NatGcd : An := ⟨[(5, [.s 5, .s 6], [.o (.o (.l)), .o (.o (.l))])], [], []⟩
noncomputable def tS_NatGcd (x0 : SlV) (x1 : SlV) : T :=
  .call false 66 [Sc.val .l (x0)] (.v (.o (.b))) fun y1 =>
  .br (!y1) (
    .ret [.slice (none) ((0 : Nat)) ((0 : Nat))]) <|
  .call false 66 [Sc.val .l (x1)] (.v (.o (.b))) fun y2 =>
  .br (!y2) (
    .ret [.slice (none) ((0 : Nat)) ((0 : Nat))]) <|
  .rd ({ a := x0.a, n := x0.n, c := x0.c : SlV }) ((1 : Nat)) fun y3 =>
  .rq (one y3 = true ∧ ((0 : Nat) + x0.n) * (8 : Nat) ≤ (140737488355328 : Nat) ∧ (0 : Nat) + x0.n ≤ (9223372036854775807 : Nat)) <|
  .rd ({ a := x1.a, n := x1.n, c := x1.c : SlV }) ((1 : Nat)) fun y4 =>
  .rq (one y4 = true ∧ ((0 : Nat) + x1.n) * (8 : Nat) ≤ (140737488355328 : Nat) ∧ (0 : Nat) + x1.n ≤ (9223372036854775807 : Nat)) <|
  .fz ((0 : Nat) + x0.n) ([] ++ y3) 3 fun b5 c5 =>
  .fz ((0 : Nat) + x1.n) ([] ++ y4) 3 fun b6 c6 =>
  .lp [.o (.o (.l)), .o (.o (.l))] [.v (.slice (some { block := b5, off := (0 : Nat) : Go.Addr }) ((0 : Nat) + x0.n) (c5)), .v (.slice (some { block := b6, off := (0 : Nat) : Go.Addr }) ((0 : Nat) + x1.n) (c6))] fun y7 =>
  .br (decide ((↑y7.2.1.n : Int) > (0 : Int))) (
    .call false 98 [Sc.val .l (y7.1), Sc.val .l (y7.2.1)] (.t [(.o (.l)), (.o (.l))]) fun y8 =>
    .nx 0 [.v (Sc.val .l (y7.2.1)), .v (Sc.val .l (y8.2.1))]) <|
  .ret [Sc.val .l (y7.1)]
theorem fS_NatGcd (x0 : SlV) (x1 : SlV) : fits Tryz.prog aS_NatGcd 67 [Sc.val .l (x0), Sc.val .l (x1)] (tS_NatGcd x0 x1) :=
  ⟨Tryz.f67, Tryz.f67.body.getD .skip, by kernel_rfl, by kernel_rfl, by kernel_rfl, by kernel_rfl, by kernel_rfl, by kernel_rfl⟩
/-! loop.example/g00793/spec.IntText -/
def aS_IntText : An := ⟨[(6, [.s 0, .s 3], [.o (.o (.i .i64)), .o (.o (.s))])], [], []⟩
noncomputable def tS_IntText (x0 : Int) : T :=
  .br (decide (x0 < (0 : Int))) (
    .rq ((10 : Int) ≠ (0 : Int)) <|
    .br (Go.IntKind.i64.wrap (x0.tdiv (10 : Int)) == (0 : Int)) (
      .fz ((1 : Nat)) [.int .u8 (Go.IntKind.u8.wrap (Go.IntKind.i64.wrap ((48 : Int) - x0)))] 5 fun b1 c1 =>
      .rd ({ a := some { block := b1, off := (0 : Nat) : Go.Addr }, n := (1 : Nat), c := c1 : SlV }) ((1 : Nat)) fun y2 =>
      .rq (bytesOf y2 ≠ none) <|
      .rq ({ data := { toList := [(45 : UInt8)] : Array UInt8 } : ByteArray }.size + (bytesD y2).size ≤ (9223372036854775807 : Nat)) <|
      .ret [.string ({ data := { toList := [(45 : UInt8)] : Array UInt8 } : ByteArray } ++ bytesD y2)]) <|
    .no) <|
  .lp [.o (.o (.i .i64)), .o (.o (.s))] [.v (.int .i64 (x0)), .v (.string ({ data := { toList := [] : Array UInt8 } : ByteArray }))] fun y1 =>
  .br (decide (y1.fst > (9 : Int))) (
    .rq ((10 : Int) ≠ (0 : Int)) <|
    .fz ((1 : Nat)) [.int .u8 (Go.IntKind.u8.wrap (Go.IntKind.i64.wrap ((48 : Int) + Int.tmod y1.fst (10 : Int))))] 5 fun b2 c2 =>
    .rd ({ a := some { block := b2, off := (0 : Nat) : Go.Addr }, n := (1 : Nat), c := c2 : SlV }) ((1 : Nat)) fun y3 =>
    .rq (bytesOf y3 ≠ none) <|
    .rq ((bytesD y3).size + ByteArray.size y1.2.fst ≤ (9223372036854775807 : Nat)) <|
    .rq ((10 : Int) ≠ (0 : Int)) <|
    .nx 0 [.v (.int .i64 (Go.IntKind.i64.wrap (Int.tdiv y1.fst (10 : Int)))), .v (.string (bytesD y3 ++ y1.2.fst))]) <|
  .fz ((1 : Nat)) [.int .u8 (Go.IntKind.u8.wrap (Go.IntKind.i64.wrap ((48 : Int) + y1.fst)))] 5 fun b2 c2 =>
  .rd ({ a := some { block := b2, off := (0 : Nat) : Go.Addr }, n := (1 : Nat), c := c2 : SlV }) ((1 : Nat)) fun y3 =>
  .rq (bytesOf y3 ≠ none) <|
  .rq ((bytesD y3).size + ByteArray.size y1.2.fst ≤ (9223372036854775807 : Nat)) <|
  .ret [.string (bytesD y3 ++ y1.2.fst)]
theorem fS_IntText (x0 : Int) : fits Tryz.prog aS_IntText 68 [.int .i64 (x0)] (tS_IntText x0) :=
  ⟨Tryz.f68, Tryz.f68.body.getD .skip, by kernel_rfl, by kernel_rfl, by kernel_rfl, by kernel_rfl, by kernel_rfl, by kernel_rfl⟩
/-! loop.example/g00793/laws.toAcct -/
def aL_toAcct : An := ⟨[], [], []⟩
noncomputable def tL_toAcct (x0 : ByteArray × ByteArray × Bool × SlV × PUnit) : T :=
  .call false 99 [Sh1.val (.g [.s, .b, .l]) (x0.2)] (.v (.g [.s, .b, .l])) fun y1 =>
  .ret [Sh1.val (.g [.s, .s, .b, .l]) ((x0.fst), (y1.fst), (y1.2.fst), y1.2.2.1, ())]
theorem fL_toAcct (x0 : ByteArray × ByteArray × Bool × SlV × PUnit) : fits Tryz.prog aL_toAcct 69 [Sh1.val (.g [.s, .s, .b, .l]) (x0)] (tL_toAcct x0) :=
  ⟨Tryz.f69, Tryz.f69.body.getD .skip, by kernel_rfl, by kernel_rfl, by kernel_rfl, by kernel_rfl, by kernel_rfl, by kernel_rfl⟩
/-! loop.example/g00793/laws.toRat -/
def aL_toRat : An := ⟨[], [], []⟩
noncomputable def tL_toRat (x0 : Bool × SlV × SlV × PUnit) : T :=
  .call false 100 [Sh1.val (.g [.b, .l]) ((x0.fst), x0.2.1, ())] (.v (.g [.b, .l])) fun y1 =>
  .call false 101 [Sc.val .l (x0.2.2.1)] (.v (.o (.l))) fun y2 =>
  .ret [Sh1.val (.g [.b, .l, .l]) ((y1.fst), y1.2.1, y2, ())]
theorem fL_toRat (x0 : Bool × SlV × SlV × PUnit) : fits Tryz.prog aL_toRat 70 [Sh1.val (.g [.b, .l, .l]) (x0)] (tL_toRat x0) :=
  ⟨Tryz.f70, Tryz.f70.body.getD .skip, by kernel_rfl, by kernel_rfl, by kernel_rfl, by kernel_rfl, by kernel_rfl, by kernel_rfl⟩
/-! loop.example/g00793/laws.toRate -/
def aL_toRate : An := ⟨[], [], []⟩
noncomputable def tL_toRate (x0 : ByteArray × ByteArray × Bool × SlV × Int × PUnit) : T :=
  .call false 102 [Sh1.val (.g [.b, .l, .i .i64]) (x0.2.2)] (.v (.g [.b, .l, .i .i64])) fun y1 =>
  .ret [Sh1.val (.g [.s, .s, .b, .l, .i .i64]) ((x0.fst), (x0.2.fst), (y1.fst), y1.2.1, ((y1.2.2.fst) : Int), ())]
theorem fL_toRate (x0 : ByteArray × ByteArray × Bool × SlV × Int × PUnit) : fits Tryz.prog aL_toRate 71 [Sh1.val (.g [.s, .s, .b, .l, .i .i64]) (x0)] (tL_toRate x0) :=
  ⟨Tryz.f71, Tryz.f71.body.getD .skip, by kernel_rfl, by kernel_rfl, by kernel_rfl, by kernel_rfl, by kernel_rfl, by kernel_rfl⟩
/-! loop.example/g00793/impl.IsWord -/
def aI_IsWord : An := ⟨[(4, [.s 3], [.o (.o (.i .i64))])], [], []⟩
noncomputable def tI_IsWord (x0 : ByteArray) : T :=
  .br (decide ((↑x0.size : Int) < (1 : Int))) (
    .ret [.bool (false)]) <|
  .br (decide ((↑x0.size : Int) > (12 : Int))) (
    .ret [.bool (false)]) <|
  .rq ((0 : Int) ≤ (0 : Int) ∧ (0 : Int) < (↑x0.size : Int)) <|
  .call false 103 [.int .u8 (at0 x0 (Int.toNat (0 : Int)))] (.v (.o (.b))) fun y1 =>
  .br (!y1) (
    .ret [.bool (false)]) <|
  .lp [.o (.o (.i .i64))] [.v (.int .i64 ((1 : Int)))] fun y2 =>
  .br (decide (y2.fst < (↑x0.size : Int))) (
    .rq ((0 : Int) ≤ y2.fst ∧ y2.fst < (↑x0.size : Int)) <|
    .call false 103 [.int .u8 (at0 x0 (Int.toNat y2.fst))] (.v (.o (.b))) fun y3 =>
    .br (!y3) (
      .rq ((0 : Int) ≤ y2.fst ∧ y2.fst < (↑x0.size : Int)) <|
      .call false 104 [.int .u8 (at0 x0 (Int.toNat y2.fst))] (.v (.o (.b))) fun y4 =>
      .br (!y4) (
        .ret [.bool (false)]) <|
      .nx 0 [.v (.int .i64 (Go.IntKind.i64.wrap (y2.fst + (1 : Int))))]) <|
    .nx 0 [.v (.int .i64 (Go.IntKind.i64.wrap (y2.fst + (1 : Int))))]) <|
  .ret [.bool (true)]
theorem fI_IsWord (x0 : ByteArray) : fits Tryz.prog aI_IsWord 72 [.string (x0)] (tI_IsWord x0) :=
  ⟨Tryz.f72, Tryz.f72.body.getD .skip, by kernel_rfl, by kernel_rfl, by kernel_rfl, by kernel_rfl, by kernel_rfl, by kernel_rfl⟩
/-! loop.example/g00793/impl.CurKnown -/
def aI_CurKnown : An := ⟨[], [], []⟩
noncomputable def tI_CurKnown (x0 : ByteArray) : T :=
  .call false 81 [.string (x0)] (.t [(.g [.s, .s, .i .i64, .i .i64]), (.o (.b))]) fun y1 =>
  .ret [.bool (y1.2.fst)]
theorem fI_CurKnown (x0 : ByteArray) : fits Tryz.prog aI_CurKnown 73 [.string (x0)] (tI_CurKnown x0) :=
  ⟨Tryz.f73, Tryz.f73.body.getD .skip, by kernel_rfl, by kernel_rfl, by kernel_rfl, by kernel_rfl, by kernel_rfl, by kernel_rfl⟩
/-! loop.example/g00793/impl.RatOk -/
def aI_RatOk : An := ⟨[], [], []⟩
noncomputable def tI_RatOk (x0 : Bool × SlV × SlV × PUnit) : T :=
  .call false 80 [Sh1.val (.g [.b, .l]) ((x0.fst), x0.2.1, ())] (.v (.o (.b))) fun y1 =>
  .br (!y1) (
    .ret [.bool (false)]) <|
  .call false 105 [Sc.val .l (x0.2.2.1)] (.v (.o (.b))) fun y2 =>
  .br (!y2) (
    .ret [.bool (false)]) <|
  .br ((↑x0.2.2.1.n : Int) == (0 : Int)) (
    .ret [.bool (false)]) <|
  .br (decide ((↑x0.2.2.1.n : Int) > (18 : Int))) (
    .ret [.bool (false)]) <|
  .br (decide ((↑x0.2.1.n : Int) > (18 : Int))) (
    .ret [.bool (false)]) <|
  .call false 106 [Sc.val .l (x0.2.1), Sc.val .l (x0.2.2.1)] (.v (.o (.l))) fun y3 =>
  .br ((↑y3.n : Int) == (1 : Int)) (
    .el (y3.a) (y3.n) ((0 : Int)) fun y4 =>
    .ld false (y4.add (Int.toNat (0 : Int) * (1 : Nat))) (.o (.i .i64)) fun y5 =>
    .ret [.bool (y5 == (1 : Int))]) <|
  .ret [.bool (false)]
theorem fI_RatOk (x0 : Bool × SlV × SlV × PUnit) : fits Tryz.prog aI_RatOk 74 [Sh1.val (.g [.b, .l, .l]) (x0)] (tI_RatOk x0) :=
  ⟨Tryz.f74, Tryz.f74.body.getD .skip, by kernel_rfl, by kernel_rfl, by kernel_rfl, by kernel_rfl, by kernel_rfl, by kernel_rfl⟩
/-! loop.example/g00793/impl.RatSign -/
def aI_RatSign : An := ⟨[], [], []⟩
noncomputable def tI_RatSign (x0 : Bool × SlV × SlV × PUnit) : T :=
  .call false 74 [Sh1.val (.g [.b, .l, .l]) (x0)] (.v (.o (.b))) fun y1 =>
  .br (!y1) (
    .ret [.int .i64 ((0 : Int))]) <|
  .call false 77 [Sh1.val (.g [.b, .l]) ((x0.fst), x0.2.1, ())] (.v (.o (.i .i64))) fun y2 =>
  .ret [.int .i64 (y2)]
theorem fI_RatSign (x0 : Bool × SlV × SlV × PUnit) : fits Tryz.prog aI_RatSign 75 [Sh1.val (.g [.b, .l, .l]) (x0)] (tI_RatSign x0) :=
  ⟨Tryz.f75, Tryz.f75.body.getD .skip, by kernel_rfl, by kernel_rfl, by kernel_rfl, by kernel_rfl, by kernel_rfl, by kernel_rfl⟩
/-! loop.example/g00793/impl.DecOk -/
def aI_DecOk : An := ⟨[], [], []⟩
noncomputable def tI_DecOk (x0 : Bool × SlV × Int × PUnit) : T :=
  .call false 80 [Sh1.val (.g [.b, .l]) ((x0.fst), x0.2.1, ())] (.v (.o (.b))) fun y1 =>
  .br (y1) (
    .br (decide ((↑x0.2.1.n : Int) ≤ (6 : Int))) (
      .call false 107 [.int .i64 (x0.2.2.fst)] (.v (.o (.b))) fun y2 =>
      .ret [.bool (y2)]) <|
    .ret [.bool (false)]) <|
  .ret [.bool (false)]
theorem fI_DecOk (x0 : Bool × SlV × Int × PUnit) : fits Tryz.prog aI_DecOk 76 [Sh1.val (.g [.b, .l, .i .i64]) (x0)] (tI_DecOk x0) :=
  ⟨Tryz.f76, Tryz.f76.body.getD .skip, by kernel_rfl, by kernel_rfl, by kernel_rfl, by kernel_rfl, by kernel_rfl, by kernel_rfl⟩
/-! loop.example/g00793/impl.intSign -/
def aI_intSign : An := ⟨[], [], []⟩
noncomputable def tI_intSign (x0 : Bool × SlV × PUnit) : T :=
  .br ((↑x0.2.1.n : Int) == (0 : Int)) (
    .ret [.int .i64 ((0 : Int))]) <|
  .br (x0.fst) (
    .ret [.int .i64 ((-1 : Int))]) <|
  .ret [.int .i64 ((1 : Int))]
theorem fI_intSign (x0 : Bool × SlV × PUnit) : fits Tryz.prog aI_intSign 77 [Sh1.val (.g [.b, .l]) (x0)] (tI_intSign x0) :=
  ⟨Tryz.f77, Tryz.f77.body.getD .skip, by kernel_rfl, by kernel_rfl, by kernel_rfl, by kernel_rfl, by kernel_rfl, by kernel_rfl⟩
/-! loop.example/g00793/impl.Pad -/
def aI_Pad : An := ⟨[], [], []⟩
noncomputable def tI_Pad (x0 : ByteArray) (x1 : Int) : T :=
  .br (decide ((↑x0.size : Int) ≥ x1)) (
    .ret [.string (x0)]) <|
  .br (decide (x1 > (2000 : Int))) (
    .ret [.string (x0)]) <|
  .call false 108 [.string ({ data := { toList := [(48 : UInt8)] : Array UInt8 } : ByteArray }), .int .i64 (Go.IntKind.i64.wrap (x1 - (↑x0.size : Int)))] (.v (.o (.s))) fun y1 =>
  .rq (y1.size + x0.size ≤ (9223372036854775807 : Nat)) <|
  .ret [.string (y1 ++ x0)]
theorem fI_Pad (x0 : ByteArray) (x1 : Int) : fits Tryz.prog aI_Pad 78 [.string (x0), .int .i64 (x1)] (tI_Pad x0 x1) :=
  ⟨Tryz.f78, Tryz.f78.body.getD .skip, by kernel_rfl, by kernel_rfl, by kernel_rfl, by kernel_rfl, by kernel_rfl, by kernel_rfl⟩
/-! loop.example/g00793/impl.natText -/
def aI_natText : An := ⟨[(5, [.s 3, .s 4], [.o (.o (.s)), .o (.o (.i .i64))])], [], []⟩
noncomputable def tI_natText (x0 : SlV) : T :=
  .br ((↑x0.n : Int) == (0 : Int)) (
    .ret [.string ({ data := { toList := [(48 : UInt8)] : Array UInt8 } : ByteArray })]) <|
  .el (x0.a) (x0.n) (Go.IntKind.i64.wrap ((↑x0.n : Int) - (1 : Int))) fun y1 =>
  .ld false (y1.add ((Go.IntKind.i64.wrap ((↑x0.n : Int) - (1 : Int))).toNat * (1 : Nat))) (.o (.i .i64)) fun y2 =>
  .call false 109 [.int .i64 (y2)] (.v (.o (.s))) fun y3 =>
  .lp [.o (.o (.s)), .o (.o (.i .i64))] [.v (.string (y3)), .v (.int .i64 (Go.IntKind.i64.wrap ((↑x0.n : Int) - (2 : Int))))] fun y4 =>
  .br (decide (y4.2.fst ≥ (0 : Int))) (
    .el (x0.a) (x0.n) (y4.2.fst) fun y5 =>
    .ld false (y5.add (Int.toNat y4.2.fst * (1 : Nat))) (.o (.i .i64)) fun y6 =>
    .call false 109 [.int .i64 (y6)] (.v (.o (.s))) fun y7 =>
    .call false 78 [.string (y7), .int .i64 ((9 : Int))] (.v (.o (.s))) fun y8 =>
    .rq (ByteArray.size y4.fst + y8.size ≤ (9223372036854775807 : Nat)) <|
    .nx 0 [.v (.string (y4.fst ++ y8)), .v (.int .i64 (Go.IntKind.i64.wrap (y4.2.fst - (1 : Int))))]) <|
  .ret [.string (y4.fst)]
theorem fI_natText (x0 : SlV) : fits Tryz.prog aI_natText 79 [Sc.val .l (x0)] (tI_natText x0) :=
  ⟨Tryz.f79, Tryz.f79.body.getD .skip, by kernel_rfl, by kernel_rfl, by kernel_rfl, by kernel_rfl, by kernel_rfl, by kernel_rfl⟩
/-! loop.example/g00793/impl.IntOk -/
def aI_IntOk : An := ⟨[], [], []⟩
noncomputable def tI_IntOk (x0 : Bool × SlV × PUnit) : T :=
  .call false 105 [Sc.val .l (x0.2.1)] (.v (.o (.b))) fun y1 =>
  .br (y1) (
    .br (!x0.fst) (
      .ret [.bool (true)]) <|
    .ret [.bool (decide ((↑x0.2.1.n : Int) > (0 : Int)))]) <|
  .ret [.bool (false)]
theorem fI_IntOk (x0 : Bool × SlV × PUnit) : fits Tryz.prog aI_IntOk 80 [Sh1.val (.g [.b, .l]) (x0)] (tI_IntOk x0) :=
  ⟨Tryz.f80, Tryz.f80.body.getD .skip, by kernel_rfl, by kernel_rfl, by kernel_rfl, by kernel_rfl, by kernel_rfl, by kernel_rfl⟩
/-! loop.example/g00793/impl.currencyOf -/
def aI_currencyOf : An := ⟨[(2, [.s 7, .c 2 0, .c 2 1, .c 2 2, .c 2 3], [.o (.o (.i .i64)), .o (.o (.s)), .o (.o (.s)), .o (.o (.i .i64)), .o (.o (.i .i64))])], [], []⟩
noncomputable def tI_currencyOf (x0 : ByteArray) : T :=
  .ld false ({ block := (0 : Nat), off := (0 : Nat) : Go.Addr }) (.g [.s, .s, .i .i64, .i .i64, .s, .s, .i .i64, .i .i64, .s, .s, .i .i64, .i .i64, .s, .s, .i .i64, .i .i64, .s, .s, .i .i64, .i .i64, .s, .s, .i .i64, .i .i64, .s, .s, .i .i64, .i .i64, .s, .s, .i .i64, .i .i64, .s, .s, .i .i64, .i .i64, .s, .s, .i .i64, .i .i64, .s, .s, .i .i64, .i .i64, .s, .s, .i .i64, .i .i64, .s, .s, .i .i64, .i .i64, .s, .s, .i .i64, .i .i64, .s, .s, .i .i64, .i .i64, .s, .s, .i .i64, .i .i64, .s, .s, .i .i64, .i .i64, .s, .s, .i .i64, .i .i64, .s, .s, .i .i64, .i .i64, .s, .s, .i .i64, .i .i64]) fun y1 =>
  .lp [.o (.o (.i .i64)), .o (.o (.s)), .o (.o (.s)), .o (.o (.i .i64)), .o (.o (.i .i64))] [.v (.int .i64 ((0 : Int))), .v (.string ({ data := { toList := [] : Array UInt8 } : ByteArray })), .v (.string ({ data := { toList := [] : Array UInt8 } : ByteArray })), .v (.int .i64 ((0 : Int))), .v (.int .i64 ((0 : Int)))] fun y2 =>
  .br (decide (y2.fst < (20 : Int))) (
    .rq ((0 : Int) ≤ y2.fst ∧ y2.fst < (↑(20 : Nat) : Int)) <|
    .xs [.string (y1.fst), .string (y1.2.fst), .int .i64 (y1.2.2.fst), .int .i64 (y1.2.2.2.fst), .string (y1.2.2.2.2.fst), .string (y1.2.2.2.2.2.fst), .int .i64 (y1.2.2.2.2.2.2.fst), .int .i64 (y1.2.2.2.2.2.2.2.fst), .string (y1.2.2.2.2.2.2.2.2.fst), .string (y1.2.2.2.2.2.2.2.2.2.fst), .int .i64 (y1.2.2.2.2.2.2.2.2.2.2.fst), .int .i64 (y1.2.2.2.2.2.2.2.2.2.2.2.fst), .string (y1.2.2.2.2.2.2.2.2.2.2.2.2.fst), .string (y1.2.2.2.2.2.2.2.2.2.2.2.2.2.fst), .int .i64 (y1.2.2.2.2.2.2.2.2.2.2.2.2.2.2.fst), .int .i64 (y1.2.2.2.2.2.2.2.2.2.2.2.2.2.2.2.fst), .string (y1.2.2.2.2.2.2.2.2.2.2.2.2.2.2.2.2.fst), .string (y1.2.2.2.2.2.2.2.2.2.2.2.2.2.2.2.2.2.fst), .int .i64 (y1.2.2.2.2.2.2.2.2.2.2.2.2.2.2.2.2.2.2.fst), .int .i64 (y1.2.2.2.2.2.2.2.2.2.2.2.2.2.2.2.2.2.2.2.fst), .string (y1.2.2.2.2.2.2.2.2.2.2.2.2.2.2.2.2.2.2.2.2.fst), .string (y1.2.2.2.2.2.2.2.2.2.2.2.2.2.2.2.2.2.2.2.2.2.fst), .int .i64 (y1.2.2.2.2.2.2.2.2.2.2.2.2.2.2.2.2.2.2.2.2.2.2.fst), .int .i64 (y1.2.2.2.2.2.2.2.2.2.2.2.2.2.2.2.2.2.2.2.2.2.2.2.fst), .string (y1.2.2.2.2.2.2.2.2.2.2.2.2.2.2.2.2.2.2.2.2.2.2.2.2.fst), .string (y1.2.2.2.2.2.2.2.2.2.2.2.2.2.2.2.2.2.2.2.2.2.2.2.2.2.fst), .int .i64 (y1.2.2.2.2.2.2.2.2.2.2.2.2.2.2.2.2.2.2.2.2.2.2.2.2.2.2.fst), .int .i64 (y1.2.2.2.2.2.2.2.2.2.2.2.2.2.2.2.2.2.2.2.2.2.2.2.2.2.2.2.fst), .string (y1.2.2.2.2.2.2.2.2.2.2.2.2.2.2.2.2.2.2.2.2.2.2.2.2.2.2.2.2.fst), .string (y1.2.2.2.2.2.2.2.2.2.2.2.2.2.2.2.2.2.2.2.2.2.2.2.2.2.2.2.2.2.fst), .int .i64 (y1.2.2.2.2.2.2.2.2.2.2.2.2.2.2.2.2.2.2.2.2.2.2.2.2.2.2.2.2.2.2.fst), .int .i64 (y1.2.2.2.2.2.2.2.2.2.2.2.2.2.2.2.2.2.2.2.2.2.2.2.2.2.2.2.2.2.2.2.fst), .string (y1.2.2.2.2.2.2.2.2.2.2.2.2.2.2.2.2.2.2.2.2.2.2.2.2.2.2.2.2.2.2.2.2.fst), .string (y1.2.2.2.2.2.2.2.2.2.2.2.2.2.2.2.2.2.2.2.2.2.2.2.2.2.2.2.2.2.2.2.2.2.fst), .int .i64 (y1.2.2.2.2.2.2.2.2.2.2.2.2.2.2.2.2.2.2.2.2.2.2.2.2.2.2.2.2.2.2.2.2.2.2.fst), .int .i64 (y1.2.2.2.2.2.2.2.2.2.2.2.2.2.2.2.2.2.2.2.2.2.2.2.2.2.2.2.2.2.2.2.2.2.2.2.fst), .string (y1.2.2.2.2.2.2.2.2.2.2.2.2.2.2.2.2.2.2.2.2.2.2.2.2.2.2.2.2.2.2.2.2.2.2.2.2.fst), .string (y1.2.2.2.2.2.2.2.2.2.2.2.2.2.2.2.2.2.2.2.2.2.2.2.2.2.2.2.2.2.2.2.2.2.2.2.2.2.fst), .int .i64 (y1.2.2.2.2.2.2.2.2.2.2.2.2.2.2.2.2.2.2.2.2.2.2.2.2.2.2.2.2.2.2.2.2.2.2.2.2.2.2.fst), .int .i64 (y1.2.2.2.2.2.2.2.2.2.2.2.2.2.2.2.2.2.2.2.2.2.2.2.2.2.2.2.2.2.2.2.2.2.2.2.2.2.2.2.fst), .string (y1.2.2.2.2.2.2.2.2.2.2.2.2.2.2.2.2.2.2.2.2.2.2.2.2.2.2.2.2.2.2.2.2.2.2.2.2.2.2.2.2.fst), .string (y1.2.2.2.2.2.2.2.2.2.2.2.2.2.2.2.2.2.2.2.2.2.2.2.2.2.2.2.2.2.2.2.2.2.2.2.2.2.2.2.2.2.fst), .int .i64 (y1.2.2.2.2.2.2.2.2.2.2.2.2.2.2.2.2.2.2.2.2.2.2.2.2.2.2.2.2.2.2.2.2.2.2.2.2.2.2.2.2.2.2.fst), .int .i64 (y1.2.2.2.2.2.2.2.2.2.2.2.2.2.2.2.2.2.2.2.2.2.2.2.2.2.2.2.2.2.2.2.2.2.2.2.2.2.2.2.2.2.2.2.fst), .string (y1.2.2.2.2.2.2.2.2.2.2.2.2.2.2.2.2.2.2.2.2.2.2.2.2.2.2.2.2.2.2.2.2.2.2.2.2.2.2.2.2.2.2.2.2.fst), .string (y1.2.2.2.2.2.2.2.2.2.2.2.2.2.2.2.2.2.2.2.2.2.2.2.2.2.2.2.2.2.2.2.2.2.2.2.2.2.2.2.2.2.2.2.2.2.fst), .int .i64 (y1.2.2.2.2.2.2.2.2.2.2.2.2.2.2.2.2.2.2.2.2.2.2.2.2.2.2.2.2.2.2.2.2.2.2.2.2.2.2.2.2.2.2.2.2.2.2.fst), .int .i64 (y1.2.2.2.2.2.2.2.2.2.2.2.2.2.2.2.2.2.2.2.2.2.2.2.2.2.2.2.2.2.2.2.2.2.2.2.2.2.2.2.2.2.2.2.2.2.2.2.fst), .string (y1.2.2.2.2.2.2.2.2.2.2.2.2.2.2.2.2.2.2.2.2.2.2.2.2.2.2.2.2.2.2.2.2.2.2.2.2.2.2.2.2.2.2.2.2.2.2.2.2.fst), .string (y1.2.2.2.2.2.2.2.2.2.2.2.2.2.2.2.2.2.2.2.2.2.2.2.2.2.2.2.2.2.2.2.2.2.2.2.2.2.2.2.2.2.2.2.2.2.2.2.2.2.fst), .int .i64 (y1.2.2.2.2.2.2.2.2.2.2.2.2.2.2.2.2.2.2.2.2.2.2.2.2.2.2.2.2.2.2.2.2.2.2.2.2.2.2.2.2.2.2.2.2.2.2.2.2.2.2.fst), .int .i64 (y1.2.2.2.2.2.2.2.2.2.2.2.2.2.2.2.2.2.2.2.2.2.2.2.2.2.2.2.2.2.2.2.2.2.2.2.2.2.2.2.2.2.2.2.2.2.2.2.2.2.2.2.fst), .string (y1.2.2.2.2.2.2.2.2.2.2.2.2.2.2.2.2.2.2.2.2.2.2.2.2.2.2.2.2.2.2.2.2.2.2.2.2.2.2.2.2.2.2.2.2.2.2.2.2.2.2.2.2.fst), .string (y1.2.2.2.2.2.2.2.2.2.2.2.2.2.2.2.2.2.2.2.2.2.2.2.2.2.2.2.2.2.2.2.2.2.2.2.2.2.2.2.2.2.2.2.2.2.2.2.2.2.2.2.2.2.fst), .int .i64 (y1.2.2.2.2.2.2.2.2.2.2.2.2.2.2.2.2.2.2.2.2.2.2.2.2.2.2.2.2.2.2.2.2.2.2.2.2.2.2.2.2.2.2.2.2.2.2.2.2.2.2.2.2.2.2.fst), .int .i64 (y1.2.2.2.2.2.2.2.2.2.2.2.2.2.2.2.2.2.2.2.2.2.2.2.2.2.2.2.2.2.2.2.2.2.2.2.2.2.2.2.2.2.2.2.2.2.2.2.2.2.2.2.2.2.2.2.fst), .string (y1.2.2.2.2.2.2.2.2.2.2.2.2.2.2.2.2.2.2.2.2.2.2.2.2.2.2.2.2.2.2.2.2.2.2.2.2.2.2.2.2.2.2.2.2.2.2.2.2.2.2.2.2.2.2.2.2.fst), .string (y1.2.2.2.2.2.2.2.2.2.2.2.2.2.2.2.2.2.2.2.2.2.2.2.2.2.2.2.2.2.2.2.2.2.2.2.2.2.2.2.2.2.2.2.2.2.2.2.2.2.2.2.2.2.2.2.2.2.fst), .int .i64 (y1.2.2.2.2.2.2.2.2.2.2.2.2.2.2.2.2.2.2.2.2.2.2.2.2.2.2.2.2.2.2.2.2.2.2.2.2.2.2.2.2.2.2.2.2.2.2.2.2.2.2.2.2.2.2.2.2.2.2.fst), .int .i64 (y1.2.2.2.2.2.2.2.2.2.2.2.2.2.2.2.2.2.2.2.2.2.2.2.2.2.2.2.2.2.2.2.2.2.2.2.2.2.2.2.2.2.2.2.2.2.2.2.2.2.2.2.2.2.2.2.2.2.2.2.fst), .string (y1.2.2.2.2.2.2.2.2.2.2.2.2.2.2.2.2.2.2.2.2.2.2.2.2.2.2.2.2.2.2.2.2.2.2.2.2.2.2.2.2.2.2.2.2.2.2.2.2.2.2.2.2.2.2.2.2.2.2.2.2.fst), .string (y1.2.2.2.2.2.2.2.2.2.2.2.2.2.2.2.2.2.2.2.2.2.2.2.2.2.2.2.2.2.2.2.2.2.2.2.2.2.2.2.2.2.2.2.2.2.2.2.2.2.2.2.2.2.2.2.2.2.2.2.2.2.fst), .int .i64 (y1.2.2.2.2.2.2.2.2.2.2.2.2.2.2.2.2.2.2.2.2.2.2.2.2.2.2.2.2.2.2.2.2.2.2.2.2.2.2.2.2.2.2.2.2.2.2.2.2.2.2.2.2.2.2.2.2.2.2.2.2.2.2.fst), .int .i64 (y1.2.2.2.2.2.2.2.2.2.2.2.2.2.2.2.2.2.2.2.2.2.2.2.2.2.2.2.2.2.2.2.2.2.2.2.2.2.2.2.2.2.2.2.2.2.2.2.2.2.2.2.2.2.2.2.2.2.2.2.2.2.2.2.fst), .string (y1.2.2.2.2.2.2.2.2.2.2.2.2.2.2.2.2.2.2.2.2.2.2.2.2.2.2.2.2.2.2.2.2.2.2.2.2.2.2.2.2.2.2.2.2.2.2.2.2.2.2.2.2.2.2.2.2.2.2.2.2.2.2.2.2.fst), .string (y1.2.2.2.2.2.2.2.2.2.2.2.2.2.2.2.2.2.2.2.2.2.2.2.2.2.2.2.2.2.2.2.2.2.2.2.2.2.2.2.2.2.2.2.2.2.2.2.2.2.2.2.2.2.2.2.2.2.2.2.2.2.2.2.2.2.fst), .int .i64 (y1.2.2.2.2.2.2.2.2.2.2.2.2.2.2.2.2.2.2.2.2.2.2.2.2.2.2.2.2.2.2.2.2.2.2.2.2.2.2.2.2.2.2.2.2.2.2.2.2.2.2.2.2.2.2.2.2.2.2.2.2.2.2.2.2.2.2.fst), .int .i64 (y1.2.2.2.2.2.2.2.2.2.2.2.2.2.2.2.2.2.2.2.2.2.2.2.2.2.2.2.2.2.2.2.2.2.2.2.2.2.2.2.2.2.2.2.2.2.2.2.2.2.2.2.2.2.2.2.2.2.2.2.2.2.2.2.2.2.2.2.fst), .string (y1.2.2.2.2.2.2.2.2.2.2.2.2.2.2.2.2.2.2.2.2.2.2.2.2.2.2.2.2.2.2.2.2.2.2.2.2.2.2.2.2.2.2.2.2.2.2.2.2.2.2.2.2.2.2.2.2.2.2.2.2.2.2.2.2.2.2.2.2.fst), .string (y1.2.2.2.2.2.2.2.2.2.2.2.2.2.2.2.2.2.2.2.2.2.2.2.2.2.2.2.2.2.2.2.2.2.2.2.2.2.2.2.2.2.2.2.2.2.2.2.2.2.2.2.2.2.2.2.2.2.2.2.2.2.2.2.2.2.2.2.2.2.fst), .int .i64 (y1.2.2.2.2.2.2.2.2.2.2.2.2.2.2.2.2.2.2.2.2.2.2.2.2.2.2.2.2.2.2.2.2.2.2.2.2.2.2.2.2.2.2.2.2.2.2.2.2.2.2.2.2.2.2.2.2.2.2.2.2.2.2.2.2.2.2.2.2.2.2.fst), .int .i64 (y1.2.2.2.2.2.2.2.2.2.2.2.2.2.2.2.2.2.2.2.2.2.2.2.2.2.2.2.2.2.2.2.2.2.2.2.2.2.2.2.2.2.2.2.2.2.2.2.2.2.2.2.2.2.2.2.2.2.2.2.2.2.2.2.2.2.2.2.2.2.2.2.fst), .string (y1.2.2.2.2.2.2.2.2.2.2.2.2.2.2.2.2.2.2.2.2.2.2.2.2.2.2.2.2.2.2.2.2.2.2.2.2.2.2.2.2.2.2.2.2.2.2.2.2.2.2.2.2.2.2.2.2.2.2.2.2.2.2.2.2.2.2.2.2.2.2.2.2.fst), .string (y1.2.2.2.2.2.2.2.2.2.2.2.2.2.2.2.2.2.2.2.2.2.2.2.2.2.2.2.2.2.2.2.2.2.2.2.2.2.2.2.2.2.2.2.2.2.2.2.2.2.2.2.2.2.2.2.2.2.2.2.2.2.2.2.2.2.2.2.2.2.2.2.2.2.fst), .int .i64 (y1.2.2.2.2.2.2.2.2.2.2.2.2.2.2.2.2.2.2.2.2.2.2.2.2.2.2.2.2.2.2.2.2.2.2.2.2.2.2.2.2.2.2.2.2.2.2.2.2.2.2.2.2.2.2.2.2.2.2.2.2.2.2.2.2.2.2.2.2.2.2.2.2.2.2.fst), .int .i64 (y1.2.2.2.2.2.2.2.2.2.2.2.2.2.2.2.2.2.2.2.2.2.2.2.2.2.2.2.2.2.2.2.2.2.2.2.2.2.2.2.2.2.2.2.2.2.2.2.2.2.2.2.2.2.2.2.2.2.2.2.2.2.2.2.2.2.2.2.2.2.2.2.2.2.2.2.fst), .string (y1.2.2.2.2.2.2.2.2.2.2.2.2.2.2.2.2.2.2.2.2.2.2.2.2.2.2.2.2.2.2.2.2.2.2.2.2.2.2.2.2.2.2.2.2.2.2.2.2.2.2.2.2.2.2.2.2.2.2.2.2.2.2.2.2.2.2.2.2.2.2.2.2.2.2.2.2.fst), .string (y1.2.2.2.2.2.2.2.2.2.2.2.2.2.2.2.2.2.2.2.2.2.2.2.2.2.2.2.2.2.2.2.2.2.2.2.2.2.2.2.2.2.2.2.2.2.2.2.2.2.2.2.2.2.2.2.2.2.2.2.2.2.2.2.2.2.2.2.2.2.2.2.2.2.2.2.2.2.fst), .int .i64 (y1.2.2.2.2.2.2.2.2.2.2.2.2.2.2.2.2.2.2.2.2.2.2.2.2.2.2.2.2.2.2.2.2.2.2.2.2.2.2.2.2.2.2.2.2.2.2.2.2.2.2.2.2.2.2.2.2.2.2.2.2.2.2.2.2.2.2.2.2.2.2.2.2.2.2.2.2.2.2.fst), .int .i64 (y1.2.2.2.2.2.2.2.2.2.2.2.2.2.2.2.2.2.2.2.2.2.2.2.2.2.2.2.2.2.2.2.2.2.2.2.2.2.2.2.2.2.2.2.2.2.2.2.2.2.2.2.2.2.2.2.2.2.2.2.2.2.2.2.2.2.2.2.2.2.2.2.2.2.2.2.2.2.2.2.fst)] (Int.toNat y2.fst * (4 : Nat)) (.g [.s, .s, .i .i64, .i .i64]) fun y3 =>
    .br (ByteArray.toList y3.fst == x0.toList) (
      .ret [Sh1.val (.g [.s, .s, .i .i64, .i .i64]) (y3), .bool (true)]) <|
    .nx 0 [.v (.int .i64 (Go.IntKind.i64.wrap (y2.fst + (1 : Int)))), .v (.string (y2.2.fst)), .v (.string (y2.2.2.fst)), .v (.int .i64 (y2.2.2.2.fst)), .v (.int .i64 (y2.2.2.2.2.fst))]) <|
  .ret [Sh1.val (.g [.s, .s, .i .i64, .i .i64]) (({ data := { toList := [] : Array UInt8 } : ByteArray }), ({ data := { toList := [] : Array UInt8 } : ByteArray }), (((0 : Int)) : Int), (((0 : Int)) : Int), ()), .bool (false)]
theorem fI_currencyOf (x0 : ByteArray) : fits Tryz.prog aI_currencyOf 81 [.string (x0)] (tI_currencyOf x0) :=
  ⟨Tryz.f81, Tryz.f81.body.getD .skip, by kernel_rfl, by kernel_rfl, by kernel_rfl, by kernel_rfl, by kernel_rfl, by kernel_rfl⟩
/-! loop.example/g00793/impl.isOne -/
def aI_isOne : An := ⟨[], [], []⟩
noncomputable def tI_isOne (x0 : SlV) : T :=
  .br ((↑x0.n : Int) == (1 : Int)) (
    .el (x0.a) (x0.n) ((0 : Int)) fun y1 =>
    .ld false (y1.add (Int.toNat (0 : Int) * (1 : Nat))) (.o (.i .i64)) fun y2 =>
    .ret [.bool (y2 == (1 : Int))]) <|
  .ret [.bool (false)]
theorem fI_isOne (x0 : SlV) : fits Tryz.prog aI_isOne 82 [Sc.val .l (x0)] (tI_isOne x0) :=
  ⟨Tryz.f82, Tryz.f82.body.getD .skip, by kernel_rfl, by kernel_rfl, by kernel_rfl, by kernel_rfl, by kernel_rfl, by kernel_rfl⟩
/-! loop.example/g00793/impl.IntStr -/
def aI_IntStr : An := ⟨[], [], []⟩
noncomputable def tI_IntStr (x0 : Bool × SlV × PUnit) : T :=
  .call false 80 [Sh1.val (.g [.b, .l]) (x0)] (.v (.o (.b))) fun y1 =>
  .br (!y1) (
    .ret [.string ({ data := { toList := [] : Array UInt8 } : ByteArray })]) <|
  .br (x0.fst) (
    .call false 79 [Sc.val .l (x0.2.1)] (.v (.o (.s))) fun y2 =>
    .rq ({ data := { toList := [(45 : UInt8)] : Array UInt8 } : ByteArray }.size + y2.size ≤ (9223372036854775807 : Nat)) <|
    .ret [.string ({ data := { toList := [(45 : UInt8)] : Array UInt8 } : ByteArray } ++ y2)]) <|
  .call false 79 [Sc.val .l (x0.2.1)] (.v (.o (.s))) fun y2 =>
  .ret [.string (y2)]
theorem fI_IntStr (x0 : Bool × SlV × PUnit) : fits Tryz.prog aI_IntStr 83 [Sh1.val (.g [.b, .l]) (x0)] (tI_IntStr x0) :=
  ⟨Tryz.f83, Tryz.f83.body.getD .skip, by kernel_rfl, by kernel_rfl, by kernel_rfl, by kernel_rfl, by kernel_rfl, by kernel_rfl⟩
/-! loop.example/g00793/impl.NatText -/
def aI_NatText : An := ⟨[], [], []⟩
noncomputable def tI_NatText (x0 : SlV) : T :=
  .call false 105 [Sc.val .l (x0)] (.v (.o (.b))) fun y1 =>
  .br (!y1) (
    .ret [.string ({ data := { toList := [] : Array UInt8 } : ByteArray })]) <|
  .call false 79 [Sc.val .l (x0)] (.v (.o (.s))) fun y2 =>
  .ret [.string (y2)]
theorem fI_NatText (x0 : SlV) : fits Tryz.prog aI_NatText 84 [Sc.val .l (x0)] (tI_NatText x0) :=
  ⟨Tryz.f84, Tryz.f84.body.getD .skip, by kernel_rfl, by kernel_rfl, by kernel_rfl, by kernel_rfl, by kernel_rfl, by kernel_rfl⟩
/-! loop.example/g00793/laws.eqAcct -/
def aL_eqAcct : An := ⟨[], [], []⟩
noncomputable def tL_eqAcct (x0 : ByteArray × ByteArray × Bool × SlV × PUnit) (x1 : ByteArray × ByteArray × Bool × SlV × PUnit) : T :=
  .br (!ByteArray.toList x0.fst == ByteArray.toList x1.fst) (
    .ret [.bool (false)]) <|
  .call false 110 [Sh1.val (.g [.s, .b, .l]) (x0.2), Sh1.val (.g [.s, .b, .l]) (x1.2)] (.v (.o (.b))) fun y1 =>
  .br (!y1) (
    .ret [.bool (false)]) <|
  .ret [.bool (true)]
theorem fL_eqAcct (x0 : ByteArray × ByteArray × Bool × SlV × PUnit) (x1 : ByteArray × ByteArray × Bool × SlV × PUnit) : fits Tryz.prog aL_eqAcct 85 [Sh1.val (.g [.s, .s, .b, .l]) (x0), Sh1.val (.g [.s, .s, .b, .l]) (x1)] (tL_eqAcct x0 x1) :=
  ⟨Tryz.f85, Tryz.f85.body.getD .skip, by kernel_rfl, by kernel_rfl, by kernel_rfl, by kernel_rfl, by kernel_rfl, by kernel_rfl⟩
/-! loop.example/g00793/laws.eqRat -/
def aL_eqRat : An := ⟨[], [], []⟩
noncomputable def tL_eqRat (x0 : Bool × SlV × SlV × PUnit) (x1 : Bool × SlV × SlV × PUnit) : T :=
  .call false 111 [Sh1.val (.g [.b, .l]) ((x0.fst), x0.2.1, ()), Sh1.val (.g [.b, .l]) ((x1.fst), x1.2.1, ())] (.v (.o (.b))) fun y1 =>
  .br (!y1) (
    .ret [.bool (false)]) <|
  .call false 112 [Sc.val .l (x0.2.2.1), Sc.val .l (x1.2.2.1)] (.v (.o (.b))) fun y2 =>
  .br (!y2) (
    .ret [.bool (false)]) <|
  .ret [.bool (true)]
theorem fL_eqRat (x0 : Bool × SlV × SlV × PUnit) (x1 : Bool × SlV × SlV × PUnit) : fits Tryz.prog aL_eqRat 86 [Sh1.val (.g [.b, .l, .l]) (x0), Sh1.val (.g [.b, .l, .l]) (x1)] (tL_eqRat x0 x1) :=
  ⟨Tryz.f86, Tryz.f86.body.getD .skip, by kernel_rfl, by kernel_rfl, by kernel_rfl, by kernel_rfl, by kernel_rfl, by kernel_rfl⟩
/-! loop.example/g00793/laws.eqRate -/
def aL_eqRate : An := ⟨[], [], []⟩
noncomputable def tL_eqRate (x0 : ByteArray × ByteArray × Bool × SlV × Int × PUnit) (x1 : ByteArray × ByteArray × Bool × SlV × Int × PUnit) : T :=
  .br (!ByteArray.toList x0.fst == ByteArray.toList x1.fst) (
    .ret [.bool (false)]) <|
  .br (!ByteArray.toList x0.2.fst == ByteArray.toList x1.2.fst) (
    .ret [.bool (false)]) <|
  .call false 113 [Sh1.val (.g [.b, .l, .i .i64]) (x0.2.2), Sh1.val (.g [.b, .l, .i .i64]) (x1.2.2)] (.v (.o (.b))) fun y1 =>
  .br (!y1) (
    .ret [.bool (false)]) <|
  .ret [.bool (true)]
theorem fL_eqRate (x0 : ByteArray × ByteArray × Bool × SlV × Int × PUnit) (x1 : ByteArray × ByteArray × Bool × SlV × Int × PUnit) : fits Tryz.prog aL_eqRate 87 [Sh1.val (.g [.s, .s, .b, .l, .i .i64]) (x0), Sh1.val (.g [.s, .s, .b, .l, .i .i64]) (x1)] (tL_eqRate x0 x1) :=
  ⟨Tryz.f87, Tryz.f87.body.getD .skip, by kernel_rfl, by kernel_rfl, by kernel_rfl, by kernel_rfl, by kernel_rfl, by kernel_rfl⟩
/-! loop.example/g00793/laws.szMoney -/
def aL_szMoney : An := ⟨[], [], []⟩
noncomputable def tL_szMoney (x0 : ByteArray × Bool × SlV × PUnit) (x1 : Int) : T :=
  .br (decide (Go.IntKind.i64.wrap (x1 - (↑(ByteArray.size x0.fst) : Int)) < (0 : Int))) (
    .ret [.int .i64 ((-1 : Int))]) <|
  .call false 89 [Sh1.val (.g [.b, .l]) (x0.2), .int .i64 (Go.IntKind.i64.wrap (x1 - (↑(ByteArray.size x0.fst) : Int)))] (.v (.o (.i .i64))) fun y1 =>
  .br (decide (y1 < (0 : Int))) (
    .ret [.int .i64 ((-1 : Int))]) <|
  .ret [.int .i64 (y1)]
theorem fL_szMoney (x0 : ByteArray × Bool × SlV × PUnit) (x1 : Int) : fits Tryz.prog aL_szMoney 88 [Sh1.val (.g [.s, .b, .l]) (x0), .int .i64 (x1)] (tL_szMoney x0 x1) :=
  ⟨Tryz.f88, Tryz.f88.body.getD .skip, by kernel_rfl, by kernel_rfl, by kernel_rfl, by kernel_rfl, by kernel_rfl, by kernel_rfl⟩
/-! loop.example/g00793/laws.szSigned -/
def aL_szSigned : An := ⟨[], [], []⟩
noncomputable def tL_szSigned (x0 : Bool × SlV × PUnit) (x1 : Int) : T :=
  .call false 90 [Sc.val .l (x0.2.1), .int .i64 (x1)] (.v (.o (.i .i64))) fun y1 =>
  .br (decide (y1 < (0 : Int))) (
    .ret [.int .i64 ((-1 : Int))]) <|
  .ret [.int .i64 (y1)]
theorem fL_szSigned (x0 : Bool × SlV × PUnit) (x1 : Int) : fits Tryz.prog aL_szSigned 89 [Sh1.val (.g [.b, .l]) (x0), .int .i64 (x1)] (tL_szSigned x0 x1) :=
  ⟨Tryz.f89, Tryz.f89.body.getD .skip, by kernel_rfl, by kernel_rfl, by kernel_rfl, by kernel_rfl, by kernel_rfl, by kernel_rfl⟩
/-! loop.example/g00793/laws.szIntS -/
def aL_szIntS : An := ⟨[], [], []⟩
noncomputable def tL_szIntS (x0 : SlV) (x1 : Int) : T :=
  .br (decide (Go.IntKind.i64.wrap (x1 - (↑x0.n : Int)) < (0 : Int))) (
    .ret [.int .i64 ((-1 : Int))]) <|
  .ret [.int .i64 (Go.IntKind.i64.wrap (x1 - (↑x0.n : Int)))]
theorem fL_szIntS (x0 : SlV) (x1 : Int) : fits Tryz.prog aL_szIntS 90 [Sc.val .l (x0), .int .i64 (x1)] (tL_szIntS x0 x1) :=
  ⟨Tryz.f90, Tryz.f90.body.getD .skip, by kernel_rfl, by kernel_rfl, by kernel_rfl, by kernel_rfl, by kernel_rfl, by kernel_rfl⟩
/-! loop.example/g00793/laws.szDec -/
def aL_szDec : An := ⟨[], [], []⟩
noncomputable def tL_szDec (x0 : Bool × SlV × Int × PUnit) (x1 : Int) : T :=
  .call false 89 [Sh1.val (.g [.b, .l]) ((x0.fst), x0.2.1, ()), .int .i64 (x1)] (.v (.o (.i .i64))) fun y1 =>
  .br (decide (y1 < (0 : Int))) (
    .ret [.int .i64 ((-1 : Int))]) <|
  .ret [.int .i64 (y1)]
theorem fL_szDec (x0 : Bool × SlV × Int × PUnit) (x1 : Int) : fits Tryz.prog aL_szDec 91 [Sh1.val (.g [.b, .l, .i .i64]) (x0), .int .i64 (x1)] (tL_szDec x0 x1) :=
  ⟨Tryz.f91, Tryz.f91.body.getD .skip, by kernel_rfl, by kernel_rfl, by kernel_rfl, by kernel_rfl, by kernel_rfl, by kernel_rfl⟩
/-! loop.example/g00793/spec.l01All -/
def aS_l01All : An := ⟨[(2, [.s 11], [.o (.o (.i .i64))])], [], []⟩
noncomputable def tS_l01All (x0 : ByteArray) (x1 : Int) (x2 : Int) (x3 : Int) (x4 : Int) : T :=
  .lp [.o (.o (.i .i64))] [.v (.int .i64 ((0 : Int)))] fun y1 =>
  .br (decide (y1.fst < (↑x0.size : Int))) (
    .rq ((0 : Int) ≤ y1.fst ∧ y1.fst < (↑x0.size : Int)) <|
    .br (decide (at0 x0 (Int.toNat y1.fst) < x1)) (
      .rq ((0 : Int) ≤ y1.fst ∧ y1.fst < (↑x0.size : Int)) <|
      .br (decide (at0 x0 (Int.toNat y1.fst) < x3)) (
        .ret [.bool (false)]) <|
      .rq ((0 : Int) ≤ y1.fst ∧ y1.fst < (↑x0.size : Int)) <|
      .br (decide (at0 x0 (Int.toNat y1.fst) > x4)) (
        .ret [.bool (false)]) <|
      .nx 0 [.v (.int .i64 (Go.IntKind.i64.wrap (y1.fst + (1 : Int))))]) <|
    .rq ((0 : Int) ≤ y1.fst ∧ y1.fst < (↑x0.size : Int)) <|
    .br (decide (at0 x0 (Int.toNat y1.fst) > x2)) (
      .rq ((0 : Int) ≤ y1.fst ∧ y1.fst < (↑x0.size : Int)) <|
      .br (decide (at0 x0 (Int.toNat y1.fst) < x3)) (
        .ret [.bool (false)]) <|
      .rq ((0 : Int) ≤ y1.fst ∧ y1.fst < (↑x0.size : Int)) <|
      .br (decide (at0 x0 (Int.toNat y1.fst) > x4)) (
        .ret [.bool (false)]) <|
      .nx 0 [.v (.int .i64 (Go.IntKind.i64.wrap (y1.fst + (1 : Int))))]) <|
    .nx 0 [.v (.int .i64 (Go.IntKind.i64.wrap (y1.fst + (1 : Int))))]) <|
  .ret [.bool (decide ((↑x0.size : Int) > (0 : Int)))]
theorem fS_l01All (x0 : ByteArray) (x1 : Int) (x2 : Int) (x3 : Int) (x4 : Int) : fits Tryz.prog aS_l01All 92 [.string (x0), .int .u8 (x1), .int .u8 (x2), .int .u8 (x3), .int .u8 (x4)] (tS_l01All x0 x1 x2 x3 x4) :=
  ⟨Tryz.f92, Tryz.f92.body.getD .skip, by kernel_rfl, by kernel_rfl, by kernel_rfl, by kernel_rfl, by kernel_rfl, by kernel_rfl⟩
/-! loop.example/g00793/spec.RatCmp -/
def aS_RatCmp : An := ⟨[], [], []⟩
noncomputable def tS_RatCmp (x0 : Bool × SlV × SlV × PUnit) (x1 : Bool × SlV × SlV × PUnit) : T :=
  .call false 36 [Sh1.val (.g [.b, .l, .l]) (x0)] (.v (.o (.b))) fun y1 =>
  .br (!y1) (
    .ret [.int .i64 ((0 : Int))]) <|
  .call false 36 [Sh1.val (.g [.b, .l, .l]) (x1)] (.v (.o (.b))) fun y2 =>
  .br (!y2) (
    .ret [.int .i64 ((0 : Int))]) <|
  .rg <|
  .call true 115 [Sc.val .l (x0.2.1), Sc.val .l (x1.2.2.1)] (.v (.o (.l))) fun y3 =>
  .call true 114 [.bool (x0.fst), Sc.val .l (y3)] (.v (.g [.b, .l])) fun y4 =>
  .call true 115 [Sc.val .l (x1.2.1), Sc.val .l (x0.2.2.1)] (.v (.o (.l))) fun y5 =>
  .call true 114 [.bool (x1.fst), Sc.val .l (y5)] (.v (.g [.b, .l])) fun y6 =>
  .call true 96 [Sh1.val (.g [.b, .l]) (y4), Sh1.val (.g [.b, .l]) (y6)] (.v (.o (.i .i64))) fun y7 =>
  .ret [.int .i64 (y7)]
theorem fS_RatCmp (x0 : Bool × SlV × SlV × PUnit) (x1 : Bool × SlV × SlV × PUnit) : fits Tryz.prog aS_RatCmp 93 [Sh1.val (.g [.b, .l, .l]) (x0), Sh1.val (.g [.b, .l, .l]) (x1)] (tS_RatCmp x0 x1) :=
  ⟨Tryz.f93, Tryz.f93.body.getD .skip, by kernel_rfl, by kernel_rfl, by kernel_rfl, by kernel_rfl, by kernel_rfl, by kernel_rfl⟩
/-! loop.example/g00793/spec.RatZero -/
def aS_RatZero : An := ⟨[], [], []⟩
noncomputable def tS_RatZero  : T :=
  .fz ((1 : Nat)) [.int .i64 ((1 : Int))] 3 fun b1 c1 =>
  .ret [Sh1.val (.g [.b, .l, .l]) ((false), (⟨(none), ((0 : Nat)), ((0 : Nat))⟩ : SlV), (⟨(some { block := b1, off := (0 : Nat) : Go.Addr }), ((1 : Nat)), (c1)⟩ : SlV), ())]
theorem fS_RatZero  : fits Tryz.prog aS_RatZero 94 [] (tS_RatZero ) :=
  ⟨Tryz.f94, Tryz.f94.body.getD .skip, by kernel_rfl, by kernel_rfl, by kernel_rfl, by kernel_rfl, by kernel_rfl, by kernel_rfl⟩
/-! loop.example/g00793/spec.l01In -/
def aS_l01In : An := ⟨[], [], []⟩
noncomputable def tS_l01In (x0 : Int) (x1 : Int) (x2 : Int) : T :=
  .br (decide (x0 ≥ x1)) (
    .ret [.bool (decide (x0 ≤ x2))]) <|
  .ret [.bool (false)]
theorem fS_l01In (x0 : Int) (x1 : Int) (x2 : Int) : fits Tryz.prog aS_l01In 95 [.int .i64 (x0), .int .i64 (x1), .int .i64 (x2)] (tS_l01In x0 x1 x2) :=
  ⟨Tryz.f95, Tryz.f95.body.getD .skip, by kernel_rfl, by kernel_rfl, by kernel_rfl, by kernel_rfl, by kernel_rfl, by kernel_rfl⟩
/-! loop.example/g00793/spec.IntCmp -/
def aS_IntCmp : An := ⟨[], [], []⟩
noncomputable def tS_IntCmp (x0 : Bool × SlV × PUnit) (x1 : Bool × SlV × PUnit) : T :=
  .call false 64 [Sh1.val (.g [.b, .l]) (x0)] (.v (.o (.b))) fun y1 =>
  .br (!y1) (
    .ret [.int .i64 ((0 : Int))]) <|
  .call false 64 [Sh1.val (.g [.b, .l]) (x1)] (.v (.o (.b))) fun y2 =>
  .br (!y2) (
    .ret [.int .i64 ((0 : Int))]) <|
  .br (x0.fst) (
    .br (!x1.fst) (
      .ret [.int .i64 ((-1 : Int))]) <|
    .br (!x0.fst) (
      .br (x1.fst) (
        .ret [.int .i64 ((1 : Int))]) <|
      .br (x0.fst) (
        .call false 37 [Sc.val .l (x1.2.1), Sc.val .l (x0.2.1)] (.v (.o (.i .i64))) fun y3 =>
        .ret [.int .i64 (y3)]) <|
      .call false 37 [Sc.val .l (x0.2.1), Sc.val .l (x1.2.1)] (.v (.o (.i .i64))) fun y3 =>
      .ret [.int .i64 (y3)]) <|
    .br (x0.fst) (
      .call false 37 [Sc.val .l (x1.2.1), Sc.val .l (x0.2.1)] (.v (.o (.i .i64))) fun y3 =>
      .ret [.int .i64 (y3)]) <|
    .call false 37 [Sc.val .l (x0.2.1), Sc.val .l (x1.2.1)] (.v (.o (.i .i64))) fun y3 =>
    .ret [.int .i64 (y3)]) <|
  .br (!x0.fst) (
    .br (x1.fst) (
      .ret [.int .i64 ((1 : Int))]) <|
    .br (x0.fst) (
      .call false 37 [Sc.val .l (x1.2.1), Sc.val .l (x0.2.1)] (.v (.o (.i .i64))) fun y3 =>
      .ret [.int .i64 (y3)]) <|
    .call false 37 [Sc.val .l (x0.2.1), Sc.val .l (x1.2.1)] (.v (.o (.i .i64))) fun y3 =>
    .ret [.int .i64 (y3)]) <|
  .br (x0.fst) (
    .call false 37 [Sc.val .l (x1.2.1), Sc.val .l (x0.2.1)] (.v (.o (.i .i64))) fun y3 =>
    .ret [.int .i64 (y3)]) <|
  .call false 37 [Sc.val .l (x0.2.1), Sc.val .l (x1.2.1)] (.v (.o (.i .i64))) fun y3 =>
  .ret [.int .i64 (y3)]
theorem fS_IntCmp (x0 : Bool × SlV × PUnit) (x1 : Bool × SlV × PUnit) : fits Tryz.prog aS_IntCmp 96 [Sh1.val (.g [.b, .l]) (x0), Sh1.val (.g [.b, .l]) (x1)] (tS_IntCmp x0 x1) :=
  ⟨Tryz.f96, Tryz.f96.body.getD .skip, by kernel_rfl, by kernel_rfl, by kernel_rfl, by kernel_rfl, by kernel_rfl, by kernel_rfl⟩
/-! loop.example/g00793/spec.l08Table -/
def aS_l08Table : An := ⟨[], [], []⟩
noncomputable def tS_l08Table  : T :=
  .fz ((20 : Nat)) [.string ({ data := { toList := [(65 : UInt8), (85 : UInt8), (68 : UInt8)] : Array UInt8 } : ByteArray }), .string ({ data := { toList := [(48 : UInt8), (51 : UInt8), (54 : UInt8)] : Array UInt8 } : ByteArray }), .int .i64 ((2 : Int)), .int .i64 ((5 : Int)), .string ({ data := { toList := [(66 : UInt8), (72 : UInt8), (68 : UInt8)] : Array UInt8 } : ByteArray }), .string ({ data := { toList := [(48 : UInt8), (52 : UInt8), (56 : UInt8)] : Array UInt8 } : ByteArray }), .int .i64 ((3 : Int)), .int .i64 ((5 : Int)), .string ({ data := { toList := [(67 : UInt8), (65 : UInt8), (68 : UInt8)] : Array UInt8 } : ByteArray }), .string ({ data := { toList := [(49 : UInt8), (50 : UInt8), (52 : UInt8)] : Array UInt8 } : ByteArray }), .int .i64 ((2 : Int)), .int .i64 ((5 : Int)), .string ({ data := { toList := [(67 : UInt8), (72 : UInt8), (70 : UInt8)] : Array UInt8 } : ByteArray }), .string ({ data := { toList := [(55 : UInt8), (53 : UInt8), (54 : UInt8)] : Array UInt8 } : ByteArray }), .int .i64 ((2 : Int)), .int .i64 ((5 : Int)), .string ({ data := { toList := [(67 : UInt8), (76 : UInt8), (70 : UInt8)] : Array UInt8 } : ByteArray }), .string ({ data := { toList := [(57 : UInt8), (57 : UInt8), (48 : UInt8)] : Array UInt8 } : ByteArray }), .int .i64 ((4 : Int)), .int .i64 ((1 : Int)), .string ({ data := { toList := [(67 : UInt8), (90 : UInt8), (75 : UInt8)] : Array UInt8 } : ByteArray }), .string ({ data := { toList := [(50 : UInt8), (48 : UInt8), (51 : UInt8)] : Array UInt8 } : ByteArray }), .int .i64 ((2 : Int)), .int .i64 ((100 : Int)), .string ({ data := { toList := [(68 : UInt8), (75 : UInt8), (75 : UInt8)] : Array UInt8 } : ByteArray }), .string ({ data := { toList := [(50 : UInt8), (48 : UInt8), (56 : UInt8)] : Array UInt8 } : ByteArray }), .int .i64 ((2 : Int)), .int .i64 ((50 : Int)), .string ({ data := { toList := [(69 : UInt8), (85 : UInt8), (82 : UInt8)] : Array UInt8 } : ByteArray }), .string ({ data := { toList := [(57 : UInt8), (55 : UInt8), (56 : UInt8)] : Array UInt8 } : ByteArray }), .int .i64 ((2 : Int)), .int .i64 ((1 : Int)), .string ({ data := { toList := [(71 : UInt8), (66 : UInt8), (80 : UInt8)] : Array UInt8 } : ByteArray }), .string ({ data := { toList := [(56 : UInt8), (50 : UInt8), (54 : UInt8)] : Array UInt8 } : ByteArray }), .int .i64 ((2 : Int)), .int .i64 ((1 : Int)), .string ({ data := { toList := [(72 : UInt8), (85 : UInt8), (70 : UInt8)] : Array UInt8 } : ByteArray }), .string ({ data := { toList := [(51 : UInt8), (52 : UInt8), (56 : UInt8)] : Array UInt8 } : ByteArray }), .int .i64 ((2 : Int)), .int .i64 ((500 : Int)), .string ({ data := { toList := [(73 : UInt8), (83 : UInt8), (75 : UInt8)] : Array UInt8 } : ByteArray }), .string ({ data := { toList := [(51 : UInt8), (53 : UInt8), (50 : UInt8)] : Array UInt8 } : ByteArray }), .int .i64 ((0 : Int)), .int .i64 ((1 : Int)), .string ({ data := { toList := [(74 : UInt8), (80 : UInt8), (89 : UInt8)] : Array UInt8 } : ByteArray }), .string ({ data := { toList := [(51 : UInt8), (57 : UInt8), (50 : UInt8)] : Array UInt8 } : ByteArray }), .int .i64 ((0 : Int)), .int .i64 ((1 : Int)), .string ({ data := { toList := [(75 : UInt8), (82 : UInt8), (87 : UInt8)] : Array UInt8 } : ByteArray }), .string ({ data := { toList := [(52 : UInt8), (49 : UInt8), (48 : UInt8)] : Array UInt8 } : ByteArray }), .int .i64 ((0 : Int)), .int .i64 ((10 : Int)), .string ({ data := { toList := [(75 : UInt8), (87 : UInt8), (68 : UInt8)] : Array UInt8 } : ByteArray }), .string ({ data := { toList := [(52 : UInt8), (49 : UInt8), (52 : UInt8)] : Array UInt8 } : ByteArray }), .int .i64 ((3 : Int)), .int .i64 ((5 : Int)), .string ({ data := { toList := [(78 : UInt8), (79 : UInt8), (75 : UInt8)] : Array UInt8 } : ByteArray }), .string ({ data := { toList := [(53 : UInt8), (55 : UInt8), (56 : UInt8)] : Array UInt8 } : ByteArray }), .int .i64 ((2 : Int)), .int .i64 ((100 : Int)), .string ({ data := { toList := [(78 : UInt8), (90 : UInt8), (68 : UInt8)] : Array UInt8 } : ByteArray }), .string ({ data := { toList := [(53 : UInt8), (53 : UInt8), (52 : UInt8)] : Array UInt8 } : ByteArray }), .int .i64 ((2 : Int)), .int .i64 ((10 : Int)), .string ({ data := { toList := [(80 : UInt8), (76 : UInt8), (78 : UInt8)] : Array UInt8 } : ByteArray }), .string ({ data := { toList := [(57 : UInt8), (56 : UInt8), (53 : UInt8)] : Array UInt8 } : ByteArray }), .int .i64 ((2 : Int)), .int .i64 ((1 : Int)), .string ({ data := { toList := [(83 : UInt8), (69 : UInt8), (75 : UInt8)] : Array UInt8 } : ByteArray }), .string ({ data := { toList := [(55 : UInt8), (53 : UInt8), (50 : UInt8)] : Array UInt8 } : ByteArray }), .int .i64 ((2 : Int)), .int .i64 ((100 : Int)), .string ({ data := { toList := [(84 : UInt8), (78 : UInt8), (68 : UInt8)] : Array UInt8 } : ByteArray }), .string ({ data := { toList := [(55 : UInt8), (56 : UInt8), (56 : UInt8)] : Array UInt8 } : ByteArray }), .int .i64 ((3 : Int)), .int .i64 ((10 : Int)), .string ({ data := { toList := [(85 : UInt8), (83 : UInt8), (68 : UInt8)] : Array UInt8 } : ByteArray }), .string ({ data := { toList := [(56 : UInt8), (52 : UInt8), (48 : UInt8)] : Array UInt8 } : ByteArray }), .int .i64 ((2 : Int)), .int .i64 ((1 : Int))] 118 fun b1 c1 =>
  .ret [.slice (some { block := b1, off := (0 : Nat) : Go.Addr }) ((20 : Nat)) (c1)]
theorem fS_l08Table  : fits Tryz.prog aS_l08Table 97 [] (tS_l08Table ) :=
  ⟨Tryz.f97, Tryz.f97.body.getD .skip, by kernel_rfl, by kernel_rfl, by kernel_rfl, by kernel_rfl, by kernel_rfl, by kernel_rfl⟩
/-! loop.example/g00793/spec.l03Div -/
def aS_l03Div : An := ⟨[(7, [.s 8, .s 9, .s 10], [.a 3, .o (.o (.l)), .o (.o (.i .i64))])], [], []⟩
noncomputable def tS_l03Div (x0 : SlV) (x1 : SlV) : T :=
  .br ((↑x1.n : Int) == (1 : Int)) (
    .el (x1.a) (x1.n) ((0 : Int)) fun y1 =>
    .ld false (y1.add (Int.toNat (0 : Int) * (1 : Nat))) (.o (.i .i64)) fun y2 =>
    .call false 116 [Sc.val .l (x0), .int .i64 (y2)] (.t [(.o (.l)), (.o (.i .i64))]) fun y3 =>
    .call false 117 [.int .i64 (y3.2.fst)] (.v (.o (.l))) fun y4 =>
    .ret [Sc.val .l (y3.1), Sc.val .l (y4)]) <|
  .rq ((0 : Int) ≤ (↑x0.n : Int) ∧ (↑x0.n : Int) ≤ (↑x0.n : Int) ∧ (↑(8 : Nat) : Int) * (↑x0.n : Int) ≤ (281474976710656 : Int) ∧ (↑x0.n : Int) ≤ (9223372036854775807 : Int)) <|
  .fz ((0 : Nat)) [] 3 fun b1 c1 =>
  .lp [.a 3, .o (.o (.l)), .o (.o (.i .i64))] [.a 3 ((↑x0.n : Int).toNat) ((Go.madeCells { toList := [Go.Value.int Go.IntKind.i64 (0 : Int)] : Array Go.Value } ((↑x0.n : Int).toNat * (1 : Nat))).toList), .v (.slice (some { block := b1, off := (0 : Nat) : Go.Addr }) ((0 : Nat)) (c1)), .v (.int .i64 (Go.IntKind.i64.wrap ((↑x0.n : Int) - (1 : Int))))] fun y2 =>
  .br (decide (y2.2.2.fst ≥ (0 : Int))) (
    .el (x0.a) (x0.n) (y2.2.2.fst) fun y3 =>
    .ld false (y3.add (Int.toNat y2.2.2.fst * (1 : Nat))) (.o (.i .i64)) fun y4 =>
    .rd ({ a := y2.2.1.a, n := y2.2.1.n, c := y2.2.1.c : SlV }) ((1 : Nat)) fun y5 =>
    .rq (one y5 = true ∧ ((1 : Nat) + y2.2.1.n) * (8 : Nat) ≤ (140737488355328 : Nat) ∧ (1 : Nat) + y2.2.1.n ≤ (9223372036854775807 : Nat)) <|
    .fz ((1 : Nat) + y2.2.1.n) ([(Sh1.o (Sc.i Go.IntKind.i64)).val y4] ++ y5) 3 fun b6 c6 =>
    .call false 118 [.slice (some { block := b6, off := (0 : Nat) : Go.Addr }) ((1 : Nat) + y2.2.1.n) (c6)] (.v (.o (.l))) fun y7 =>
    .call false 37 [Sc.val .l (y7), Sc.val .l (x1)] (.v (.o (.i .i64))) fun y8 =>
    .br (decide (y8 < (0 : Int))) (
      .nx 0 [.a 3 (y2.1.fst) (y2.1.snd), .v (Sc.val .l (y7)), .v (.int .i64 (Go.IntKind.i64.wrap (y2.2.2.fst - (1 : Int))))]) <|
    .call false 119 [Sc.val .l (y7), Sc.val .l (x1)] (.v (.o (.i .i64))) fun y9 =>
    .rq ((0 : Int) ≤ y2.2.2.fst ∧ y2.2.2.fst < (↑y2.1.fst : Int)) <|
    .rq (Int.toNat y2.2.2.fst * (1 : Nat) + [(Sh1.o (Sc.i Go.IntKind.i64)).val y9].length ≤ y2.1.snd.length) <|
    .call false 117 [.int .i64 (y9)] (.v (.o (.l))) fun y10 =>
    .call false 115 [Sc.val .l (x1), Sc.val .l (y10)] (.v (.o (.l))) fun y11 =>
    .call false 120 [Sc.val .l (y7), Sc.val .l (y11)] (.v (.o (.l))) fun y12 =>
    .nx 0 [.a 3 (y2.1.fst) (setl y2.1.snd (Int.toNat y2.2.2.fst * (1 : Nat)) [(Sh1.o (Sc.i Go.IntKind.i64)).val y9]), .v (Sc.val .l (y12)), .v (.int .i64 (Go.IntKind.i64.wrap (y2.2.2.fst - (1 : Int))))]) <|
  .fz (y2.1.fst) (y2.1.snd) 3 fun b3 c3 =>
  .call false 118 [.slice (some { block := b3, off := (0 : Nat) : Go.Addr }) (y2.1.fst) (c3)] (.v (.o (.l))) fun y4 =>
  .ret [Sc.val .l (y4), Sc.val .l (y2.2.1)]
theorem fS_l03Div (x0 : SlV) (x1 : SlV) : fits Tryz.prog aS_l03Div 98 [Sc.val .l (x0), Sc.val .l (x1)] (tS_l03Div x0 x1) :=
  ⟨Tryz.f98, Tryz.f98.body.getD .skip, by kernel_rfl, by kernel_rfl, by kernel_rfl, by kernel_rfl, by kernel_rfl, by kernel_rfl⟩
/-! loop.example/g00793/laws.toMoney -/
def aL_toMoney : An := ⟨[], [], []⟩
noncomputable def tL_toMoney (x0 : ByteArray × Bool × SlV × PUnit) : T :=
  .call false 100 [Sh1.val (.g [.b, .l]) (x0.2)] (.v (.g [.b, .l])) fun y1 =>
  .ret [Sh1.val (.g [.s, .b, .l]) ((x0.fst), (y1.fst), y1.2.1, ())]
theorem fL_toMoney (x0 : ByteArray × Bool × SlV × PUnit) : fits Tryz.prog aL_toMoney 99 [Sh1.val (.g [.s, .b, .l]) (x0)] (tL_toMoney x0) :=
  ⟨Tryz.f99, Tryz.f99.body.getD .skip, by kernel_rfl, by kernel_rfl, by kernel_rfl, by kernel_rfl, by kernel_rfl, by kernel_rfl⟩
/-! loop.example/g00793/laws.toSigned -/
def aL_toSigned : An := ⟨[], [], []⟩
noncomputable def tL_toSigned (x0 : Bool × SlV × PUnit) : T :=
  .call false 101 [Sc.val .l (x0.2.1)] (.v (.o (.l))) fun y1 =>
  .ret [Sh1.val (.g [.b, .l]) ((x0.fst), y1, ())]
theorem fL_toSigned (x0 : Bool × SlV × PUnit) : fits Tryz.prog aL_toSigned 100 [Sh1.val (.g [.b, .l]) (x0)] (tL_toSigned x0) :=
  ⟨Tryz.f100, Tryz.f100.body.getD .skip, by kernel_rfl, by kernel_rfl, by kernel_rfl, by kernel_rfl, by kernel_rfl, by kernel_rfl⟩
/-! loop.example/g00793/laws.toIntS -/
def aL_toIntS : An := ⟨[(3, [.s 3, .s 4], [.a 3, .o (.o (.i .i64))])], [], []⟩
noncomputable def tL_toIntS (x0 : SlV) : T :=
  .rq ((0 : Int) ≤ (↑x0.n : Int) ∧ (↑x0.n : Int) ≤ (↑x0.n : Int) ∧ (↑(8 : Nat) : Int) * (↑x0.n : Int) ≤ (281474976710656 : Int) ∧ (↑x0.n : Int) ≤ (9223372036854775807 : Int)) <|
  .lp [.a 3, .o (.o (.i .i64))] [.a 3 ((↑x0.n : Int).toNat) ((Go.madeCells { toList := [Go.Value.int Go.IntKind.i64 (0 : Int)] : Array Go.Value } ((↑x0.n : Int).toNat * (1 : Nat))).toList), .v (.int .i64 ((0 : Int)))] fun y1 =>
  .br (decide (y1.2.fst < (↑x0.n : Int))) (
    .el (x0.a) (x0.n) (y1.2.fst) fun y2 =>
    .ld false (y2.add (Int.toNat y1.2.fst * (1 : Nat))) (.o (.i .i64)) fun y3 =>
    .rq ((0 : Int) ≤ y1.2.fst ∧ y1.2.fst < (↑y1.1.fst : Int)) <|
    .rq (Int.toNat y1.2.fst * (1 : Nat) + [(Sh1.o (Sc.i Go.IntKind.i64)).val y3].length ≤ y1.1.snd.length) <|
    .nx 0 [.a 3 (y1.1.fst) (setl y1.1.snd (Int.toNat y1.2.fst * (1 : Nat)) [(Sh1.o (Sc.i Go.IntKind.i64)).val y3]), .v (.int .i64 (Go.IntKind.i64.wrap (y1.2.fst + (1 : Int))))]) <|
  .fz (y1.1.fst) (y1.1.snd) 3 fun b2 c2 =>
  .ret [.slice (some { block := b2, off := (0 : Nat) : Go.Addr }) (y1.1.fst) (c2)]
theorem fL_toIntS (x0 : SlV) : fits Tryz.prog aL_toIntS 101 [Sc.val .l (x0)] (tL_toIntS x0) :=
  ⟨Tryz.f101, Tryz.f101.body.getD .skip, by kernel_rfl, by kernel_rfl, by kernel_rfl, by kernel_rfl, by kernel_rfl, by kernel_rfl⟩
/-! loop.example/g00793/laws.toDec -/
def aL_toDec : An := ⟨[], [], []⟩
noncomputable def tL_toDec (x0 : Bool × SlV × Int × PUnit) : T :=
  .call false 100 [Sh1.val (.g [.b, .l]) ((x0.fst), x0.2.1, ())] (.v (.g [.b, .l])) fun y1 =>
  .ret [Sh1.val (.g [.b, .l, .i .i64]) ((y1.fst), y1.2.1, ((x0.2.2.fst) : Int), ())]
theorem fL_toDec (x0 : Bool × SlV × Int × PUnit) : fits Tryz.prog aL_toDec 102 [Sh1.val (.g [.b, .l, .i .i64]) (x0)] (tL_toDec x0) :=
  ⟨Tryz.f102, Tryz.f102.body.getD .skip, by kernel_rfl, by kernel_rfl, by kernel_rfl, by kernel_rfl, by kernel_rfl, by kernel_rfl⟩
/-! loop.example/g00793/impl.isLower -/
def aI_isLower : An := ⟨[], [], []⟩
noncomputable def tI_isLower (x0 : Int) : T :=
  .br (decide (x0 ≥ (97 : Int))) (
    .ret [.bool (decide (x0 ≤ (122 : Int)))]) <|
  .ret [.bool (false)]
theorem fI_isLower (x0 : Int) : fits Tryz.prog aI_isLower 103 [.int .u8 (x0)] (tI_isLower x0) :=
  ⟨Tryz.f103, Tryz.f103.body.getD .skip, by kernel_rfl, by kernel_rfl, by kernel_rfl, by kernel_rfl, by kernel_rfl, by kernel_rfl⟩
/-! loop.example/g00793/impl.isDigit -/
def aI_isDigit : An := ⟨[], [], []⟩
noncomputable def tI_isDigit (x0 : Int) : T :=
  .br (decide (x0 ≥ (48 : Int))) (
    .ret [.bool (decide (x0 ≤ (57 : Int)))]) <|
  .ret [.bool (false)]
theorem fI_isDigit (x0 : Int) : fits Tryz.prog aI_isDigit 104 [.int .u8 (x0)] (tI_isDigit x0) :=
  ⟨Tryz.f104, Tryz.f104.body.getD .skip, by kernel_rfl, by kernel_rfl, by kernel_rfl, by kernel_rfl, by kernel_rfl, by kernel_rfl⟩
/-! loop.example/g00793/impl.NatOk -/
def aI_NatOk : An := ⟨[(4, [.s 24], [.o (.o (.i .i64))])], [], []⟩
noncomputable def tI_NatOk (x0 : SlV) : T :=
  .br (decide ((↑x0.n : Int) > (50 : Int))) (
    .ret [.bool (false)]) <|
  .br (decide ((↑x0.n : Int) > (0 : Int))) (
    .el (x0.a) (x0.n) (Go.IntKind.i64.wrap ((↑x0.n : Int) - (1 : Int))) fun y1 =>
    .ld false (y1.add ((Go.IntKind.i64.wrap ((↑x0.n : Int) - (1 : Int))).toNat * (1 : Nat))) (.o (.i .i64)) fun y2 =>
    .br (y2 == (0 : Int)) (
      .ret [.bool (false)]) <|
    .lp [.o (.o (.i .i64))] [.v (.int .i64 ((0 : Int)))] fun y3 =>
    .br (decide (y3.fst < (↑x0.n : Int))) (
      .el (x0.a) (x0.n) (y3.fst) fun y4 =>
      .ld false (y4.add (Int.toNat y3.fst * (1 : Nat))) (.o (.i .i64)) fun y5 =>
      .br (decide (y5 < (0 : Int))) (
        .ret [.bool (false)]) <|
      .br (decide (y5 ≥ (1000000000 : Int))) (
        .ret [.bool (false)]) <|
      .nx 0 [.v (.int .i64 (Go.IntKind.i64.wrap (y3.fst + (1 : Int))))]) <|
    .ret [.bool (true)]) <|
  .lp [.o (.o (.i .i64))] [.v (.int .i64 ((0 : Int)))] fun y1 =>
  .br (decide (y1.fst < (↑x0.n : Int))) (
    .el (x0.a) (x0.n) (y1.fst) fun y2 =>
    .ld false (y2.add (Int.toNat y1.fst * (1 : Nat))) (.o (.i .i64)) fun y3 =>
    .br (decide (y3 < (0 : Int))) (
      .ret [.bool (false)]) <|
    .br (decide (y3 ≥ (1000000000 : Int))) (
      .ret [.bool (false)]) <|
    .nx 0 [.v (.int .i64 (Go.IntKind.i64.wrap (y1.fst + (1 : Int))))]) <|
  .ret [.bool (true)]
theorem fI_NatOk (x0 : SlV) : fits Tryz.prog aI_NatOk 105 [Sc.val .l (x0)] (tI_NatOk x0) :=
  ⟨Tryz.f105, Tryz.f105.body.getD .skip, by kernel_rfl, by kernel_rfl, by kernel_rfl, by kernel_rfl, by kernel_rfl, by kernel_rfl⟩
/-! loop.example/g00793/impl.natGcd -/
def aI_natGcd : An := ⟨[(1, [.s 0, .s 1], [.o (.o (.l)), .o (.o (.l))])], [], []⟩
noncomputable def tI_natGcd (x0 : SlV) (x1 : SlV) : T :=
  .lp [.o (.o (.l)), .o (.o (.l))] [.v (Sc.val .l (x0)), .v (Sc.val .l (x1))] fun y1 =>
  .br (decide ((↑y1.2.1.n : Int) > (0 : Int))) (
    .call false 121 [Sc.val .l (y1.1), Sc.val .l (y1.2.1)] (.t [(.o (.l)), (.o (.l))]) fun y2 =>
    .nx 0 [.v (Sc.val .l (y1.2.1)), .v (Sc.val .l (y2.2.1))]) <|
  .call false 122 [Sc.val .l (y1.1)] (.v (.o (.l))) fun y2 =>
  .ret [Sc.val .l (y2)]
theorem fI_natGcd (x0 : SlV) (x1 : SlV) : fits Tryz.prog aI_natGcd 106 [Sc.val .l (x0), Sc.val .l (x1)] (tI_natGcd x0 x1) :=
  ⟨Tryz.f106, Tryz.f106.body.getD .skip, by kernel_rfl, by kernel_rfl, by kernel_rfl, by kernel_rfl, by kernel_rfl, by kernel_rfl⟩
/-! loop.example/g00793/impl.isScale -/
def aI_isScale : An := ⟨[], [], []⟩
noncomputable def tI_isScale (x0 : Int) : T :=
  .br (decide (x0 ≥ (0 : Int))) (
    .ret [.bool (decide (x0 ≤ (30 : Int)))]) <|
  .ret [.bool (false)]
theorem fI_isScale (x0 : Int) : fits Tryz.prog aI_isScale 107 [.int .i64 (x0)] (tI_isScale x0) :=
  ⟨Tryz.f107, Tryz.f107.body.getD .skip, by kernel_rfl, by kernel_rfl, by kernel_rfl, by kernel_rfl, by kernel_rfl, by kernel_rfl⟩
/-! loop.example/g00793/impl.IntText -/
def aI_IntText : An := ⟨[], [], []⟩
noncomputable def tI_IntText (x0 : Int) : T :=
  .call false 129 [.int .i64 (x0)] (.v (.o (.s))) fun y1 =>
  .ret [.string (y1)]
theorem fI_IntText (x0 : Int) : fits Tryz.prog aI_IntText 109 [.int .i64 (x0)] (tI_IntText x0) :=
  ⟨Tryz.f109, Tryz.f109.body.getD .skip, by kernel_rfl, by kernel_rfl, by kernel_rfl, by kernel_rfl, by kernel_rfl, by kernel_rfl⟩
/-! loop.example/g00793/laws.eqMoney -/
def aL_eqMoney : An := ⟨[], [], []⟩
noncomputable def tL_eqMoney (x0 : ByteArray × Bool × SlV × PUnit) (x1 : ByteArray × Bool × SlV × PUnit) : T :=
  .br (!ByteArray.toList x0.fst == ByteArray.toList x1.fst) (
    .ret [.bool (false)]) <|
  .call false 111 [Sh1.val (.g [.b, .l]) (x0.2), Sh1.val (.g [.b, .l]) (x1.2)] (.v (.o (.b))) fun y1 =>
  .br (!y1) (
    .ret [.bool (false)]) <|
  .ret [.bool (true)]
theorem fL_eqMoney (x0 : ByteArray × Bool × SlV × PUnit) (x1 : ByteArray × Bool × SlV × PUnit) : fits Tryz.prog aL_eqMoney 110 [Sh1.val (.g [.s, .b, .l]) (x0), Sh1.val (.g [.s, .b, .l]) (x1)] (tL_eqMoney x0 x1) :=
  ⟨Tryz.f110, Tryz.f110.body.getD .skip, by kernel_rfl, by kernel_rfl, by kernel_rfl, by kernel_rfl, by kernel_rfl, by kernel_rfl⟩
/-! loop.example/g00793/laws.eqSigned -/
def aL_eqSigned : An := ⟨[], [], []⟩
noncomputable def tL_eqSigned (x0 : Bool × SlV × PUnit) (x1 : Bool × SlV × PUnit) : T :=
  .br (!x0.fst == x1.fst) (
    .ret [.bool (false)]) <|
  .call false 112 [Sc.val .l (x0.2.1), Sc.val .l (x1.2.1)] (.v (.o (.b))) fun y1 =>
  .br (!y1) (
    .ret [.bool (false)]) <|
  .ret [.bool (true)]
theorem fL_eqSigned (x0 : Bool × SlV × PUnit) (x1 : Bool × SlV × PUnit) : fits Tryz.prog aL_eqSigned 111 [Sh1.val (.g [.b, .l]) (x0), Sh1.val (.g [.b, .l]) (x1)] (tL_eqSigned x0 x1) :=
  ⟨Tryz.f111, Tryz.f111.body.getD .skip, by kernel_rfl, by kernel_rfl, by kernel_rfl, by kernel_rfl, by kernel_rfl, by kernel_rfl⟩
/-! loop.example/g00793/laws.eqIntS -/
def aL_eqIntS : An := ⟨[(4, [.s 5], [.o (.o (.i .i64))])], [], []⟩
noncomputable def tL_eqIntS (x0 : SlV) (x1 : SlV) : T :=
  .br ((↑x0.n : Int) != (↑x1.n : Int)) (
    .ret [.bool (false)]) <|
  .lp [.o (.o (.i .i64))] [.v (.int .i64 ((0 : Int)))] fun y1 =>
  .br (decide (y1.fst < (↑x0.n : Int))) (
    .rg <|
    .el (x0.a) (x0.n) (y1.fst) fun y2 =>
    .ld true (y2.add (Int.toNat y1.fst * (1 : Nat))) (.o (.i .i64)) fun y3 =>
    .el (x1.a) (x1.n) (y1.fst) fun y4 =>
    .ld true (y4.add (Int.toNat y1.fst * (1 : Nat))) (.o (.i .i64)) fun y5 =>
    .br (y3 != y5) (
      .ret [.bool (false)]) <|
    .nx 0 [.v (.int .i64 (Go.IntKind.i64.wrap (y1.fst + (1 : Int))))]) <|
  .ret [.bool (true)]
theorem fL_eqIntS (x0 : SlV) (x1 : SlV) : fits Tryz.prog aL_eqIntS 112 [Sc.val .l (x0), Sc.val .l (x1)] (tL_eqIntS x0 x1) :=
  ⟨Tryz.f112, Tryz.f112.body.getD .skip, by kernel_rfl, by kernel_rfl, by kernel_rfl, by kernel_rfl, by kernel_rfl, by kernel_rfl⟩
/-! loop.example/g00793/laws.eqDec -/
def aL_eqDec : An := ⟨[], [], []⟩
noncomputable def tL_eqDec (x0 : Bool × SlV × Int × PUnit) (x1 : Bool × SlV × Int × PUnit) : T :=
  .call false 111 [Sh1.val (.g [.b, .l]) ((x0.fst), x0.2.1, ()), Sh1.val (.g [.b, .l]) ((x1.fst), x1.2.1, ())] (.v (.o (.b))) fun y1 =>
  .br (!y1) (
    .ret [.bool (false)]) <|
  .br (x0.2.2.fst != x1.2.2.fst) (
    .ret [.bool (false)]) <|
  .ret [.bool (true)]
theorem fL_eqDec (x0 : Bool × SlV × Int × PUnit) (x1 : Bool × SlV × Int × PUnit) : fits Tryz.prog aL_eqDec 113 [Sh1.val (.g [.b, .l, .i .i64]) (x0), Sh1.val (.g [.b, .l, .i .i64]) (x1)] (tL_eqDec x0 x1) :=
  ⟨Tryz.f113, Tryz.f113.body.getD .skip, by kernel_rfl, by kernel_rfl, by kernel_rfl, by kernel_rfl, by kernel_rfl, by kernel_rfl⟩
/-! loop.example/g00793/spec.l04Make -/
def aS_l04Make : An := ⟨[], [], []⟩
noncomputable def tS_l04Make (x0 : Bool) (x1 : SlV) : T :=
  .call false 130 [Sc.val .l (x1)] (.v (.o (.l))) fun y1 =>
  .br (x0) (
    .rd ({ a := y1.a, n := y1.n, c := y1.c : SlV }) ((1 : Nat)) fun y2 =>
    .rq (one y2 = true ∧ ((0 : Nat) + y1.n) * (8 : Nat) ≤ (140737488355328 : Nat) ∧ (0 : Nat) + y1.n ≤ (9223372036854775807 : Nat)) <|
    .fz ((0 : Nat) + y1.n) ([] ++ y2) 3 fun b3 c3 =>
    .ret [Sh1.val (.g [.b, .l]) ((decide ((↑y1.n : Int) > (0 : Int))), (⟨(some { block := b3, off := (0 : Nat) : Go.Addr }), ((0 : Nat) + y1.n), (c3)⟩ : SlV), ())]) <|
  .rd ({ a := y1.a, n := y1.n, c := y1.c : SlV }) ((1 : Nat)) fun y2 =>
  .rq (one y2 = true ∧ ((0 : Nat) + y1.n) * (8 : Nat) ≤ (140737488355328 : Nat) ∧ (0 : Nat) + y1.n ≤ (9223372036854775807 : Nat)) <|
  .fz ((0 : Nat) + y1.n) ([] ++ y2) 3 fun b3 c3 =>
  .ret [Sh1.val (.g [.b, .l]) ((false), (⟨(some { block := b3, off := (0 : Nat) : Go.Addr }), ((0 : Nat) + y1.n), (c3)⟩ : SlV), ())]
theorem fS_l04Make (x0 : Bool) (x1 : SlV) : fits Tryz.prog aS_l04Make 114 [.bool (x0), Sc.val .l (x1)] (tS_l04Make x0 x1) :=
  ⟨Tryz.f114, Tryz.f114.body.getD .skip, by kernel_rfl, by kernel_rfl, by kernel_rfl, by kernel_rfl, by kernel_rfl, by kernel_rfl⟩
/-! loop.example/g00793/spec.l02Mul -/
def aS_l02Mul : An := ⟨[(5, [.s 5, .s 28], [.a 3, .o (.o (.i .i64))]), (9, [.s 5, .s 8, .s 35], [.a 3, .o (.o (.i .i64)), .o (.o (.i .i64))])], [], []⟩
noncomputable def tS_l02Mul (x0 : SlV) (x1 : SlV) : T :=
  .br ((↑x0.n : Int) == (0 : Int)) (
    .ret [.slice (none) ((0 : Nat)) ((0 : Nat))]) <|
  .br ((↑x1.n : Int) == (0 : Int)) (
    .ret [.slice (none) ((0 : Nat)) ((0 : Nat))]) <|
  .rq ((0 : Int) ≤ Go.IntKind.i64.wrap ((↑x0.n : Int) + (↑x1.n : Int)) ∧ Go.IntKind.i64.wrap ((↑x0.n : Int) + (↑x1.n : Int)) ≤ Go.IntKind.i64.wrap ((↑x0.n : Int) + (↑x1.n : Int)) ∧ (↑(8 : Nat) : Int) * Go.IntKind.i64.wrap ((↑x0.n : Int) + (↑x1.n : Int)) ≤ (281474976710656 : Int) ∧ Go.IntKind.i64.wrap ((↑x0.n : Int) + (↑x1.n : Int)) ≤ (9223372036854775807 : Int)) <|
  .lp [.a 3, .o (.o (.i .i64))] [.a 3 ((Go.IntKind.i64.wrap ((↑x0.n : Int) + (↑x1.n : Int))).toNat) ((Go.madeCells { toList := [Go.Value.int Go.IntKind.i64 (0 : Int)] : Array Go.Value } ((Go.IntKind.i64.wrap ((↑x0.n : Int) + (↑x1.n : Int))).toNat * (1 : Nat))).toList), .v (.int .i64 ((0 : Int)))] fun y1 =>
  .br (decide (y1.2.fst < (↑x0.n : Int))) (
    .el (x0.a) (x0.n) (y1.2.fst) fun y2 =>
    .ld false (y2.add (Int.toNat y1.2.fst * (1 : Nat))) (.o (.i .i64)) fun y3 =>
    .lp [.a 3, .o (.o (.i .i64)), .o (.o (.i .i64))] [.a 3 (y1.1.fst) (y1.1.snd), .v (.int .i64 ((0 : Int))), .v (.int .i64 ((0 : Int)))] fun y4 =>
    .br (decide (y4.2.2.fst < (↑x1.n : Int))) (
      .el (x1.a) (x1.n) (y4.2.2.fst) fun y5 =>
      .ld false (y5.add (Int.toNat y4.2.2.fst * (1 : Nat))) (.o (.i .i64)) fun y6 =>
      .rq ((0 : Int) ≤ Go.IntKind.i64.wrap (y1.2.fst + y4.2.2.fst) ∧ Go.IntKind.i64.wrap (y1.2.fst + y4.2.2.fst) < (↑y4.1.fst : Int)) <|
      .xs (y4.1.snd) ((Go.IntKind.i64.wrap (y1.2.fst + y4.2.2.fst)).toNat * (1 : Nat)) (.o (.i .i64)) fun y7 =>
      .rq ((1000000000 : Int) ≠ (0 : Int)) <|
      .rq ((0 : Int) ≤ Go.IntKind.i64.wrap (y1.2.fst + y4.2.2.fst) ∧ Go.IntKind.i64.wrap (y1.2.fst + y4.2.2.fst) < (↑y4.1.fst : Int)) <|
      .rq ((Go.IntKind.i64.wrap (y1.2.fst + y4.2.2.fst)).toNat * (1 : Nat) + [Go.Value.int Go.IntKind.i64 ((Go.IntKind.i64.wrap (Go.IntKind.i64.wrap (y7 + Go.IntKind.i64.wrap (y3 * y6)) + y4.2.fst)).tmod (1000000000 : Int))].length ≤ y4.1.snd.length) <|
      .rq ((1000000000 : Int) ≠ (0 : Int)) <|
      .nx 1 [.a 3 (y4.1.fst) (setl y4.1.snd ((Go.IntKind.i64.wrap (y1.2.fst + y4.2.2.fst)).toNat * (1 : Nat)) [Go.Value.int Go.IntKind.i64 ((Go.IntKind.i64.wrap (Go.IntKind.i64.wrap (y7 + Go.IntKind.i64.wrap (y3 * y6)) + y4.2.fst)).tmod (1000000000 : Int))]), .v (.int .i64 (Go.IntKind.i64.wrap ((Go.IntKind.i64.wrap (Go.IntKind.i64.wrap (y7 + Go.IntKind.i64.wrap (y3 * y6)) + y4.2.fst)).tdiv (1000000000 : Int)))), .v (.int .i64 (Go.IntKind.i64.wrap (y4.2.2.fst + (1 : Int))))]) <|
    .rq ((0 : Int) ≤ Go.IntKind.i64.wrap (y1.2.fst + (↑x1.n : Int)) ∧ Go.IntKind.i64.wrap (y1.2.fst + (↑x1.n : Int)) < (↑y4.1.fst : Int)) <|
    .rq ((Go.IntKind.i64.wrap (y1.2.fst + (↑x1.n : Int))).toNat * (1 : Nat) + [(Sh1.o (Sc.i Go.IntKind.i64)).val y4.2.fst].length ≤ y4.1.snd.length) <|
    .nx 0 [.a 3 (y4.1.fst) (setl y4.1.snd ((Go.IntKind.i64.wrap (y1.2.fst + (↑x1.n : Int))).toNat * (1 : Nat)) [(Sh1.o (Sc.i Go.IntKind.i64)).val y4.2.fst]), .v (.int .i64 (Go.IntKind.i64.wrap (y1.2.fst + (1 : Int))))]) <|
  .fz (y1.1.fst) (y1.1.snd) 3 fun b2 c2 =>
  .call false 118 [.slice (some { block := b2, off := (0 : Nat) : Go.Addr }) (y1.1.fst) (c2)] (.v (.o (.l))) fun y3 =>
  .ret [Sc.val .l (y3)]
theorem fS_l02Mul (x0 : SlV) (x1 : SlV) : fits Tryz.prog aS_l02Mul 115 [Sc.val .l (x0), Sc.val .l (x1)] (tS_l02Mul x0 x1) :=
  ⟨Tryz.f115, Tryz.f115.body.getD .skip, by kernel_rfl, by kernel_rfl, by kernel_rfl, by kernel_rfl, by kernel_rfl, by kernel_rfl⟩
/-! loop.example/g00793/spec.l03Small -/
def aS_l03Small : An := ⟨[(4, [.s 6, .s 7, .s 8], [.a 3, .o (.o (.i .i64)), .o (.o (.i .i64))])], [], []⟩
noncomputable def tS_l03Small (x0 : SlV) (x1 : Int) : T :=
  .rq ((0 : Int) ≤ (↑x0.n : Int) ∧ (↑x0.n : Int) ≤ (↑x0.n : Int) ∧ (↑(8 : Nat) : Int) * (↑x0.n : Int) ≤ (281474976710656 : Int) ∧ (↑x0.n : Int) ≤ (9223372036854775807 : Int)) <|
  .lp [.a 3, .o (.o (.i .i64)), .o (.o (.i .i64))] [.a 3 ((↑x0.n : Int).toNat) ((Go.madeCells { toList := [Go.Value.int Go.IntKind.i64 (0 : Int)] : Array Go.Value } ((↑x0.n : Int).toNat * (1 : Nat))).toList), .v (.int .i64 ((0 : Int))), .v (.int .i64 (Go.IntKind.i64.wrap ((↑x0.n : Int) - (1 : Int))))] fun y1 =>
  .br (decide (y1.2.2.fst ≥ (0 : Int))) (
    .el (x0.a) (x0.n) (y1.2.2.fst) fun y2 =>
    .ld false (y2.add (Int.toNat y1.2.2.fst * (1 : Nat))) (.o (.i .i64)) fun y3 =>
    .rq (x1 ≠ (0 : Int)) <|
    .rq ((0 : Int) ≤ y1.2.2.fst ∧ y1.2.2.fst < (↑y1.1.fst : Int)) <|
    .rq (Int.toNat y1.2.2.fst * (1 : Nat) + [Go.Value.int Go.IntKind.i64 (Go.IntKind.i64.wrap ((Go.IntKind.i64.wrap (Go.IntKind.i64.wrap (y1.2.fst * (1000000000 : Int)) + y3)).tdiv x1))].length ≤ y1.1.snd.length) <|
    .rq (x1 ≠ (0 : Int)) <|
    .nx 0 [.a 3 (y1.1.fst) (setl y1.1.snd (Int.toNat y1.2.2.fst * (1 : Nat)) [Go.Value.int Go.IntKind.i64 (Go.IntKind.i64.wrap ((Go.IntKind.i64.wrap (Go.IntKind.i64.wrap (y1.2.fst * (1000000000 : Int)) + y3)).tdiv x1))]), .v (.int .i64 ((Go.IntKind.i64.wrap (Go.IntKind.i64.wrap (y1.2.fst * (1000000000 : Int)) + y3)).tmod x1)), .v (.int .i64 (Go.IntKind.i64.wrap (y1.2.2.fst - (1 : Int))))]) <|
  .fz (y1.1.fst) (y1.1.snd) 3 fun b2 c2 =>
  .call false 118 [.slice (some { block := b2, off := (0 : Nat) : Go.Addr }) (y1.1.fst) (c2)] (.v (.o (.l))) fun y3 =>
  .ret [Sc.val .l (y3), .int .i64 (y1.2.fst)]
theorem fS_l03Small (x0 : SlV) (x1 : Int) : fits Tryz.prog aS_l03Small 116 [Sc.val .l (x0), .int .i64 (x1)] (tS_l03Small x0 x1) :=
  ⟨Tryz.f116, Tryz.f116.body.getD .skip, by kernel_rfl, by kernel_rfl, by kernel_rfl, by kernel_rfl, by kernel_rfl, by kernel_rfl⟩
/-! loop.example/g00793/spec.NatOf -/
def aS_NatOf : An := ⟨[(2, [.s 0, .s 3], [.o (.o (.i .i64)), .a 3])], [], []⟩
noncomputable def tS_NatOf (x0 : Int) : T :=
  .lp [.o (.o (.i .i64)), .a 3] [.v (.int .i64 (x0)), .a 3 ((0 : Nat)) []] fun y1 =>
  .br (decide (y1.fst > (0 : Int))) (
    .rq ((1000000000 : Int) ≠ (0 : Int)) <|
    .rq ([Go.Value.int Go.IntKind.i64 (Int.tmod y1.fst (1000000000 : Int))].length = (1 : Nat) * (1 : Nat)) <|
    .rq (one [Go.Value.int Go.IntKind.i64 (Int.tmod y1.fst (1000000000 : Int))] = true ∧ (y1.2.1.fst + (1 : Nat)) * (8 : Nat) ≤ (140737488355328 : Nat) ∧ y1.2.1.fst + (1 : Nat) ≤ (9223372036854775807 : Nat)) <|
    .rq ((1000000000 : Int) ≠ (0 : Int)) <|
    .nx 0 [.v (.int .i64 (Go.IntKind.i64.wrap (Int.tdiv y1.fst (1000000000 : Int)))), .a 3 (y1.2.1.fst + (1 : Nat)) (y1.2.1.snd ++ [Go.Value.int Go.IntKind.i64 (Int.tmod y1.fst (1000000000 : Int))])]) <|
  .fz (y1.2.1.fst) (y1.2.1.snd) 3 fun b2 c2 =>
  .ret [.slice (some { block := b2, off := (0 : Nat) : Go.Addr }) (y1.2.1.fst) (c2)]
theorem fS_NatOf (x0 : Int) : fits Tryz.prog aS_NatOf 117 [.int .i64 (x0)] (tS_NatOf x0) :=
  ⟨Tryz.f117, Tryz.f117.body.getD .skip, by kernel_rfl, by kernel_rfl, by kernel_rfl, by kernel_rfl, by kernel_rfl, by kernel_rfl⟩
/-! loop.example/g00793/spec.l02Trim -/
def aS_l02Trim : An := ⟨[(2, [.s 3], [.o (.o (.i .i64))])], [], []⟩
noncomputable def tS_l02Trim (x0 : SlV) : T :=
  .lp [.o (.o (.i .i64))] [.v (.int .i64 ((↑x0.n : Int)))] fun y1 =>
  .br (decide (y1.fst > (0 : Int))) (
    .el (x0.a) (x0.n) (Go.IntKind.i64.wrap (y1.fst - (1 : Int))) fun y2 =>
    .ld false (y2.add ((Go.IntKind.i64.wrap (y1.fst - (1 : Int))).toNat * (1 : Nat))) (.o (.i .i64)) fun y3 =>
    .br (y3 == (0 : Int)) (
      .nx 0 [.v (.int .i64 (Go.IntKind.i64.wrap (y1.fst - (1 : Int))))]) <|
    .rq ((0 : Int) ≤ (0 : Int) ∧ (0 : Int) ≤ y1.fst ∧ y1.fst ≤ (↑x0.c : Int) ∧ (↑x0.c : Int) ≤ (↑x0.c : Int)) <|
    .ret [.slice (if (↑x0.c : Int).toNat = Int.toNat (0 : Int) then x0.a else Option.map (fun x => x.add (Int.toNat (0 : Int) * Go.Proofs.Tryz.prog.types[(3 : Nat)].size)) x0.a) (Int.toNat y1.fst - Int.toNat (0 : Int)) ((↑x0.c : Int).toNat - Int.toNat (0 : Int))]) <|
  .rq ((0 : Int) ≤ (0 : Int) ∧ (0 : Int) ≤ y1.fst ∧ y1.fst ≤ (↑x0.c : Int) ∧ (↑x0.c : Int) ≤ (↑x0.c : Int)) <|
  .ret [.slice (if (↑x0.c : Int).toNat = Int.toNat (0 : Int) then x0.a else Option.map (fun x => x.add (Int.toNat (0 : Int) * Go.Proofs.Tryz.prog.types[(3 : Nat)].size)) x0.a) (Int.toNat y1.fst - Int.toNat (0 : Int)) ((↑x0.c : Int).toNat - Int.toNat (0 : Int))]
theorem fS_l02Trim (x0 : SlV) : fits Tryz.prog aS_l02Trim 118 [Sc.val .l (x0)] (tS_l02Trim x0) :=
  ⟨Tryz.f118, Tryz.f118.body.getD .skip, by kernel_rfl, by kernel_rfl, by kernel_rfl, by kernel_rfl, by kernel_rfl, by kernel_rfl⟩
/-! loop.example/g00793/spec.l03Digit -/
def aS_l03Digit : An := ⟨[(3, [.s 5, .s 6], [.o (.o (.i .i64)), .o (.o (.i .i64))])], [], []⟩
noncomputable def tS_l03Digit (x0 : SlV) (x1 : SlV) : T :=
  .lp [.o (.o (.i .i64)), .o (.o (.i .i64))] [.v (.int .i64 ((0 : Int))), .v (.int .i64 ((999999999 : Int)))] fun y1 =>
  .br (decide (y1.fst < y1.2.fst)) (
    .rq ((2 : Int) ≠ (0 : Int)) <|
    .call false 117 [.int .i64 (Go.IntKind.i64.wrap ((Go.IntKind.i64.wrap (Go.IntKind.i64.wrap (y1.fst + y1.2.fst) + (1 : Int))).tdiv (2 : Int)))] (.v (.o (.l))) fun y2 =>
    .call false 115 [Sc.val .l (x1), Sc.val .l (y2)] (.v (.o (.l))) fun y3 =>
    .call false 37 [Sc.val .l (y3), Sc.val .l (x0)] (.v (.o (.i .i64))) fun y4 =>
    .br (decide (y4 ≤ (0 : Int))) (
      .nx 0 [.v (.int .i64 (Go.IntKind.i64.wrap ((Go.IntKind.i64.wrap (Go.IntKind.i64.wrap (y1.fst + y1.2.fst) + (1 : Int))).tdiv (2 : Int)))), .v (.int .i64 (y1.2.fst))]) <|
    .nx 0 [.v (.int .i64 (y1.fst)), .v (.int .i64 (Go.IntKind.i64.wrap (Go.IntKind.i64.wrap ((Go.IntKind.i64.wrap (Go.IntKind.i64.wrap (y1.fst + y1.2.fst) + (1 : Int))).tdiv (2 : Int)) - (1 : Int))))]) <|
  .ret [.int .i64 (y1.fst)]
theorem fS_l03Digit (x0 : SlV) (x1 : SlV) : fits Tryz.prog aS_l03Digit 119 [Sc.val .l (x0), Sc.val .l (x1)] (tS_l03Digit x0 x1) :=
  ⟨Tryz.f119, Tryz.f119.body.getD .skip, by kernel_rfl, by kernel_rfl, by kernel_rfl, by kernel_rfl, by kernel_rfl, by kernel_rfl⟩
/-! loop.example/g00793/spec.l02Sub -/
def aS_l02Sub : An := ⟨[(4, [.s 5, .s 6, .s 12], [.a 3, .o (.o (.i .i64)), .o (.o (.i .i64))])], [], []⟩
noncomputable def tS_l02Sub (x0 : SlV) (x1 : SlV) : T :=
  .lp [.a 3, .o (.o (.i .i64)), .o (.o (.i .i64))] [.a 3 ((0 : Nat)) [], .v (.int .i64 ((0 : Int))), .v (.int .i64 ((0 : Int)))] fun y1 =>
  .br (decide (y1.2.2.fst < (↑x0.n : Int))) (
    .el (x0.a) (x0.n) (y1.2.2.fst) fun y2 =>
    .ld false (y2.add (Int.toNat y1.2.2.fst * (1 : Nat))) (.o (.i .i64)) fun y3 =>
    .br (decide (y1.2.2.fst < (↑x1.n : Int))) (
      .el (x1.a) (x1.n) (y1.2.2.fst) fun y4 =>
      .ld false (y4.add (Int.toNat y1.2.2.fst * (1 : Nat))) (.o (.i .i64)) fun y5 =>
      .br (decide (Go.IntKind.i64.wrap (Go.IntKind.i64.wrap (y3 - y1.2.fst) - y5) < (0 : Int))) (
        .rq ([Go.Value.int Go.IntKind.i64 (Go.IntKind.i64.wrap (Go.IntKind.i64.wrap (Go.IntKind.i64.wrap (y3 - y1.2.fst) - y5) + (1000000000 : Int)))].length = (1 : Nat) * (1 : Nat)) <|
        .rq (one [Go.Value.int Go.IntKind.i64 (Go.IntKind.i64.wrap (Go.IntKind.i64.wrap (Go.IntKind.i64.wrap (y3 - y1.2.fst) - y5) + (1000000000 : Int)))] = true ∧ (y1.1.fst + (1 : Nat)) * (8 : Nat) ≤ (140737488355328 : Nat) ∧ y1.1.fst + (1 : Nat) ≤ (9223372036854775807 : Nat)) <|
        .nx 0 [.a 3 (y1.1.fst + (1 : Nat)) (y1.1.snd ++ [Go.Value.int Go.IntKind.i64 (Go.IntKind.i64.wrap (Go.IntKind.i64.wrap (Go.IntKind.i64.wrap (y3 - y1.2.fst) - y5) + (1000000000 : Int)))]), .v (.int .i64 ((1 : Int))), .v (.int .i64 (Go.IntKind.i64.wrap (y1.2.2.fst + (1 : Int))))]) <|
      .rq ([Go.Value.int Go.IntKind.i64 (Go.IntKind.i64.wrap (Go.IntKind.i64.wrap (y3 - y1.2.fst) - y5))].length = (1 : Nat) * (1 : Nat)) <|
      .rq (one [Go.Value.int Go.IntKind.i64 (Go.IntKind.i64.wrap (Go.IntKind.i64.wrap (y3 - y1.2.fst) - y5))] = true ∧ (y1.1.fst + (1 : Nat)) * (8 : Nat) ≤ (140737488355328 : Nat) ∧ y1.1.fst + (1 : Nat) ≤ (9223372036854775807 : Nat)) <|
      .nx 0 [.a 3 (y1.1.fst + (1 : Nat)) (y1.1.snd ++ [Go.Value.int Go.IntKind.i64 (Go.IntKind.i64.wrap (Go.IntKind.i64.wrap (y3 - y1.2.fst) - y5))]), .v (.int .i64 ((0 : Int))), .v (.int .i64 (Go.IntKind.i64.wrap (y1.2.2.fst + (1 : Int))))]) <|
    .br (decide (Go.IntKind.i64.wrap (y3 - y1.2.fst) < (0 : Int))) (
      .rq ([Go.Value.int Go.IntKind.i64 (Go.IntKind.i64.wrap (Go.IntKind.i64.wrap (y3 - y1.2.fst) + (1000000000 : Int)))].length = (1 : Nat) * (1 : Nat)) <|
      .rq (one [Go.Value.int Go.IntKind.i64 (Go.IntKind.i64.wrap (Go.IntKind.i64.wrap (y3 - y1.2.fst) + (1000000000 : Int)))] = true ∧ (y1.1.fst + (1 : Nat)) * (8 : Nat) ≤ (140737488355328 : Nat) ∧ y1.1.fst + (1 : Nat) ≤ (9223372036854775807 : Nat)) <|
      .nx 0 [.a 3 (y1.1.fst + (1 : Nat)) (y1.1.snd ++ [Go.Value.int Go.IntKind.i64 (Go.IntKind.i64.wrap (Go.IntKind.i64.wrap (y3 - y1.2.fst) + (1000000000 : Int)))]), .v (.int .i64 ((1 : Int))), .v (.int .i64 (Go.IntKind.i64.wrap (y1.2.2.fst + (1 : Int))))]) <|
    .rq ([Go.Value.int Go.IntKind.i64 (Go.IntKind.i64.wrap (y3 - y1.2.fst))].length = (1 : Nat) * (1 : Nat)) <|
    .rq (one [Go.Value.int Go.IntKind.i64 (Go.IntKind.i64.wrap (y3 - y1.2.fst))] = true ∧ (y1.1.fst + (1 : Nat)) * (8 : Nat) ≤ (140737488355328 : Nat) ∧ y1.1.fst + (1 : Nat) ≤ (9223372036854775807 : Nat)) <|
    .nx 0 [.a 3 (y1.1.fst + (1 : Nat)) (y1.1.snd ++ [Go.Value.int Go.IntKind.i64 (Go.IntKind.i64.wrap (y3 - y1.2.fst))]), .v (.int .i64 ((0 : Int))), .v (.int .i64 (Go.IntKind.i64.wrap (y1.2.2.fst + (1 : Int))))]) <|
  .fz (y1.1.fst) (y1.1.snd) 3 fun b2 c2 =>
  .call false 118 [.slice (some { block := b2, off := (0 : Nat) : Go.Addr }) (y1.1.fst) (c2)] (.v (.o (.l))) fun y3 =>
  .ret [Sc.val .l (y3)]
theorem fS_l02Sub (x0 : SlV) (x1 : SlV) : fits Tryz.prog aS_l02Sub 120 [Sc.val .l (x0), Sc.val .l (x1)] (tS_l02Sub x0 x1) :=
  ⟨Tryz.f120, Tryz.f120.body.getD .skip, by kernel_rfl, by kernel_rfl, by kernel_rfl, by kernel_rfl, by kernel_rfl, by kernel_rfl⟩
/-! loop.example/g00793/impl.natDiv -/
def aI_natDiv : An := ⟨[(9, [.s 9], [.o (.o (.l))]), (14, [.s 12, .s 13], [.a 3, .o (.o (.i .i64))])], [], []⟩
noncomputable def tI_natDiv (x0 : SlV) (x1 : SlV) : T :=
  .call false 131 [Sc.val .l (x0), Sc.val .l (x1)] (.v (.o (.i .i64))) fun y1 =>
  .br (decide (y1 < (0 : Int))) (
    .call false 122 [Sc.val .l (x0)] (.v (.o (.l))) fun y2 =>
    .fz ((0 : Nat)) [] 3 fun b3 c3 =>
    .ret [.slice (some { block := b3, off := (0 : Nat) : Go.Addr }) ((0 : Nat)) (c3), Sc.val .l (y2)]) <|
  .br ((↑x1.n : Int) == (1 : Int)) (
    .el (x1.a) (x1.n) ((0 : Int)) fun y2 =>
    .ld false (y2.add (Int.toNat (0 : Int) * (1 : Nat))) (.o (.i .i64)) fun y3 =>
    .call false 132 [Sc.val .l (x0), .int .i64 (y3)] (.t [(.o (.l)), (.o (.i .i64))]) fun y4 =>
    .call false 133 [.int .i64 (y4.2.fst)] (.v (.o (.l))) fun y5 =>
    .ret [Sc.val .l (y4.1), Sc.val .l (y5)]) <|
  .el (x1.a) (x1.n) (Go.IntKind.i64.wrap ((↑x1.n : Int) - (1 : Int))) fun y2 =>
  .ld false (y2.add ((Go.IntKind.i64.wrap ((↑x1.n : Int) - (1 : Int))).toNat * (1 : Nat))) (.o (.i .i64)) fun y3 =>
  .rq (Go.IntKind.i64.wrap (y3 + (1 : Int)) ≠ (0 : Int)) <|
  .fz ((1 : Nat)) [.int .i64 (Go.IntKind.i64.wrap (Int.tdiv (1000000000 : Int) (Go.IntKind.i64.wrap (y3 + (1 : Int)))))] 3 fun b4 c4 =>
  .call false 134 [Sc.val .l (x0), .slice (some { block := b4, off := (0 : Nat) : Go.Addr }) ((1 : Nat)) (c4)] (.v (.o (.l))) fun y5 =>
  .fz ((1 : Nat)) [.int .i64 (Go.IntKind.i64.wrap (Int.tdiv (1000000000 : Int) (Go.IntKind.i64.wrap (y3 + (1 : Int)))))] 3 fun b6 c6 =>
  .call false 134 [Sc.val .l (x1), .slice (some { block := b6, off := (0 : Nat) : Go.Addr }) ((1 : Nat)) (c6)] (.v (.o (.l))) fun y7 =>
  .lp [.o (.o (.l))] [.v (Sc.val .l (y5))] fun y8 =>
  .br (decide ((↑y8.1.n : Int) ≤ (↑x0.n : Int))) (
    .rq ([Go.Value.int Go.IntKind.i64 (0 : Int)].length = (1 : Nat) * (1 : Nat)) <|
    .rq (one [Go.Value.int Go.IntKind.i64 (0 : Int)] = true) <|
    .ap ({ a := y8.1.a, n := y8.1.n, c := y8.1.c : SlV }) 1 8 [.int .i64 ((0 : Int))] ((1 : Nat)) 3 fun y9 =>
    .nx 0 [.v (Sc.val .l (y9))]) <|
  .rq ((0 : Int) ≤ Go.IntKind.i64.wrap ((↑y8.1.n : Int) - (↑y7.n : Int)) ∧ Go.IntKind.i64.wrap ((↑y8.1.n : Int) - (↑y7.n : Int)) ≤ Go.IntKind.i64.wrap ((↑y8.1.n : Int) - (↑y7.n : Int)) ∧ (↑(8 : Nat) : Int) * Go.IntKind.i64.wrap ((↑y8.1.n : Int) - (↑y7.n : Int)) ≤ (281474976710656 : Int) ∧ Go.IntKind.i64.wrap ((↑y8.1.n : Int) - (↑y7.n : Int)) ≤ (9223372036854775807 : Int)) <|
  .lp [.a 3, .o (.o (.i .i64))] [.a 3 ((Go.IntKind.i64.wrap ((↑y8.1.n : Int) - (↑y7.n : Int))).toNat) ((Go.madeCells { toList := [Go.Value.int Go.IntKind.i64 (0 : Int)] : Array Go.Value } ((Go.IntKind.i64.wrap ((↑y8.1.n : Int) - (↑y7.n : Int))).toNat * (1 : Nat))).toList), .v (.int .i64 (Go.IntKind.i64.wrap ((↑(Go.IntKind.i64.wrap ((↑y8.1.n : Int) - (↑y7.n : Int))).toNat : Int) - (1 : Int))))] fun y9 =>
  .br (decide (y9.2.fst ≥ (0 : Int))) (
    .rq ((0 : Int) ≤ y9.2.fst ∧ y9.2.fst ≤ Go.IntKind.i64.wrap (Go.IntKind.i64.wrap (y9.2.fst + (↑y7.n : Int)) + (1 : Int)) ∧ Go.IntKind.i64.wrap (Go.IntKind.i64.wrap (y9.2.fst + (↑y7.n : Int)) + (1 : Int)) ≤ (↑y8.1.c : Int) ∧ (↑y8.1.c : Int) ≤ (↑y8.1.c : Int)) <|
    .call false 135 [.slice (if (↑y8.1.c : Int).toNat = Int.toNat y9.2.fst then y8.1.a else Option.map (fun x => x.add (Int.toNat y9.snd.fst * Go.Proofs.Tryz.prog.types[(3 : Nat)].size)) y8.1.a) ((Go.IntKind.i64.wrap (Go.IntKind.i64.wrap (y9.2.fst + (↑y7.n : Int)) + (1 : Int))).toNat - Int.toNat y9.2.fst) ((↑y8.1.c : Int).toNat - Int.toNat y9.2.fst), Sc.val .l (y7)] (.v (.o (.i .i64))) fun y10 =>
    .rq ((0 : Int) ≤ y9.2.fst ∧ y9.2.fst < (↑y9.1.fst : Int)) <|
    .rq (Int.toNat y9.2.fst * (1 : Nat) + [(Sh1.o (Sc.i Go.IntKind.i64)).val y10].length ≤ y9.1.snd.length) <|
    .nx 1 [.a 3 (y9.1.fst) (setl y9.1.snd (Int.toNat y9.2.fst * (1 : Nat)) [(Sh1.o (Sc.i Go.IntKind.i64)).val y10]), .v (.int .i64 (Go.IntKind.i64.wrap (y9.2.fst - (1 : Int))))]) <|
  .call false 136 [Sc.val .l (y8.1)] (.v (.o (.l))) fun y10 =>
  .call false 132 [Sc.val .l (y10), .int .i64 (Go.IntKind.i64.wrap (Int.tdiv (1000000000 : Int) (Go.IntKind.i64.wrap (y3 + (1 : Int)))))] (.t [(.o (.l)), (.o (.i .i64))]) fun y11 =>
  .fz (y9.1.fst) (y9.1.snd) 3 fun b12 c12 =>
  .call false 136 [.slice (some { block := b12, off := (0 : Nat) : Go.Addr }) (y9.1.fst) (c12)] (.v (.o (.l))) fun y13 =>
  .ret [Sc.val .l (y13), Sc.val .l (y11.1)]
theorem fI_natDiv (x0 : SlV) (x1 : SlV) : fits Tryz.prog aI_natDiv 121 [Sc.val .l (x0), Sc.val .l (x1)] (tI_natDiv x0 x1) :=
  ⟨Tryz.f121, Tryz.f121.body.getD .skip, by kernel_rfl, by kernel_rfl, by kernel_rfl, by kernel_rfl, by kernel_rfl, by kernel_rfl⟩
/-! loop.example/g00793/impl.natCopy -/
def aI_natCopy : An := ⟨[], [], []⟩
noncomputable def tI_natCopy (x0 : SlV) : T :=
  .rd ({ a := x0.a, n := x0.n, c := x0.c : SlV }) ((1 : Nat)) fun y1 =>
  .rq (one y1 = true ∧ ((0 : Nat) + x0.n) * (8 : Nat) ≤ (140737488355328 : Nat) ∧ (0 : Nat) + x0.n ≤ (9223372036854775807 : Nat)) <|
  .fz ((0 : Nat) + x0.n) ([] ++ y1) 3 fun b2 c2 =>
  .ret [.slice (some { block := b2, off := (0 : Nat) : Go.Addr }) ((0 : Nat) + x0.n) (c2)]
theorem fI_natCopy (x0 : SlV) : fits Tryz.prog aI_natCopy 122 [Sc.val .l (x0)] (tI_natCopy x0) :=
  ⟨Tryz.f122, Tryz.f122.body.getD .skip, by kernel_rfl, by kernel_rfl, by kernel_rfl, by kernel_rfl, by kernel_rfl, by kernel_rfl⟩
/-! loop.example/g00793/spec.l02Cap -/
def aS_l02Cap : An := ⟨[], [], []⟩
noncomputable def tS_l02Cap (x0 : SlV) : T :=
  .call false 118 [Sc.val .l (x0)] (.v (.o (.l))) fun y1 =>
  .br (decide ((↑y1.n : Int) > (50 : Int))) (
    .ret [.slice (none) ((0 : Nat)) ((0 : Nat))]) <|
  .ret [Sc.val .l (y1)]
theorem fS_l02Cap (x0 : SlV) : fits Tryz.prog aS_l02Cap 130 [Sc.val .l (x0)] (tS_l02Cap x0) :=
  ⟨Tryz.f130, Tryz.f130.body.getD .skip, by kernel_rfl, by kernel_rfl, by kernel_rfl, by kernel_rfl, by kernel_rfl, by kernel_rfl⟩
/-! loop.example/g00793/impl.natCmp -/
def aI_natCmp : An := ⟨[(6, [.s 5], [.o (.o (.i .i64))])], [], []⟩
noncomputable def tI_natCmp (x0 : SlV) (x1 : SlV) : T :=
  .br ((↑x0.n : Int) != (↑x1.n : Int)) (
    .br (decide ((↑x0.n : Int) < (↑x1.n : Int))) (
      .ret [.int .i64 ((-1 : Int))]) <|
    .ret [.int .i64 ((1 : Int))]) <|
  .lp [.o (.o (.i .i64))] [.v (.int .i64 (Go.IntKind.i64.wrap ((↑x0.n : Int) - (1 : Int))))] fun y1 =>
  .br (decide (y1.fst ≥ (0 : Int))) (
    .rg <|
    .el (x0.a) (x0.n) (y1.fst) fun y2 =>
    .ld true (y2.add (Int.toNat y1.fst * (1 : Nat))) (.o (.i .i64)) fun y3 =>
    .el (x1.a) (x1.n) (y1.fst) fun y4 =>
    .ld true (y4.add (Int.toNat y1.fst * (1 : Nat))) (.o (.i .i64)) fun y5 =>
    .br (y3 != y5) (
      .rg <|
      .el (x0.a) (x0.n) (y1.fst) fun y6 =>
      .ld true (y6.add (Int.toNat y1.fst * (1 : Nat))) (.o (.i .i64)) fun y7 =>
      .el (x1.a) (x1.n) (y1.fst) fun y8 =>
      .ld true (y8.add (Int.toNat y1.fst * (1 : Nat))) (.o (.i .i64)) fun y9 =>
      .br (decide (y7 < y9)) (
        .ret [.int .i64 ((-1 : Int))]) <|
      .ret [.int .i64 ((1 : Int))]) <|
    .nx 0 [.v (.int .i64 (Go.IntKind.i64.wrap (y1.fst - (1 : Int))))]) <|
  .ret [.int .i64 ((0 : Int))]
theorem fI_natCmp (x0 : SlV) (x1 : SlV) : fits Tryz.prog aI_natCmp 131 [Sc.val .l (x0), Sc.val .l (x1)] (tI_natCmp x0 x1) :=
  ⟨Tryz.f131, Tryz.f131.body.getD .skip, by kernel_rfl, by kernel_rfl, by kernel_rfl, by kernel_rfl, by kernel_rfl, by kernel_rfl⟩
/-! loop.example/g00793/impl.natSmall -/
def aI_natSmall : An := ⟨[(4, [.s 6, .s 7, .s 8], [.a 3, .o (.o (.i .i64)), .o (.o (.i .i64))])], [], []⟩
noncomputable def tI_natSmall (x0 : SlV) (x1 : Int) : T :=
  .rq ((0 : Int) ≤ (↑x0.n : Int) ∧ (↑x0.n : Int) ≤ (↑x0.n : Int) ∧ (↑(8 : Nat) : Int) * (↑x0.n : Int) ≤ (281474976710656 : Int) ∧ (↑x0.n : Int) ≤ (9223372036854775807 : Int)) <|
  .lp [.a 3, .o (.o (.i .i64)), .o (.o (.i .i64))] [.a 3 ((↑x0.n : Int).toNat) ((Go.madeCells { toList := [Go.Value.int Go.IntKind.i64 (0 : Int)] : Array Go.Value } ((↑x0.n : Int).toNat * (1 : Nat))).toList), .v (.int .i64 ((0 : Int))), .v (.int .i64 (Go.IntKind.i64.wrap ((↑x0.n : Int) - (1 : Int))))] fun y1 =>
  .br (decide (y1.2.2.fst ≥ (0 : Int))) (
    .el (x0.a) (x0.n) (y1.2.2.fst) fun y2 =>
    .ld false (y2.add (Int.toNat y1.2.2.fst * (1 : Nat))) (.o (.i .i64)) fun y3 =>
    .rq (x1 ≠ (0 : Int)) <|
    .rq ((0 : Int) ≤ y1.2.2.fst ∧ y1.2.2.fst < (↑y1.1.fst : Int)) <|
    .rq (Int.toNat y1.2.2.fst * (1 : Nat) + [Go.Value.int Go.IntKind.i64 (Go.IntKind.i64.wrap ((Go.IntKind.i64.wrap (Go.IntKind.i64.wrap (y1.2.fst * (1000000000 : Int)) + y3)).tdiv x1))].length ≤ y1.1.snd.length) <|
    .rq (x1 ≠ (0 : Int)) <|
    .nx 0 [.a 3 (y1.1.fst) (setl y1.1.snd (Int.toNat y1.2.2.fst * (1 : Nat)) [Go.Value.int Go.IntKind.i64 (Go.IntKind.i64.wrap ((Go.IntKind.i64.wrap (Go.IntKind.i64.wrap (y1.2.fst * (1000000000 : Int)) + y3)).tdiv x1))]), .v (.int .i64 ((Go.IntKind.i64.wrap (Go.IntKind.i64.wrap (y1.2.fst * (1000000000 : Int)) + y3)).tmod x1)), .v (.int .i64 (Go.IntKind.i64.wrap (y1.2.2.fst - (1 : Int))))]) <|
  .fz (y1.1.fst) (y1.1.snd) 3 fun b2 c2 =>
  .call false 136 [.slice (some { block := b2, off := (0 : Nat) : Go.Addr }) (y1.1.fst) (c2)] (.v (.o (.l))) fun y3 =>
  .ret [Sc.val .l (y3), .int .i64 (y1.2.fst)]
theorem fI_natSmall (x0 : SlV) (x1 : Int) : fits Tryz.prog aI_natSmall 132 [Sc.val .l (x0), .int .i64 (x1)] (tI_natSmall x0 x1) :=
  ⟨Tryz.f132, Tryz.f132.body.getD .skip, by kernel_rfl, by kernel_rfl, by kernel_rfl, by kernel_rfl, by kernel_rfl, by kernel_rfl⟩
/-! loop.example/g00793/impl.NatOf -/
def aI_NatOf : An := ⟨[], [], []⟩
noncomputable def tI_NatOf (x0 : Int) : T :=
  .br (decide (x0 < (0 : Int))) (
    .ret [.slice (none) ((0 : Nat)) ((0 : Nat))]) <|
  .call false 143 [.int .u64 (Go.IntKind.u64.wrap x0)] (.v (.o (.l))) fun y1 =>
  .ret [Sc.val .l (y1)]
theorem fI_NatOf (x0 : Int) : fits Tryz.prog aI_NatOf 133 [.int .i64 (x0)] (tI_NatOf x0) :=
  ⟨Tryz.f133, Tryz.f133.body.getD .skip, by kernel_rfl, by kernel_rfl, by kernel_rfl, by kernel_rfl, by kernel_rfl, by kernel_rfl⟩
/-! loop.example/g00793/impl.natMul -/
def aI_natMul : An := ⟨[(3, [.s 5, .s 21], [.a 3, .o (.o (.i .i64))]), (7, [.s 5, .s 8, .s 28], [.a 3, .o (.o (.i .i64)), .o (.o (.i .i64))]), (14, [.s 5, .s 8, .s 11], [.a 3, .o (.o (.i .i64)), .o (.o (.i .i64))])], [], []⟩
noncomputable def tI_natMul (x0 : SlV) (x1 : SlV) : T :=
  .rq ((0 : Int) ≤ Go.IntKind.i64.wrap (Go.IntKind.i64.wrap ((↑x0.n : Int) + (↑x1.n : Int)) + (1 : Int)) ∧ Go.IntKind.i64.wrap (Go.IntKind.i64.wrap ((↑x0.n : Int) + (↑x1.n : Int)) + (1 : Int)) ≤ Go.IntKind.i64.wrap (Go.IntKind.i64.wrap ((↑x0.n : Int) + (↑x1.n : Int)) + (1 : Int)) ∧ (↑(8 : Nat) : Int) * Go.IntKind.i64.wrap (Go.IntKind.i64.wrap ((↑x0.n : Int) + (↑x1.n : Int)) + (1 : Int)) ≤ (281474976710656 : Int) ∧ Go.IntKind.i64.wrap (Go.IntKind.i64.wrap ((↑x0.n : Int) + (↑x1.n : Int)) + (1 : Int)) ≤ (9223372036854775807 : Int)) <|
  .lp [.a 3, .o (.o (.i .i64))] [.a 3 ((Go.IntKind.i64.wrap (Go.IntKind.i64.wrap ((↑x0.n : Int) + (↑x1.n : Int)) + (1 : Int))).toNat) ((Go.madeCells { toList := [Go.Value.int Go.IntKind.i64 (0 : Int)] : Array Go.Value } ((Go.IntKind.i64.wrap (Go.IntKind.i64.wrap ((↑x0.n : Int) + (↑x1.n : Int)) + (1 : Int))).toNat * (1 : Nat))).toList), .v (.int .i64 ((0 : Int)))] fun y1 =>
  .br (decide (y1.2.fst < (↑x0.n : Int))) (
    .el (x0.a) (x0.n) (y1.2.fst) fun y2 =>
    .ld false (y2.add (Int.toNat y1.2.fst * (1 : Nat))) (.o (.i .i64)) fun y3 =>
    .lp [.a 3, .o (.o (.i .i64)), .o (.o (.i .i64))] [.a 3 (y1.1.fst) (y1.1.snd), .v (.int .i64 ((0 : Int))), .v (.int .i64 ((0 : Int)))] fun y4 =>
    .br (decide (y4.2.2.fst < (↑x1.n : Int))) (
      .el (x1.a) (x1.n) (y4.2.2.fst) fun y5 =>
      .ld false (y5.add (Int.toNat y4.2.2.fst * (1 : Nat))) (.o (.i .i64)) fun y6 =>
      .rq ((0 : Int) ≤ Go.IntKind.i64.wrap (y1.2.fst + y4.2.2.fst) ∧ Go.IntKind.i64.wrap (y1.2.fst + y4.2.2.fst) < (↑y4.1.fst : Int)) <|
      .xs (y4.1.snd) ((Go.IntKind.i64.wrap (y1.2.fst + y4.2.2.fst)).toNat * (1 : Nat)) (.o (.i .i64)) fun y7 =>
      .rq ((1000000000 : Int) ≠ (0 : Int)) <|
      .rq ((0 : Int) ≤ Go.IntKind.i64.wrap (y1.2.fst + y4.2.2.fst) ∧ Go.IntKind.i64.wrap (y1.2.fst + y4.2.2.fst) < (↑y4.1.fst : Int)) <|
      .rq ((Go.IntKind.i64.wrap (y1.2.fst + y4.2.2.fst)).toNat * (1 : Nat) + [Go.Value.int Go.IntKind.i64 ((Go.IntKind.i64.wrap (y4.2.fst + Go.IntKind.i64.wrap (y7 + Go.IntKind.i64.wrap (y3 * y6)))).tmod (1000000000 : Int))].length ≤ y4.1.snd.length) <|
      .rq ((1000000000 : Int) ≠ (0 : Int)) <|
      .nx 1 [.a 3 (y4.1.fst) (setl y4.1.snd ((Go.IntKind.i64.wrap (y1.2.fst + y4.2.2.fst)).toNat * (1 : Nat)) [Go.Value.int Go.IntKind.i64 ((Go.IntKind.i64.wrap (y4.2.fst + Go.IntKind.i64.wrap (y7 + Go.IntKind.i64.wrap (y3 * y6)))).tmod (1000000000 : Int))]), .v (.int .i64 (Go.IntKind.i64.wrap ((Go.IntKind.i64.wrap (y4.2.fst + Go.IntKind.i64.wrap (y7 + Go.IntKind.i64.wrap (y3 * y6)))).tdiv (1000000000 : Int)))), .v (.int .i64 (Go.IntKind.i64.wrap (y4.2.2.fst + (1 : Int))))]) <|
    .lp [.a 3, .o (.o (.i .i64)), .o (.o (.i .i64))] [.a 3 (y4.1.fst) (y4.1.snd), .v (.int .i64 (y4.2.fst)), .v (.int .i64 (Go.IntKind.i64.wrap (y1.2.fst + (↑x1.n : Int))))] fun y5 =>
    .br (decide (y5.2.fst > (0 : Int))) (
      .rq ((0 : Int) ≤ y5.2.2.fst ∧ y5.2.2.fst < (↑y5.1.fst : Int)) <|
      .xs (y5.1.snd) (Int.toNat y5.2.2.fst * (1 : Nat)) (.o (.i .i64)) fun y6 =>
      .rq ((1000000000 : Int) ≠ (0 : Int)) <|
      .rq ((0 : Int) ≤ y5.2.2.fst ∧ y5.2.2.fst < (↑y5.1.fst : Int)) <|
      .rq (Int.toNat y5.2.2.fst * (1 : Nat) + [Go.Value.int Go.IntKind.i64 ((Go.IntKind.i64.wrap (y5.2.fst + y6)).tmod (1000000000 : Int))].length ≤ y5.1.snd.length) <|
      .rq ((1000000000 : Int) ≠ (0 : Int)) <|
      .nx 2 [.a 3 (y5.1.fst) (setl y5.1.snd (Int.toNat y5.2.2.fst * (1 : Nat)) [Go.Value.int Go.IntKind.i64 ((Go.IntKind.i64.wrap (y5.2.fst + y6)).tmod (1000000000 : Int))]), .v (.int .i64 (Go.IntKind.i64.wrap ((Go.IntKind.i64.wrap (y5.2.fst + y6)).tdiv (1000000000 : Int)))), .v (.int .i64 (Go.IntKind.i64.wrap (y5.2.2.fst + (1 : Int))))]) <|
    .nx 0 [.a 3 (y5.1.fst) (y5.1.snd), .v (.int .i64 (Go.IntKind.i64.wrap (y1.2.fst + (1 : Int))))]) <|
  .fz (y1.1.fst) (y1.1.snd) 3 fun b2 c2 =>
  .call false 136 [.slice (some { block := b2, off := (0 : Nat) : Go.Addr }) (y1.1.fst) (c2)] (.v (.o (.l))) fun y3 =>
  .ret [Sc.val .l (y3)]
theorem fI_natMul (x0 : SlV) (x1 : SlV) : fits Tryz.prog aI_natMul 134 [Sc.val .l (x0), Sc.val .l (x1)] (tI_natMul x0 x1) :=
  ⟨Tryz.f134, Tryz.f134.body.getD .skip, by kernel_rfl, by kernel_rfl, by kernel_rfl, by kernel_rfl, by kernel_rfl, by kernel_rfl⟩
/-! loop.example/g00793/impl.divStep -/
def aI_divStep : An := ⟨[(4, [.s 7], [.o (.o (.i .i64))])], [], []⟩
noncomputable def tI_divStep (x0 : SlV) (x1 : SlV) : T :=
  .rg <|
  .el (x0.a) (x0.n) ((↑x1.n : Int)) fun y1 =>
  .ld true (y1.add ((↑x1.n : Int).toNat * (1 : Nat))) (.o (.i .i64)) fun y2 =>
  .el (x0.a) (x0.n) (Go.IntKind.i64.wrap ((↑x1.n : Int) - (1 : Int))) fun y3 =>
  .ld true (y3.add ((Go.IntKind.i64.wrap ((↑x1.n : Int) - (1 : Int))).toNat * (1 : Nat))) (.o (.i .i64)) fun y4 =>
  .el (x1.a) (x1.n) (Go.IntKind.i64.wrap ((↑x1.n : Int) - (1 : Int))) fun y5 =>
  .ld false (y5.add ((Go.IntKind.i64.wrap ((↑x1.n : Int) - (1 : Int))).toNat * (1 : Nat))) (.o (.i .i64)) fun y6 =>
  .rq (y6 ≠ (0 : Int)) <|
  .lp [.o (.o (.i .i64))] [.v (.int .i64 (if (999999999 : Int) < Go.IntKind.i64.wrap ((Go.IntKind.i64.wrap (Go.IntKind.i64.wrap (y2 * (1000000000 : Int)) + y4)).tdiv y6) then (999999999 : Int) else Go.IntKind.i64.wrap ((Go.IntKind.i64.wrap (Go.IntKind.i64.wrap (y2 * (1000000000 : Int)) + y4)).tdiv y6)))] fun y7 =>
  .rg <|
  .br (decide (y7.fst > (0 : Int))) (
    .el (x1.a) (x1.n) (Go.IntKind.i64.wrap ((↑x1.n : Int) - (1 : Int))) fun y8 =>
    .ld true (y8.add ((Go.IntKind.i64.wrap ((↑x1.n : Int) - (1 : Int))).toNat * (1 : Nat))) (.o (.i .i64)) fun y9 =>
    .br (decide (Go.IntKind.i64.wrap (Go.IntKind.i64.wrap (Go.IntKind.i64.wrap (y2 * (1000000000 : Int)) + y4) - Go.IntKind.i64.wrap (y7.fst * y9)) < (1000000000 : Int))) (
      .el (x1.a) (x1.n) (Go.IntKind.i64.wrap ((↑x1.n : Int) - (2 : Int))) fun y10 =>
      .ld true (y10.add ((Go.IntKind.i64.wrap ((↑x1.n : Int) - (2 : Int))).toNat * (1 : Nat))) (.o (.i .i64)) fun y11 =>
      .el (x1.a) (x1.n) (Go.IntKind.i64.wrap ((↑x1.n : Int) - (1 : Int))) fun y12 =>
      .ld true (y12.add ((Go.IntKind.i64.wrap ((↑x1.n : Int) - (1 : Int))).toNat * (1 : Nat))) (.o (.i .i64)) fun y13 =>
      .el (x0.a) (x0.n) (Go.IntKind.i64.wrap ((↑x1.n : Int) - (2 : Int))) fun y14 =>
      .ld true (y14.add ((Go.IntKind.i64.wrap ((↑x1.n : Int) - (2 : Int))).toNat * (1 : Nat))) (.o (.i .i64)) fun y15 =>
      .br (decide (Go.IntKind.i64.wrap (y7.fst * y11) > Go.IntKind.i64.wrap (Go.IntKind.i64.wrap (Go.IntKind.i64.wrap (Go.IntKind.i64.wrap (Go.IntKind.i64.wrap (y2 * (1000000000 : Int)) + y4) - Go.IntKind.i64.wrap (y7.fst * y13)) * (1000000000 : Int)) + y15))) (
        .nx 0 [.v (.int .i64 (Go.IntKind.i64.wrap (y7.fst - (1 : Int))))]) <|
      .call false 144 [Sc.val .l (x0), Sc.val .l (x1), .int .i64 (y7.fst)] (.v (.o (.b))) fun y16 =>
      .br (y16) (
        .call false 145 [Sc.val .l (x0), Sc.val .l (x1)] (.t []) fun _ =>
        .ret [.int .i64 (Go.IntKind.i64.wrap (y7.fst - (1 : Int)))]) <|
      .ret [.int .i64 (y7.fst)]) <|
    .call false 144 [Sc.val .l (x0), Sc.val .l (x1), .int .i64 (y7.fst)] (.v (.o (.b))) fun y10 =>
    .br (y10) (
      .call false 145 [Sc.val .l (x0), Sc.val .l (x1)] (.t []) fun _ =>
      .ret [.int .i64 (Go.IntKind.i64.wrap (y7.fst - (1 : Int)))]) <|
    .ret [.int .i64 (y7.fst)]) <|
  .call false 144 [Sc.val .l (x0), Sc.val .l (x1), .int .i64 (y7.fst)] (.v (.o (.b))) fun y8 =>
  .br (y8) (
    .call false 145 [Sc.val .l (x0), Sc.val .l (x1)] (.t []) fun _ =>
    .ret [.int .i64 (Go.IntKind.i64.wrap (y7.fst - (1 : Int)))]) <|
  .ret [.int .i64 (y7.fst)]
theorem fI_divStep (x0 : SlV) (x1 : SlV) : fits Tryz.prog aI_divStep 135 [Sc.val .l (x0), Sc.val .l (x1)] (tI_divStep x0 x1) :=
  ⟨Tryz.f135, Tryz.f135.body.getD .skip, by kernel_rfl, by kernel_rfl, by kernel_rfl, by kernel_rfl, by kernel_rfl, by kernel_rfl⟩
/-! loop.example/g00793/impl.trim -/
def aI_trim : An := ⟨[(1, [.s 0], [.o (.o (.l))])], [], []⟩
noncomputable def tI_trim (x0 : SlV) : T :=
  .lp [.o (.o (.l))] [.v (Sc.val .l (x0))] fun y1 =>
  .br (decide ((↑y1.1.n : Int) > (0 : Int))) (
    .el (y1.1.a) (y1.1.n) (Go.IntKind.i64.wrap ((↑y1.1.n : Int) - (1 : Int))) fun y2 =>
    .ld false (y2.add ((Go.IntKind.i64.wrap ((↑y1.1.n : Int) - (1 : Int))).toNat * (1 : Nat))) (.o (.i .i64)) fun y3 =>
    .br (y3 == (0 : Int)) (
      .rq ((0 : Int) ≤ (0 : Int) ∧ (0 : Int) ≤ Go.IntKind.i64.wrap ((↑y1.1.n : Int) - (1 : Int)) ∧ Go.IntKind.i64.wrap ((↑y1.1.n : Int) - (1 : Int)) ≤ (↑y1.1.c : Int) ∧ (↑y1.1.c : Int) ≤ (↑y1.1.c : Int)) <|
      .nx 0 [.v (.slice (if (↑y1.1.c : Int).toNat = Int.toNat (0 : Int) then y1.1.a else Option.map (fun x => x.add (Int.toNat (0 : Int) * Go.Proofs.Tryz.prog.types[(3 : Nat)].size)) y1.1.a) ((Go.IntKind.i64.wrap ((↑y1.1.n : Int) - (1 : Int))).toNat - Int.toNat (0 : Int)) ((↑y1.1.c : Int).toNat - Int.toNat (0 : Int)))]) <|
    .ret [Sc.val .l (y1.1)]) <|
  .ret [Sc.val .l (y1.1)]
theorem fI_trim (x0 : SlV) : fits Tryz.prog aI_trim 136 [Sc.val .l (x0)] (tI_trim x0) :=
  ⟨Tryz.f136, Tryz.f136.body.getD .skip, by kernel_rfl, by kernel_rfl, by kernel_rfl, by kernel_rfl, by kernel_rfl, by kernel_rfl⟩
/-! loop.example/g00793/impl.natOf -/
def aI_natOf : An := ⟨[(2, [.s 0, .s 3], [.o (.o (.i .u64)), .a 3])], [], []⟩
noncomputable def tI_natOf (x0 : Int) : T :=
  .lp [.o (.o (.i .u64)), .a 3] [.v (.int .u64 (x0)), .a 3 ((0 : Nat)) []] fun y1 =>
  .br (decide (y1.fst > (0 : Int))) (
    .rq ((1000000000 : Int) ≠ (0 : Int)) <|
    .rq ([Go.Value.int Go.IntKind.i64 (Go.IntKind.i64.wrap (Int.tmod y1.fst (1000000000 : Int)))].length = (1 : Nat) * (1 : Nat)) <|
    .rq (one [Go.Value.int Go.IntKind.i64 (Go.IntKind.i64.wrap (Int.tmod y1.fst (1000000000 : Int)))] = true ∧ (y1.2.1.fst + (1 : Nat)) * (8 : Nat) ≤ (140737488355328 : Nat) ∧ y1.2.1.fst + (1 : Nat) ≤ (9223372036854775807 : Nat)) <|
    .rq ((1000000000 : Int) ≠ (0 : Int)) <|
    .nx 0 [.v (.int .u64 (Go.IntKind.u64.wrap (Int.tdiv y1.fst (1000000000 : Int)))), .a 3 (y1.2.1.fst + (1 : Nat)) (y1.2.1.snd ++ [Go.Value.int Go.IntKind.i64 (Go.IntKind.i64.wrap (Int.tmod y1.fst (1000000000 : Int)))])]) <|
  .fz (y1.2.1.fst) (y1.2.1.snd) 3 fun b2 c2 =>
  .ret [.slice (some { block := b2, off := (0 : Nat) : Go.Addr }) (y1.2.1.fst) (c2)]
theorem fI_natOf (x0 : Int) : fits Tryz.prog aI_natOf 143 [.int .u64 (x0)] (tI_natOf x0) :=
  ⟨Tryz.f143, Tryz.f143.body.getD .skip, by kernel_rfl, by kernel_rfl, by kernel_rfl, by kernel_rfl, by kernel_rfl, by kernel_rfl⟩
/-! loop.example/g00793/impl.subTimes -/
def aI_subTimes : An := ⟨[(3, [.s 0, .s 7, .s 13], [.o (.o (.l)), .o (.o (.i .i64)), .o (.o (.i .i64))])], [], []⟩
noncomputable def tI_subTimes (x0 : SlV) (x1 : SlV) (x2 : Int) : T :=
  .lp [.o (.o (.l)), .o (.o (.i .i64)), .o (.o (.i .i64))] [.v (Sc.val .l (x0)), .v (.int .i64 ((0 : Int))), .v (.int .i64 ((0 : Int)))] fun y1 =>
  .br (decide (y1.2.2.fst < (↑x1.n : Int))) (
    .el (x1.a) (x1.n) (y1.2.2.fst) fun y2 =>
    .ld false (y2.add (Int.toNat y1.2.2.fst * (1 : Nat))) (.o (.i .i64)) fun y3 =>
    .el (y1.1.a) (y1.1.n) (y1.2.2.fst) fun y4 =>
    .ld false (y4.add (Int.toNat y1.2.2.fst * (1 : Nat))) (.o (.i .i64)) fun y5 =>
    .br (decide (Go.IntKind.i64.wrap (Go.IntKind.i64.wrap (y5 - Go.IntKind.i64.wrap (y3 * x2)) - y1.2.fst) < (0 : Int))) (
      .rq ((1000000000 : Int) ≠ (0 : Int)) <|
      .el (y1.1.a) (y1.1.n) (y1.2.2.fst) fun y6 =>
      .st (y6.add (Int.toNat y1.2.2.fst * (1 : Nat))) [.int .i64 (Go.IntKind.i64.wrap (Go.IntKind.i64.wrap (Go.IntKind.i64.wrap (y5 - Go.IntKind.i64.wrap (y3 * x2)) - y1.2.fst) + Go.IntKind.i64.wrap (Go.IntKind.i64.wrap ((Go.IntKind.i64.wrap (Go.IntKind.i64.wrap (Go.IntKind.i64.wrap ((0 : Int) - Go.IntKind.i64.wrap (Go.IntKind.i64.wrap (y5 - Go.IntKind.i64.wrap (y3 * x2)) - y1.2.fst)) + (1000000000 : Int)) - (1 : Int))).tdiv (1000000000 : Int)) * (1000000000 : Int))))] <|
      .nx 0 [.v (Sc.val .l (y1.1)), .v (.int .i64 (Go.IntKind.i64.wrap ((Go.IntKind.i64.wrap (Go.IntKind.i64.wrap (Go.IntKind.i64.wrap ((0 : Int) - Go.IntKind.i64.wrap (Go.IntKind.i64.wrap (y5 - Go.IntKind.i64.wrap (y3 * x2)) - y1.2.fst)) + (1000000000 : Int)) - (1 : Int))).tdiv (1000000000 : Int)))), .v (.int .i64 (Go.IntKind.i64.wrap (y1.2.2.fst + (1 : Int))))]) <|
    .el (y1.1.a) (y1.1.n) (y1.2.2.fst) fun y6 =>
    .st (y6.add (Int.toNat y1.2.2.fst * (1 : Nat))) [.int .i64 (Go.IntKind.i64.wrap (Go.IntKind.i64.wrap (y5 - Go.IntKind.i64.wrap (y3 * x2)) - y1.2.fst))] <|
    .nx 0 [.v (Sc.val .l (y1.1)), .v (.int .i64 ((0 : Int))), .v (.int .i64 (Go.IntKind.i64.wrap (y1.2.2.fst + (1 : Int))))]) <|
  .el (y1.1.a) (y1.1.n) ((↑x1.n : Int)) fun y2 =>
  .ld false (y2.add ((↑x1.n : Int).toNat * (1 : Nat))) (.o (.i .i64)) fun y3 =>
  .el (y1.1.a) (y1.1.n) ((↑x1.n : Int)) fun y4 =>
  .st (y4.add ((↑x1.n : Int).toNat * (1 : Nat))) [.int .i64 (Go.IntKind.i64.wrap (y3 - y1.2.fst))] <|
  .el (y1.1.a) (y1.1.n) ((↑x1.n : Int)) fun y5 =>
  .ld false (y5.add ((↑x1.n : Int).toNat * (1 : Nat))) (.o (.i .i64)) fun y6 =>
  .ret [.bool (decide (y6 < (0 : Int)))]
theorem fI_subTimes (x0 : SlV) (x1 : SlV) (x2 : Int) : fits Tryz.prog aI_subTimes 144 [Sc.val .l (x0), Sc.val .l (x1), .int .i64 (x2)] (tI_subTimes x0 x1 x2) :=
  ⟨Tryz.f144, Tryz.f144.body.getD .skip, by kernel_rfl, by kernel_rfl, by kernel_rfl, by kernel_rfl, by kernel_rfl, by kernel_rfl⟩
/-! loop.example/g00793/impl.addBack -/
def aI_addBack : An := ⟨[(2, [.s 0, .s 4, .s 9], [.o (.o (.l)), .o (.o (.i .i64)), .o (.o (.i .i64))])], [], []⟩
noncomputable def tI_addBack (x0 : SlV) (x1 : SlV) : T :=
  .lp [.o (.o (.l)), .o (.o (.i .i64)), .o (.o (.i .i64))] [.v (Sc.val .l (x0)), .v (.int .i64 ((0 : Int))), .v (.int .i64 ((0 : Int)))] fun y1 =>
  .br (decide (y1.2.2.fst < (↑x1.n : Int))) (
    .el (x1.a) (x1.n) (y1.2.2.fst) fun y2 =>
    .ld false (y2.add (Int.toNat y1.2.2.fst * (1 : Nat))) (.o (.i .i64)) fun y3 =>
    .el (y1.1.a) (y1.1.n) (y1.2.2.fst) fun y4 =>
    .ld false (y4.add (Int.toNat y1.2.2.fst * (1 : Nat))) (.o (.i .i64)) fun y5 =>
    .rq ((1000000000 : Int) ≠ (0 : Int)) <|
    .el (y1.1.a) (y1.1.n) (y1.2.2.fst) fun y6 =>
    .st (y6.add (Int.toNat y1.2.2.fst * (1 : Nat))) [.int .i64 ((Go.IntKind.i64.wrap (y1.2.fst + Go.IntKind.i64.wrap (y5 + y3))).tmod (1000000000 : Int))] <|
    .rq ((1000000000 : Int) ≠ (0 : Int)) <|
    .nx 0 [.v (Sc.val .l (y1.1)), .v (.int .i64 (Go.IntKind.i64.wrap ((Go.IntKind.i64.wrap (y1.2.fst + Go.IntKind.i64.wrap (y5 + y3))).tdiv (1000000000 : Int)))), .v (.int .i64 (Go.IntKind.i64.wrap (y1.2.2.fst + (1 : Int))))]) <|
  .el (y1.1.a) (y1.1.n) ((↑x1.n : Int)) fun y2 =>
  .ld false (y2.add ((↑x1.n : Int).toNat * (1 : Nat))) (.o (.i .i64)) fun y3 =>
  .el (y1.1.a) (y1.1.n) ((↑x1.n : Int)) fun y4 =>
  .st (y4.add ((↑x1.n : Int).toNat * (1 : Nat))) [.int .i64 (Go.IntKind.i64.wrap (y3 + y1.2.fst))] <|
  .ret []
theorem fI_addBack (x0 : SlV) (x1 : SlV) : fits Tryz.prog aI_addBack 145 [Sc.val .l (x0), Sc.val .l (x1)] (tI_addBack x0 x1) :=
  ⟨Tryz.f145, Tryz.f145.body.getD .skip, by kernel_rfl, by kernel_rfl, by kernel_rfl, by kernel_rfl, by kernel_rfl, by kernel_rfl⟩
end Go.Proofs.YtfnijcedeeombaaGreatDoor
