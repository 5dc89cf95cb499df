/-
  What each function of the seat comes to, as a tree; each tree is checked against the code.
-/
import Derived.Test.YtikhpnlglkipcaaGreatDoorEngD
import Derived.Test.YtikhpnlglkipcaaGreatDoorChecked
import Derived.KernelRfl
namespace Go.Proofs.YtikhpnlglkipcaaGreatDoor
open Sx
set_option maxRecDepth 100000
abbrev gL_FnExactTotalOf : Nat := 3
abbrev gL_szLedger : Nat := 4
abbrev gS_TotalOf : Nat := 5
abbrev gL_toLedger : Nat := 6
abbrev gI_TotalOf : Nat := 7
abbrev gL_eqRat : Nat := 8
abbrev gL_eqLedger : Nat := 9
abbrev gL_markLedger : Nat := 10
abbrev gL_markRat : Nat := 11
abbrev gL_heldRat : Nat := 12
abbrev gL_szBook : Nat := 13
abbrev gL_szRestS : Nat := 14
abbrev gL_szRates : Nat := 15
abbrev gS_LedgerOk : Nat := 16
abbrev gS_RatInt : Nat := 17
abbrev gS_BookSum : Nat := 18
abbrev gS_RatAdd : Nat := 19
abbrev gS_RestOf : Nat := 20
abbrev gL_toBook : Nat := 21
abbrev gL_toRestS : Nat := 22
abbrev gL_toRates : Nat := 23
abbrev gI_LedgerOk : Nat := 24
abbrev gI_totalOf : Nat := 25
abbrev gL_eqSigned : Nat := 26
abbrev gL_eqIntS : Nat := 27
abbrev gL_eqBook : Nat := 28
abbrev gL_eqRestS : Nat := 29
abbrev gL_eqRates : Nat := 30
abbrev gL_markBook : Nat := 31
abbrev gL_markRestS : Nat := 32
abbrev gL_markRates : Nat := 33
abbrev gL_markSigned : Nat := 34
abbrev gL_markIntS : Nat := 35
abbrev gL_heldSigned : Nat := 36
abbrev gL_heldIntS : Nat := 37
abbrev gL_szAcctS : Nat := 38
abbrev gL_szRest : Nat := 39
abbrev gL_szRateS : Nat := 40
abbrev gS_BookOk : Nat := 41
abbrev gS_RestsOk : Nat := 42
abbrev gS_RatesOk : Nat := 43
abbrev gS_RatMake : Nat := 44
abbrev gS_IntOf : Nat := 45
abbrev gS_IntAdd : Nat := 46
abbrev gS_RatOk : Nat := 47
abbrev gS_l04Make : Nat := 48
abbrev gS_l02Mul : Nat := 49
abbrev gS_l04Add : Nat := 50
abbrev gS_l05Low : Nat := 51
abbrev gS_l19Rat : Nat := 52
abbrev gS_RatZero : Nat := 53
abbrev gL_toAcctS : Nat := 54
abbrev gL_toRest : Nat := 55
abbrev gL_toRateS : Nat := 56
abbrev gI_BookOk : Nat := 57
abbrev gI_RestsOk : Nat := 58
abbrev gI_RatesOk : Nat := 59
abbrev gI_RatInt : Nat := 60
abbrev gI_BookSum : Nat := 61
abbrev gI_RatAdd : Nat := 62
abbrev gI_RestOf : Nat := 63
abbrev gL_eqAcctS : Nat := 64
abbrev gL_eqRest : Nat := 65
abbrev gL_eqRateS : Nat := 66
abbrev gL_markAcctS : Nat := 67
abbrev gL_markText : Nat := 68
abbrev gL_markRateS : Nat := 69
abbrev gL_szAcct : Nat := 70
abbrev gL_szRat : Nat := 71
abbrev gL_szRate : Nat := 72
abbrev gS_IsWord : Nat := 73
abbrev gS_MoneyOk : Nat := 74
abbrev gS_CurKnown : Nat := 75
abbrev gS_RatSign : Nat := 76
abbrev gS_RateOk : Nat := 77
abbrev gS_l10At : Nat := 78
abbrev gS_IntOk : Nat := 79
abbrev gS_NatOf : Nat := 80
abbrev gS_NatOk : Nat := 81
abbrev gS_l02Cmp : Nat := 82
abbrev gS_NatGcd : Nat := 83
abbrev gS_l02Cap : Nat := 84
abbrev gS_l02Trim : Nat := 85
abbrev gS_l02Add : Nat := 86
abbrev gS_l02Sub : Nat := 87
abbrev gS_l05Gcd : Nat := 88
abbrev gS_l03Div : Nat := 89
abbrev gL_toAcct : Nat := 90
abbrev gL_toRat : Nat := 91
abbrev gL_toRate : Nat := 92
abbrev gI_IsWord : Nat := 93
abbrev gI_MoneyOk : Nat := 94
abbrev gI_CurKnown : Nat := 95
abbrev gI_RatOk : Nat := 96
abbrev gI_RatSign : Nat := 97
abbrev gI_RateOk : Nat := 98
abbrev gI_RatMake : Nat := 99
abbrev gI_IntOf : Nat := 100
abbrev gI_intAdd : Nat := 101
abbrev gI_ratsOk : Nat := 102
abbrev gI_Rat__num : Nat := 103
abbrev gI_reduce : Nat := 104
abbrev gI_natMul : Nat := 105
abbrev gI_ratCopy : Nat := 106
abbrev gI_RatZero : Nat := 107
abbrev gL_eqAcct : Nat := 108
abbrev gL_eqRate : Nat := 109
abbrev gL_szMoney : Nat := 110
abbrev gL_szSigned : Nat := 111
abbrev gL_szIntS : Nat := 112
abbrev gL_szDec : Nat := 113
abbrev gS_l01All : Nat := 114
abbrev gS_l08Find : Nat := 115
abbrev gS_RatCmp : Nat := 116
abbrev gS_DecOk : Nat := 117
abbrev gS_IntSign : Nat := 118
abbrev gS_l01In : Nat := 119
abbrev gS_l03Small : Nat := 120
abbrev gS_l03Digit : Nat := 121
abbrev gL_toMoney : Nat := 122
abbrev gL_toSigned : Nat := 123
abbrev gL_toIntS : Nat := 124
abbrev gL_toDec : Nat := 125
abbrev gI_isLower : Nat := 126
abbrev gI_isDigit : Nat := 127
abbrev gI_IntOk : Nat := 128
abbrev gI_currencyOf : Nat := 129
abbrev gI_NatOk : Nat := 130
abbrev gI_natGcd : Nat := 131
abbrev gI_intSign : Nat := 132
abbrev gI_DecOk : Nat := 133
abbrev gI_intsOk : Nat := 134
abbrev gI_signed : Nat := 135
abbrev gI_natOf : Nat := 136
abbrev gI_natAdd : Nat := 137
abbrev gI_natCmp : Nat := 138
abbrev gI_natSub : Nat := 139
abbrev gI_natDiv : Nat := 140
abbrev gI_trim : Nat := 141
abbrev gI_intCopy : Nat := 142
abbrev gI_natCopy : Nat := 143
abbrev gL_eqMoney : Nat := 144
abbrev gL_eqDec : Nat := 145
abbrev gS_l08Table : Nat := 146
abbrev gS_IntCmp : Nat := 147
abbrev gI_isScale : Nat := 148
abbrev gI_natSmall : Nat := 149
abbrev gI_NatOf : Nat := 150
abbrev gI_divStep : Nat := 151
abbrev gI_subTimes : Nat := 152
abbrev gI_addBack : Nat := 153
/-! loop.example/g00793/laws.FnExactTotalOf -/
def aL_FnExactTotalOf : An := ⟨[], [], []⟩
noncomputable def tL_FnExactTotalOf (x0 : SlV × SlV × ByteArray × SlV × PUnit) (x1 : ByteArray) : T :=
  .br (decide ((↑x1.size : Int) > (1048576 : Int))) (
    .ret [.bool (true)]) <|
  .call false 4 [Sh1.val (.g [.l, .l, .s, .l]) (x0), .int .i64 ((1048576 : Int))] (.v (.o (.i .i64))) fun y1 =>
  .br (decide (y1 < (0 : Int))) (
    .ret [.bool (true)]) <|
  .call false 6 [Sh1.val (.g [.l, .l, .s, .l]) (x0)] (.v (.g [.l, .l, .s, .l])) fun y2 =>
  .call false 5 [Sh1.val (.g [.l, .l, .s, .l]) (y2), .string (x1)] (.t [(.g [.b, .l, .l]), (.o (.b))]) fun y3 =>
  .call false 6 [Sh1.val (.g [.l, .l, .s, .l]) (x0)] (.v (.g [.l, .l, .s, .l])) fun y4 =>
  .call false 7 [Sh1.val (.g [.l, .l, .s, .l]) (y4), .string (x1)] (.t [(.g [.b, .l, .l]), (.o (.b))]) fun y5 =>
  .call false 8 [Sh1.val (.g [.b, .l, .l]) (y5.1), Sh1.val (.g [.b, .l, .l]) (y3.1)] (.v (.o (.b))) fun y6 =>
  .br (!y6) (
    .ret [.bool (false)]) <|
  .br (!y5.2.fst == y3.2.fst) (
    .ret [.bool (false)]) <|
  .rg <|
  .call true 6 [Sh1.val (.g [.l, .l, .s, .l]) (x0)] (.v (.g [.l, .l, .s, .l])) fun y7 =>
  .call true 9 [Sh1.val (.g [.l, .l, .s, .l]) (y4), Sh1.val (.g [.l, .l, .s, .l]) (y7)] (.v (.o (.b))) fun y8 =>
  .br (!y8) (
    .ret [.bool (false)]) <|
  .call false 10 [Sh1.val (.g [.l, .l, .s, .l]) (y4), .int .i64 ((1 : Int))] (.v (.o (.i .i64))) fun y9 =>
  .br (decide (y9 < (0 : Int))) (
    .ret [.bool (false)]) <|
  .call false 8 [Sh1.val (.g [.b, .l, .l]) (y5.1), Sh1.val (.g [.b, .l, .l]) (y3.1)] (.v (.o (.b))) fun y10 =>
  .br (!y10) (
    .ret [.bool (false)]) <|
  .br (!y5.2.fst == y3.2.fst) (
    .ret [.bool (false)]) <|
  .call false 11 [Sh1.val (.g [.b, .l, .l]) (y5.1), .int .i64 ((1 : Int))] (.v (.o (.i .i64))) fun y11 =>
  .call false 12 [Sh1.val (.g [.b, .l, .l]) (y5.1), .int .i64 ((1 : Int))] (.v (.o (.i .i64))) fun y12 =>
  .br (decide (y12 < (0 : Int))) (
    .ret [.bool (false)]) <|
  .br (y12 != y11) (
    .ret [.bool (false)]) <|
  .call false 6 [Sh1.val (.g [.l, .l, .s, .l]) (x0)] (.v (.g [.l, .l, .s, .l])) fun y13 =>
  .call false 7 [Sh1.val (.g [.l, .l, .s, .l]) (y13), .string (x1)] (.t [(.g [.b, .l, .l]), (.o (.b))]) fun y14 =>
  .call false 8 [Sh1.val (.g [.b, .l, .l]) (y14.1), Sh1.val (.g [.b, .l, .l]) (y3.1)] (.v (.o (.b))) fun y15 =>
  .br (!y15) (
    .ret [.bool (false)]) <|
  .br (!y14.2.fst == y3.2.fst) (
    .ret [.bool (false)]) <|
  .call false 12 [Sh1.val (.g [.b, .l, .l]) (y5.1), .int .i64 ((1 : Int))] (.v (.o (.i .i64))) fun y16 =>
  .br (decide (y16 < (0 : Int))) (
    .ret [.bool (false)]) <|
  .br (y16 != y11) (
    .ret [.bool (false)]) <|
  .ret [.bool (true)]
theorem fL_FnExactTotalOf (x0 : SlV × SlV × ByteArray × SlV × PUnit) (x1 : ByteArray) : fits Tryz.prog aL_FnExactTotalOf 3 [Sh1.val (.g [.l, .l, .s, .l]) (x0), .string (x1)] (tL_FnExactTotalOf x0 x1) :=
  ⟨Tryz.f3, Tryz.f3.body.getD .skip, by kernel_rfl, by kernel_rfl, by kernel_rfl, by kernel_rfl, by kernel_rfl, by kernel_rfl⟩
/-! loop.example/g00793/laws.szLedger -/
def aL_szLedger : An := ⟨[], [], []⟩
noncomputable def tL_szLedger (x0 : SlV × SlV × ByteArray × SlV × PUnit) (x1 : Int) : T :=
  .call false 13 [Sh1.val (.g [.l]) (x0.1, ()), .int .i64 (x1)] (.v (.o (.i .i64))) fun y1 =>
  .br (decide (y1 < (0 : Int))) (
    .ret [.int .i64 ((-1 : Int))]) <|
  .call false 14 [Sc.val .l (x0.2.1), .int .i64 (y1)] (.v (.o (.i .i64))) fun y2 =>
  .br (decide (y2 < (0 : Int))) (
    .ret [.int .i64 ((-1 : Int))]) <|
  .call false 15 [Sh1.val (.g [.s, .l]) (x0.2.2), .int .i64 (y2)] (.v (.o (.i .i64))) fun y3 =>
  .br (decide (y3 < (0 : Int))) (
    .ret [.int .i64 ((-1 : Int))]) <|
  .ret [.int .i64 (y3)]
theorem fL_szLedger (x0 : SlV × SlV × ByteArray × SlV × PUnit) (x1 : Int) : fits Tryz.prog aL_szLedger 4 [Sh1.val (.g [.l, .l, .s, .l]) (x0), .int .i64 (x1)] (tL_szLedger x0 x1) :=
  ⟨Tryz.f4, Tryz.f4.body.getD .skip, by kernel_rfl, by kernel_rfl, by kernel_rfl, by kernel_rfl, by kernel_rfl, by kernel_rfl⟩
/-! loop.example/g00793/spec.TotalOf -/
def aS_TotalOf : An := ⟨[], [], []⟩
noncomputable def tS_TotalOf (x0 : SlV × SlV × ByteArray × SlV × PUnit) (x1 : ByteArray) : T :=
  .call false 16 [Sh1.val (.g [.l, .l, .s, .l]) (x0)] (.v (.o (.b))) fun y1 =>
  .br (!y1) (
    .ret [Sh1.val (.g [.b, .l, .l]) ((false), (⟨(none), ((0 : Nat)), ((0 : Nat))⟩ : SlV), (⟨(none), ((0 : Nat)), ((0 : Nat))⟩ : SlV), ()), .bool (false)]) <|
  .call false 18 [Sh1.val (.g [.l]) (x0.1, ()), .string (x1)] (.v (.g [.b, .l])) fun y2 =>
  .call false 17 [Sh1.val (.g [.b, .l]) (y2)] (.t [(.g [.b, .l, .l]), (.o (.b))]) fun y3 =>
  .br (!y3.2.fst) (
    .ret [Sh1.val (.g [.b, .l, .l]) ((false), (⟨(none), ((0 : Nat)), ((0 : Nat))⟩ : SlV), (⟨(none), ((0 : Nat)), ((0 : Nat))⟩ : SlV), ()), .bool (false)]) <|
  .rg <|
  .call true 20 [Sc.val .l (x0.2.1), .string (x1)] (.v (.g [.b, .l, .l])) fun y4 =>
  .call true 19 [Sh1.val (.g [.b, .l, .l]) (y3.1), Sh1.val (.g [.b, .l, .l]) (y4)] (.t [(.g [.b, .l, .l]), (.o (.b))]) fun y5 =>
  .ret [Sh1.val (.g [.b, .l, .l]) (y5.1), .bool (y5.2.fst)]
theorem fS_TotalOf (x0 : SlV × SlV × ByteArray × SlV × PUnit) (x1 : ByteArray) : fits Tryz.prog aS_TotalOf 5 [Sh1.val (.g [.l, .l, .s, .l]) (x0), .string (x1)] (tS_TotalOf x0 x1) :=
  ⟨Tryz.f5, Tryz.f5.body.getD .skip, by kernel_rfl, by kernel_rfl, by kernel_rfl, by kernel_rfl, by kernel_rfl, by kernel_rfl⟩
/-! loop.example/g00793/laws.toLedger -/
def aL_toLedger : An := ⟨[], [], []⟩
noncomputable def tL_toLedger (x0 : SlV × SlV × ByteArray × SlV × PUnit) : T :=
  .call false 21 [Sh1.val (.g [.l]) (x0.1, ())] (.v (.g [.l])) fun y1 =>
  .call false 22 [Sc.val .l (x0.2.1)] (.v (.o (.l))) fun y2 =>
  .call false 23 [Sh1.val (.g [.s, .l]) (x0.2.2)] (.v (.g [.s, .l])) fun y3 =>
  .ret [Sh1.val (.g [.l, .l, .s, .l]) (y1.1, y2, (y3.fst), y3.2.1, ())]
theorem fL_toLedger (x0 : SlV × SlV × ByteArray × SlV × PUnit) : fits Tryz.prog aL_toLedger 6 [Sh1.val (.g [.l, .l, .s, .l]) (x0)] (tL_toLedger x0) :=
  ⟨Tryz.f6, Tryz.f6.body.getD .skip, by kernel_rfl, by kernel_rfl, by kernel_rfl, by kernel_rfl, by kernel_rfl, by kernel_rfl⟩
/-! loop.example/g00793/impl.TotalOf -/
def aI_TotalOf : An := ⟨[], [], []⟩
noncomputable def tI_TotalOf (x0 : SlV × SlV × ByteArray × SlV × PUnit) (x1 : ByteArray) : T :=
  .call false 24 [Sh1.val (.g [.l, .l, .s, .l]) (x0)] (.v (.o (.b))) fun y1 =>
  .br (!y1) (
    .ret [Sh1.val (.g [.b, .l, .l]) ((false), (⟨(none), ((0 : Nat)), ((0 : Nat))⟩ : SlV), (⟨(none), ((0 : Nat)), ((0 : Nat))⟩ : SlV), ()), .bool (false)]) <|
  .call false 25 [Sh1.val (.g [.l, .l, .s, .l]) (x0), .string (x1)] (.t [(.g [.b, .l, .l]), (.o (.b))]) fun y2 =>
  .ret [Sh1.val (.g [.b, .l, .l]) (y2.1), .bool (y2.2.fst)]
theorem fI_TotalOf (x0 : SlV × SlV × ByteArray × SlV × PUnit) (x1 : ByteArray) : fits Tryz.prog aI_TotalOf 7 [Sh1.val (.g [.l, .l, .s, .l]) (x0), .string (x1)] (tI_TotalOf x0 x1) :=
  ⟨Tryz.f7, Tryz.f7.body.getD .skip, by kernel_rfl, by kernel_rfl, by kernel_rfl, by kernel_rfl, by kernel_rfl, by kernel_rfl⟩
/-! loop.example/g00793/laws.eqRat -/
def aL_eqRat : An := ⟨[], [], []⟩
noncomputable def tL_eqRat (x0 : Bool × SlV × SlV × PUnit) (x1 : Bool × SlV × SlV × PUnit) : T :=
  .call false 26 [Sh1.val (.g [.b, .l]) ((x0.fst), x0.2.1, ()), Sh1.val (.g [.b, .l]) ((x1.fst), x1.2.1, ())] (.v (.o (.b))) fun y1 =>
  .br (!y1) (
    .ret [.bool (false)]) <|
  .call false 27 [Sc.val .l (x0.2.2.1), Sc.val .l (x1.2.2.1)] (.v (.o (.b))) fun y2 =>
  .br (!y2) (
    .ret [.bool (false)]) <|
  .ret [.bool (true)]
theorem fL_eqRat (x0 : Bool × SlV × SlV × PUnit) (x1 : Bool × SlV × SlV × PUnit) : fits Tryz.prog aL_eqRat 8 [Sh1.val (.g [.b, .l, .l]) (x0), Sh1.val (.g [.b, .l, .l]) (x1)] (tL_eqRat x0 x1) :=
  ⟨Tryz.f8, Tryz.f8.body.getD .skip, by kernel_rfl, by kernel_rfl, by kernel_rfl, by kernel_rfl, by kernel_rfl, by kernel_rfl⟩
/-! loop.example/g00793/laws.eqLedger -/
def aL_eqLedger : An := ⟨[], [], []⟩
noncomputable def tL_eqLedger (x0 : SlV × SlV × ByteArray × SlV × PUnit) (x1 : SlV × SlV × ByteArray × SlV × PUnit) : T :=
  .call false 28 [Sh1.val (.g [.l]) (x0.1, ()), Sh1.val (.g [.l]) (x1.1, ())] (.v (.o (.b))) fun y1 =>
  .br (!y1) (
    .ret [.bool (false)]) <|
  .call false 29 [Sc.val .l (x0.2.1), Sc.val .l (x1.2.1)] (.v (.o (.b))) fun y2 =>
  .br (!y2) (
    .ret [.bool (false)]) <|
  .call false 30 [Sh1.val (.g [.s, .l]) (x0.2.2), Sh1.val (.g [.s, .l]) (x1.2.2)] (.v (.o (.b))) fun y3 =>
  .br (!y3) (
    .ret [.bool (false)]) <|
  .ret [.bool (true)]
theorem fL_eqLedger (x0 : SlV × SlV × ByteArray × SlV × PUnit) (x1 : SlV × SlV × ByteArray × SlV × PUnit) : fits Tryz.prog aL_eqLedger 9 [Sh1.val (.g [.l, .l, .s, .l]) (x0), Sh1.val (.g [.l, .l, .s, .l]) (x1)] (tL_eqLedger x0 x1) :=
  ⟨Tryz.f9, Tryz.f9.body.getD .skip, by kernel_rfl, by kernel_rfl, by kernel_rfl, by kernel_rfl, by kernel_rfl, by kernel_rfl⟩
/-! loop.example/g00793/laws.markLedger -/
def aL_markLedger : An := ⟨[], [], []⟩
noncomputable def tL_markLedger (x0 : SlV × SlV × ByteArray × SlV × PUnit) (x1 : Int) : T :=
  .call false 31 [Sh1.val (.g [.l]) (x0.1, ()), .int .i64 (x1)] (.v (.o (.i .i64))) fun y1 =>
  .call false 32 [Sc.val .l (x0.2.1), .int .i64 (y1)] (.v (.o (.i .i64))) fun y2 =>
  .call false 33 [Sh1.val (.g [.s, .l]) (x0.2.2), .int .i64 (y2)] (.v (.o (.i .i64))) fun y3 =>
  .ret [.int .i64 (y3)]
theorem fL_markLedger (x0 : SlV × SlV × ByteArray × SlV × PUnit) (x1 : Int) : fits Tryz.prog aL_markLedger 10 [Sh1.val (.g [.l, .l, .s, .l]) (x0), .int .i64 (x1)] (tL_markLedger x0 x1) :=
  ⟨Tryz.f10, Tryz.f10.body.getD .skip, by kernel_rfl, by kernel_rfl, by kernel_rfl, by kernel_rfl, by kernel_rfl, by kernel_rfl⟩
/-! loop.example/g00793/laws.markRat -/
def aL_markRat : An := ⟨[], [], []⟩
noncomputable def tL_markRat (x0 : Bool × SlV × SlV × PUnit) (x1 : Int) : T :=
  .call false 34 [Sh1.val (.g [.b, .l]) ((x0.fst), x0.2.1, ()), .int .i64 (x1)] (.v (.o (.i .i64))) fun y1 =>
  .call false 35 [Sc.val .l (x0.2.2.1), .int .i64 (y1)] (.v (.o (.i .i64))) fun y2 =>
  .ret [.int .i64 (y2)]
theorem fL_markRat (x0 : Bool × SlV × SlV × PUnit) (x1 : Int) : fits Tryz.prog aL_markRat 11 [Sh1.val (.g [.b, .l, .l]) (x0), .int .i64 (x1)] (tL_markRat x0 x1) :=
  ⟨Tryz.f11, Tryz.f11.body.getD .skip, by kernel_rfl, by kernel_rfl, by kernel_rfl, by kernel_rfl, by kernel_rfl, by kernel_rfl⟩
/-! loop.example/g00793/laws.heldRat -/
def aL_heldRat : An := ⟨[], [], []⟩
noncomputable def tL_heldRat (x0 : Bool × SlV × SlV × PUnit) (x1 : Int) : T :=
  .call false 36 [Sh1.val (.g [.b, .l]) ((x0.fst), x0.2.1, ()), .int .i64 (x1)] (.v (.o (.i .i64))) fun y1 =>
  .br (decide (y1 < (0 : Int))) (
    .ret [.int .i64 ((-1 : Int))]) <|
  .call false 37 [Sc.val .l (x0.2.2.1), .int .i64 (y1)] (.v (.o (.i .i64))) fun y2 =>
  .br (decide (y2 < (0 : Int))) (
    .ret [.int .i64 ((-1 : Int))]) <|
  .ret [.int .i64 (y2)]
theorem fL_heldRat (x0 : Bool × SlV × SlV × PUnit) (x1 : Int) : fits Tryz.prog aL_heldRat 12 [Sh1.val (.g [.b, .l, .l]) (x0), .int .i64 (x1)] (tL_heldRat x0 x1) :=
  ⟨Tryz.f12, Tryz.f12.body.getD .skip, by kernel_rfl, by kernel_rfl, by kernel_rfl, by kernel_rfl, by kernel_rfl, by kernel_rfl⟩
/-! loop.example/g00793/laws.szBook -/
def aL_szBook : An := ⟨[], [], []⟩
noncomputable def tL_szBook (x0 : SlV × PUnit) (x1 : Int) : T :=
  .call false 38 [Sc.val .l (x0.1), .int .i64 (x1)] (.v (.o (.i .i64))) fun y1 =>
  .br (decide (y1 < (0 : Int))) (
    .ret [.int .i64 ((-1 : Int))]) <|
  .ret [.int .i64 (y1)]
theorem fL_szBook (x0 : SlV × PUnit) (x1 : Int) : fits Tryz.prog aL_szBook 13 [Sh1.val (.g [.l]) (x0), .int .i64 (x1)] (tL_szBook x0 x1) :=
  ⟨Tryz.f13, Tryz.f13.body.getD .skip, by kernel_rfl, by kernel_rfl, by kernel_rfl, by kernel_rfl, by kernel_rfl, by kernel_rfl⟩
/-! loop.example/g00793/laws.szRestS -/
def aL_szRestS : An := ⟨[(5, [.s 1, .s 5], [.o (.o (.i .i64)), .o (.o (.i .i64))])], [], []⟩
noncomputable def tL_szRestS (x0 : SlV) (x1 : Int) : T :=
  .br (decide (Go.IntKind.i64.wrap (x1 - (↑x0.n : Int)) < (0 : Int))) (
    .ret [.int .i64 ((-1 : Int))]) <|
  .lp [.o (.o (.i .i64)), .o (.o (.i .i64))] [.v (.int .i64 (Go.IntKind.i64.wrap (x1 - (↑x0.n : Int)))), .v (.int .i64 ((0 : Int)))] fun y1 =>
  .br (decide (y1.2.fst < (↑x0.n : Int))) (
    .el (x0.a) (x0.n) (y1.2.fst) fun y2 =>
    .ld false (y2.add (Int.toNat y1.2.fst * (4 : Nat))) (.g [.s, .b, .l, .l]) fun y3 =>
    .call false 39 [Sh1.val (.g [.s, .b, .l, .l]) (y3), .int .i64 (y1.fst)] (.v (.o (.i .i64))) fun y4 =>
    .br (decide (y4 < (0 : Int))) (
      .ret [.int .i64 ((-1 : Int))]) <|
    .nx 0 [.v (.int .i64 (y4)), .v (.int .i64 (Go.IntKind.i64.wrap (y1.2.fst + (1 : Int))))]) <|
  .ret [.int .i64 (y1.fst)]
theorem fL_szRestS (x0 : SlV) (x1 : Int) : fits Tryz.prog aL_szRestS 14 [Sc.val .l (x0), .int .i64 (x1)] (tL_szRestS x0 x1) :=
  ⟨Tryz.f14, Tryz.f14.body.getD .skip, by kernel_rfl, by kernel_rfl, by kernel_rfl, by kernel_rfl, by kernel_rfl, by kernel_rfl⟩
/-! loop.example/g00793/laws.szRates -/
def aL_szRates : An := ⟨[], [], []⟩
noncomputable def tL_szRates (x0 : ByteArray × SlV × PUnit) (x1 : Int) : T :=
  .br (decide (Go.IntKind.i64.wrap (x1 - (↑(ByteArray.size x0.fst) : Int)) < (0 : Int))) (
    .ret [.int .i64 ((-1 : Int))]) <|
  .call false 40 [Sc.val .l (x0.2.1), .int .i64 (Go.IntKind.i64.wrap (x1 - (↑(ByteArray.size x0.fst) : Int)))] (.v (.o (.i .i64))) fun y1 =>
  .br (decide (y1 < (0 : Int))) (
    .ret [.int .i64 ((-1 : Int))]) <|
  .ret [.int .i64 (y1)]
theorem fL_szRates (x0 : ByteArray × SlV × PUnit) (x1 : Int) : fits Tryz.prog aL_szRates 15 [Sh1.val (.g [.s, .l]) (x0), .int .i64 (x1)] (tL_szRates x0 x1) :=
  ⟨Tryz.f15, Tryz.f15.body.getD .skip, by kernel_rfl, by kernel_rfl, by kernel_rfl, by kernel_rfl, by kernel_rfl, by kernel_rfl⟩
/-! loop.example/g00793/spec.LedgerOk -/
def aS_LedgerOk : An := ⟨[], [], []⟩
noncomputable def tS_LedgerOk (x0 : SlV × SlV × ByteArray × SlV × PUnit) : T :=
  .call false 41 [Sh1.val (.g [.l]) (x0.1, ())] (.v (.o (.b))) fun y1 =>
  .br (y1) (
    .call false 42 [Sc.val .l (x0.2.1)] (.v (.o (.b))) fun y2 =>
    .br (y2) (
      .call false 43 [Sh1.val (.g [.s, .l]) (x0.2.2)] (.v (.o (.b))) fun y3 =>
      .ret [.bool (y3)]) <|
    .ret [.bool (false)]) <|
  .ret [.bool (false)]
theorem fS_LedgerOk (x0 : SlV × SlV × ByteArray × SlV × PUnit) : fits Tryz.prog aS_LedgerOk 16 [Sh1.val (.g [.l, .l, .s, .l]) (x0)] (tS_LedgerOk x0) :=
  ⟨Tryz.f16, Tryz.f16.body.getD .skip, by kernel_rfl, by kernel_rfl, by kernel_rfl, by kernel_rfl, by kernel_rfl, by kernel_rfl⟩
/-! loop.example/g00793/spec.RatInt -/
def aS_RatInt : An := ⟨[], [], []⟩
noncomputable def tS_RatInt (x0 : Bool × SlV × PUnit) : T :=
  .rg <|
  .call true 45 [.int .i64 ((1 : Int))] (.v (.g [.b, .l])) fun y1 =>
  .call true 44 [Sh1.val (.g [.b, .l]) (x0), Sh1.val (.g [.b, .l]) (y1)] (.t [(.g [.b, .l, .l]), (.o (.b))]) fun y2 =>
  .ret [Sh1.val (.g [.b, .l, .l]) (y2.1), .bool (y2.2.fst)]
theorem fS_RatInt (x0 : Bool × SlV × PUnit) : fits Tryz.prog aS_RatInt 17 [Sh1.val (.g [.b, .l]) (x0)] (tS_RatInt x0) :=
  ⟨Tryz.f17, Tryz.f17.body.getD .skip, by kernel_rfl, by kernel_rfl, by kernel_rfl, by kernel_rfl, by kernel_rfl, by kernel_rfl⟩
/-! loop.example/g00793/spec.BookSum -/
def aS_BookSum : An := ⟨[(5, [.s 16, .c 5 0, .c 5 1], [.o (.o (.i .i64)), .o (.o (.b)), .o (.o (.l))])], [], []⟩
noncomputable def tS_BookSum (x0 : SlV × PUnit) (x1 : ByteArray) : T :=
  .call false 41 [Sh1.val (.g [.l]) (x0)] (.v (.o (.b))) fun y1 =>
  .br (!y1) (
    .ret [Sh1.val (.g [.b, .l]) ((false), (⟨(none), ((0 : Nat)), ((0 : Nat))⟩ : SlV), ())]) <|
  .lp [.o (.o (.i .i64)), .o (.o (.b)), .o (.o (.l))] [.v (.int .i64 ((0 : Int))), .v (.bool (false)), .v (.slice (none) ((0 : Nat)) ((0 : Nat)))] fun y2 =>
  .br (decide (y2.fst < (↑x0.1.n : Int))) (
    .el (x0.1.a) (x0.1.n) (y2.fst) fun y3 =>
    .ld false (y3.add (Int.toNat y2.fst * (4 : Nat))) (.g [.s, .s, .b, .l]) fun y4 =>
    .br (ByteArray.toList y4.2.fst == x1.toList) (
      .call false 46 [Sh1.val (.g [.b, .l]) (y2.2), Sh1.val (.g [.b, .l]) (y4.2.2)] (.v (.g [.b, .l])) fun y5 =>
      .nx 0 [.v (.int .i64 (Go.IntKind.i64.wrap (y2.fst + (1 : Int)))), .v (.bool (y5.fst)), .v (Sc.val .l (y5.2.1))]) <|
    .nx 0 [.v (.int .i64 (Go.IntKind.i64.wrap (y2.fst + (1 : Int)))), .v (.bool (y2.2.fst)), .v (Sc.val .l (y2.2.2.1))]) <|
  .ret [Sh1.val (.g [.b, .l]) (y2.2)]
theorem fS_BookSum (x0 : SlV × PUnit) (x1 : ByteArray) : fits Tryz.prog aS_BookSum 18 [Sh1.val (.g [.l]) (x0), .string (x1)] (tS_BookSum x0 x1) :=
  ⟨Tryz.f18, Tryz.f18.body.getD .skip, by kernel_rfl, by kernel_rfl, by kernel_rfl, by kernel_rfl, by kernel_rfl, by kernel_rfl⟩
/-! loop.example/g00793/spec.RatAdd -/
def aS_RatAdd : An := ⟨[], [], []⟩
noncomputable def tS_RatAdd (x0 : Bool × SlV × SlV × PUnit) (x1 : Bool × SlV × SlV × PUnit) : T :=
  .call false 47 [Sh1.val (.g [.b, .l, .l]) (x0)] (.v (.o (.b))) fun y1 =>
  .br (!y1) (
    .ret [Sh1.val (.g [.b, .l, .l]) ((false), (⟨(none), ((0 : Nat)), ((0 : Nat))⟩ : SlV), (⟨(none), ((0 : Nat)), ((0 : Nat))⟩ : SlV), ()), .bool (false)]) <|
  .call false 47 [Sh1.val (.g [.b, .l, .l]) (x1)] (.v (.o (.b))) fun y2 =>
  .br (!y2) (
    .ret [Sh1.val (.g [.b, .l, .l]) ((false), (⟨(none), ((0 : Nat)), ((0 : Nat))⟩ : SlV), (⟨(none), ((0 : Nat)), ((0 : Nat))⟩ : SlV), ()), .bool (false)]) <|
  .rg <|
  .call true 49 [Sc.val .l (x0.2.1), Sc.val .l (x1.2.2.1)] (.v (.o (.l))) fun y3 =>
  .call true 48 [.bool (x0.fst), Sc.val .l (y3)] (.v (.g [.b, .l])) fun y4 =>
  .rg <|
  .call true 49 [Sc.val .l (x1.2.1), Sc.val .l (x0.2.2.1)] (.v (.o (.l))) fun y5 =>
  .call true 48 [.bool (x1.fst), Sc.val .l (y5)] (.v (.g [.b, .l])) fun y6 =>
  .call false 50 [Sh1.val (.g [.b, .l]) (y4), Sh1.val (.g [.b, .l]) (y6)] (.v (.g [.b, .l])) fun y7 =>
  .rg <|
  .call true 49 [Sc.val .l (x0.2.2.1), Sc.val .l (x1.2.2.1)] (.v (.o (.l))) fun y8 =>
  .call true 51 [.bool (y7.fst), Sc.val .l (y7.2.1), Sc.val .l (y8)] (.t [(.g [.b, .l, .l]), (.o (.b))]) fun y9 =>
  .ret [Sh1.val (.g [.b, .l, .l]) (y9.1), .bool (y9.2.fst)]
theorem fS_RatAdd (x0 : Bool × SlV × SlV × PUnit) (x1 : Bool × SlV × SlV × PUnit) : fits Tryz.prog aS_RatAdd 19 [Sh1.val (.g [.b, .l, .l]) (x0), Sh1.val (.g [.b, .l, .l]) (x1)] (tS_RatAdd x0 x1) :=
  ⟨Tryz.f19, Tryz.f19.body.getD .skip, by kernel_rfl, by kernel_rfl, by kernel_rfl, by kernel_rfl, by kernel_rfl, by kernel_rfl⟩
/-! loop.example/g00793/spec.RestOf -/
def aS_RestOf : An := ⟨[(2, [.s 9, .c 4 0, .c 4 1, .c 4 2], [.o (.o (.i .i64)), .o (.o (.b)), .o (.o (.l)), .o (.o (.l))])], [], []⟩
noncomputable def tS_RestOf (x0 : SlV) (x1 : ByteArray) : T :=
  .lp [.o (.o (.i .i64)), .o (.o (.b)), .o (.o (.l)), .o (.o (.l))] [.v (.int .i64 ((0 : Int))), .v (.bool (false)), .v (.slice (none) ((0 : Nat)) ((0 : Nat))), .v (.slice (none) ((0 : Nat)) ((0 : Nat)))] fun y1 =>
  .br (decide (y1.fst < (↑x0.n : Int))) (
    .el (x0.a) (x0.n) (y1.fst) fun y2 =>
    .ld false (y2.add (Int.toNat y1.fst * (4 : Nat))) (.g [.s, .b, .l, .l]) fun y3 =>
    .br (ByteArray.toList y3.fst == x1.toList) (
      .call false 52 [Sh1.val (.g [.b, .l, .l]) (y3.2)] (.v (.g [.b, .l, .l])) fun y4 =>
      .ret [Sh1.val (.g [.b, .l, .l]) (y4)]) <|
    .nx 0 [.v (.int .i64 (Go.IntKind.i64.wrap (y1.fst + (1 : Int)))), .v (.bool (y1.2.fst)), .v (Sc.val .l (y1.2.2.1)), .v (Sc.val .l (y1.2.2.2.1))]) <|
  .call false 53 [] (.v (.g [.b, .l, .l])) fun y2 =>
  .ret [Sh1.val (.g [.b, .l, .l]) (y2)]
theorem fS_RestOf (x0 : SlV) (x1 : ByteArray) : fits Tryz.prog aS_RestOf 20 [Sc.val .l (x0), .string (x1)] (tS_RestOf x0 x1) :=
  ⟨Tryz.f20, Tryz.f20.body.getD .skip, by kernel_rfl, by kernel_rfl, by kernel_rfl, by kernel_rfl, by kernel_rfl, by kernel_rfl⟩
/-! loop.example/g00793/laws.toBook -/
def aL_toBook : An := ⟨[], [], []⟩
noncomputable def tL_toBook (x0 : SlV × PUnit) : T :=
  .call false 54 [Sc.val .l (x0.1)] (.v (.o (.l))) fun y1 =>
  .ret [Sh1.val (.g [.l]) (y1, ())]
theorem fL_toBook (x0 : SlV × PUnit) : fits Tryz.prog aL_toBook 21 [Sh1.val (.g [.l]) (x0)] (tL_toBook x0) :=
  ⟨Tryz.f21, Tryz.f21.body.getD .skip, by kernel_rfl, by kernel_rfl, by kernel_rfl, by kernel_rfl, by kernel_rfl, by kernel_rfl⟩
/-! loop.example/g00793/laws.toRestS -/
def aL_toRestS : An := ⟨[(3, [.s 3, .s 4], [.a 98, .o (.o (.i .i64))])], [], []⟩
noncomputable def tL_toRestS (x0 : SlV) : T :=
  .rq ((0 : Int) ≤ (↑x0.n : Int) ∧ (↑x0.n : Int) ≤ (↑x0.n : Int) ∧ (↑(72 : Nat) : Int) * (↑x0.n : Int) ≤ (281474976710656 : Int) ∧ (↑x0.n : Int) ≤ (9223372036854775807 : Int)) <|
  .lp [.a 98, .o (.o (.i .i64))] [.a 98 ((↑x0.n : Int).toNat) ((Go.madeCells { toList := [Go.Value.string { data := { toList := [] : Array UInt8 } : ByteArray }, Go.Value.bool false, Go.Value.slice none (0 : Nat) (0 : Nat), Go.Value.slice none (0 : Nat) (0 : Nat)] : Array Go.Value } ((↑x0.n : Int).toNat * (4 : Nat))).toList), .v (.int .i64 ((0 : Int)))] fun y1 =>
  .br (decide (y1.2.fst < (↑x0.n : Int))) (
    .el (x0.a) (x0.n) (y1.2.fst) fun y2 =>
    .ld false (y2.add (Int.toNat y1.2.fst * (4 : Nat))) (.g [.s, .b, .l, .l]) fun y3 =>
    .call false 55 [Sh1.val (.g [.s, .b, .l, .l]) (y3)] (.v (.g [.s, .b, .l, .l])) fun y4 =>
    .rq ((0 : Int) ≤ y1.2.fst ∧ y1.2.fst < (↑y1.1.fst : Int)) <|
    .rq (Int.toNat y1.2.fst * (4 : Nat) + [Go.Value.string y4.fst, Go.Value.bool y4.2.fst, Go.Value.slice y4.2.2.1.a y4.2.2.1.n y4.2.2.1.c, Go.Value.slice y4.2.2.2.1.a y4.2.2.2.1.n y4.2.2.2.1.c].length ≤ y1.1.snd.length) <|
    .nx 0 [.a 98 (y1.1.fst) (setl y1.1.snd (Int.toNat y1.2.fst * (4 : Nat)) [Go.Value.string y4.fst, Go.Value.bool y4.2.fst, Go.Value.slice y4.2.2.1.a y4.2.2.1.n y4.2.2.1.c, Go.Value.slice y4.2.2.2.1.a y4.2.2.2.1.n y4.2.2.2.1.c]), .v (.int .i64 (Go.IntKind.i64.wrap (y1.2.fst + (1 : Int))))]) <|
  .fz (y1.1.fst) (y1.1.snd) 98 fun b2 c2 =>
  .ret [.slice (some { block := b2, off := (0 : Nat) : Go.Addr }) (y1.1.fst) (c2)]
theorem fL_toRestS (x0 : SlV) : fits Tryz.prog aL_toRestS 22 [Sc.val .l (x0)] (tL_toRestS x0) :=
  ⟨Tryz.f22, Tryz.f22.body.getD .skip, by kernel_rfl, by kernel_rfl, by kernel_rfl, by kernel_rfl, by kernel_rfl, by kernel_rfl⟩
/-! loop.example/g00793/laws.toRates -/
def aL_toRates : An := ⟨[], [], []⟩
noncomputable def tL_toRates (x0 : ByteArray × SlV × PUnit) : T :=
  .call false 56 [Sc.val .l (x0.2.1)] (.v (.o (.l))) fun y1 =>
  .ret [Sh1.val (.g [.s, .l]) ((x0.fst), y1, ())]
theorem fL_toRates (x0 : ByteArray × SlV × PUnit) : fits Tryz.prog aL_toRates 23 [Sh1.val (.g [.s, .l]) (x0)] (tL_toRates x0) :=
  ⟨Tryz.f23, Tryz.f23.body.getD .skip, by kernel_rfl, by kernel_rfl, by kernel_rfl, by kernel_rfl, by kernel_rfl, by kernel_rfl⟩
/-! loop.example/g00793/impl.LedgerOk -/
def aI_LedgerOk : An := ⟨[], [], []⟩
noncomputable def tI_LedgerOk (x0 : SlV × SlV × ByteArray × SlV × PUnit) : T :=
  .call false 57 [Sh1.val (.g [.l]) (x0.1, ())] (.v (.o (.b))) fun y1 =>
  .br (y1) (
    .call false 58 [Sc.val .l (x0.2.1)] (.v (.o (.b))) fun y2 =>
    .br (y2) (
      .call false 59 [Sh1.val (.g [.s, .l]) (x0.2.2)] (.v (.o (.b))) fun y3 =>
      .ret [.bool (y3)]) <|
    .ret [.bool (false)]) <|
  .ret [.bool (false)]
theorem fI_LedgerOk (x0 : SlV × SlV × ByteArray × SlV × PUnit) : fits Tryz.prog aI_LedgerOk 24 [Sh1.val (.g [.l, .l, .s, .l]) (x0)] (tI_LedgerOk x0) :=
  ⟨Tryz.f24, Tryz.f24.body.getD .skip, by kernel_rfl, by kernel_rfl, by kernel_rfl, by kernel_rfl, by kernel_rfl, by kernel_rfl⟩
/-! loop.example/g00793/impl.totalOf -/
def aI_totalOf : An := ⟨[], [], []⟩
noncomputable def tI_totalOf (x0 : SlV × SlV × ByteArray × SlV × PUnit) (x1 : ByteArray) : T :=
  .call false 61 [Sh1.val (.g [.l]) (x0.1, ()), .string (x1)] (.v (.g [.b, .l])) fun y1 =>
  .call false 60 [Sh1.val (.g [.b, .l]) (y1)] (.t [(.g [.b, .l, .l]), (.o (.b))]) fun y2 =>
  .br (!y2.2.fst) (
    .ret [Sh1.val (.g [.b, .l, .l]) ((false), (⟨(none), ((0 : Nat)), ((0 : Nat))⟩ : SlV), (⟨(none), ((0 : Nat)), ((0 : Nat))⟩ : SlV), ()), .bool (false)]) <|
  .rg <|
  .call true 63 [Sc.val .l (x0.2.1), .string (x1)] (.v (.g [.b, .l, .l])) fun y3 =>
  .call true 62 [Sh1.val (.g [.b, .l, .l]) (y2.1), Sh1.val (.g [.b, .l, .l]) (y3)] (.t [(.g [.b, .l, .l]), (.o (.b))]) fun y4 =>
  .ret [Sh1.val (.g [.b, .l, .l]) (y4.1), .bool (y4.2.fst)]
theorem fI_totalOf (x0 : SlV × SlV × ByteArray × SlV × PUnit) (x1 : ByteArray) : fits Tryz.prog aI_totalOf 25 [Sh1.val (.g [.l, .l, .s, .l]) (x0), .string (x1)] (tI_totalOf x0 x1) :=
  ⟨Tryz.f25, Tryz.f25.body.getD .skip, by kernel_rfl, by kernel_rfl, by kernel_rfl, by kernel_rfl, by kernel_rfl, by kernel_rfl⟩
/-! loop.example/g00793/laws.eqSigned -/
def aL_eqSigned : An := ⟨[], [], []⟩
noncomputable def tL_eqSigned (x0 : Bool × SlV × PUnit) (x1 : Bool × SlV × PUnit) : T :=
  .br (!x0.fst == x1.fst) (
    .ret [.bool (false)]) <|
  .call false 27 [Sc.val .l (x0.2.1), Sc.val .l (x1.2.1)] (.v (.o (.b))) fun y1 =>
  .br (!y1) (
    .ret [.bool (false)]) <|
  .ret [.bool (true)]
theorem fL_eqSigned (x0 : Bool × SlV × PUnit) (x1 : Bool × SlV × PUnit) : fits Tryz.prog aL_eqSigned 26 [Sh1.val (.g [.b, .l]) (x0), Sh1.val (.g [.b, .l]) (x1)] (tL_eqSigned x0 x1) :=
  ⟨Tryz.f26, Tryz.f26.body.getD .skip, by kernel_rfl, by kernel_rfl, by kernel_rfl, by kernel_rfl, by kernel_rfl, by kernel_rfl⟩
/-! loop.example/g00793/laws.eqIntS -/
def aL_eqIntS : An := ⟨[(4, [.s 5], [.o (.o (.i .i64))])], [], []⟩
noncomputable def tL_eqIntS (x0 : SlV) (x1 : SlV) : T :=
  .br ((↑x0.n : Int) != (↑x1.n : Int)) (
    .ret [.bool (false)]) <|
  .lp [.o (.o (.i .i64))] [.v (.int .i64 ((0 : Int)))] fun y1 =>
  .br (decide (y1.fst < (↑x0.n : Int))) (
    .rg <|
    .el (x0.a) (x0.n) (y1.fst) fun y2 =>
    .ld true (y2.add (Int.toNat y1.fst * (1 : Nat))) (.o (.i .i64)) fun y3 =>
    .el (x1.a) (x1.n) (y1.fst) fun y4 =>
    .ld true (y4.add (Int.toNat y1.fst * (1 : Nat))) (.o (.i .i64)) fun y5 =>
    .br (y3 != y5) (
      .ret [.bool (false)]) <|
    .nx 0 [.v (.int .i64 (Go.IntKind.i64.wrap (y1.fst + (1 : Int))))]) <|
  .ret [.bool (true)]
theorem fL_eqIntS (x0 : SlV) (x1 : SlV) : fits Tryz.prog aL_eqIntS 27 [Sc.val .l (x0), Sc.val .l (x1)] (tL_eqIntS x0 x1) :=
  ⟨Tryz.f27, Tryz.f27.body.getD .skip, by kernel_rfl, by kernel_rfl, by kernel_rfl, by kernel_rfl, by kernel_rfl, by kernel_rfl⟩
/-! loop.example/g00793/laws.eqBook -/
def aL_eqBook : An := ⟨[], [], []⟩
noncomputable def tL_eqBook (x0 : SlV × PUnit) (x1 : SlV × PUnit) : T :=
  .call false 64 [Sc.val .l (x0.1), Sc.val .l (x1.1)] (.v (.o (.b))) fun y1 =>
  .br (!y1) (
    .ret [.bool (false)]) <|
  .ret [.bool (true)]
theorem fL_eqBook (x0 : SlV × PUnit) (x1 : SlV × PUnit) : fits Tryz.prog aL_eqBook 28 [Sh1.val (.g [.l]) (x0), Sh1.val (.g [.l]) (x1)] (tL_eqBook x0 x1) :=
  ⟨Tryz.f28, Tryz.f28.body.getD .skip, by kernel_rfl, by kernel_rfl, by kernel_rfl, by kernel_rfl, by kernel_rfl, by kernel_rfl⟩
/-! loop.example/g00793/laws.eqRestS -/
def aL_eqRestS : An := ⟨[(4, [.s 5], [.o (.o (.i .i64))])], [], []⟩
noncomputable def tL_eqRestS (x0 : SlV) (x1 : SlV) : T :=
  .br ((↑x0.n : Int) != (↑x1.n : Int)) (
    .ret [.bool (false)]) <|
  .lp [.o (.o (.i .i64))] [.v (.int .i64 ((0 : Int)))] fun y1 =>
  .br (decide (y1.fst < (↑x0.n : Int))) (
    .rg <|
    .el (x0.a) (x0.n) (y1.fst) fun y2 =>
    .ld true (y2.add (Int.toNat y1.fst * (4 : Nat))) (.g [.s, .b, .l, .l]) fun y3 =>
    .el (x1.a) (x1.n) (y1.fst) fun y4 =>
    .ld true (y4.add (Int.toNat y1.fst * (4 : Nat))) (.g [.s, .b, .l, .l]) fun y5 =>
    .call true 65 [Sh1.val (.g [.s, .b, .l, .l]) (y3), Sh1.val (.g [.s, .b, .l, .l]) (y5)] (.v (.o (.b))) fun y6 =>
    .br (!y6) (
      .ret [.bool (false)]) <|
    .nx 0 [.v (.int .i64 (Go.IntKind.i64.wrap (y1.fst + (1 : Int))))]) <|
  .ret [.bool (true)]
theorem fL_eqRestS (x0 : SlV) (x1 : SlV) : fits Tryz.prog aL_eqRestS 29 [Sc.val .l (x0), Sc.val .l (x1)] (tL_eqRestS x0 x1) :=
  ⟨Tryz.f29, Tryz.f29.body.getD .skip, by kernel_rfl, by kernel_rfl, by kernel_rfl, by kernel_rfl, by kernel_rfl, by kernel_rfl⟩
/-! loop.example/g00793/laws.eqRates -/
def aL_eqRates : An := ⟨[], [], []⟩
noncomputable def tL_eqRates (x0 : ByteArray × SlV × PUnit) (x1 : ByteArray × SlV × PUnit) : T :=
  .br (!ByteArray.toList x0.fst == ByteArray.toList x1.fst) (
    .ret [.bool (false)]) <|
  .call false 66 [Sc.val .l (x0.2.1), Sc.val .l (x1.2.1)] (.v (.o (.b))) fun y1 =>
  .br (!y1) (
    .ret [.bool (false)]) <|
  .ret [.bool (true)]
theorem fL_eqRates (x0 : ByteArray × SlV × PUnit) (x1 : ByteArray × SlV × PUnit) : fits Tryz.prog aL_eqRates 30 [Sh1.val (.g [.s, .l]) (x0), Sh1.val (.g [.s, .l]) (x1)] (tL_eqRates x0 x1) :=
  ⟨Tryz.f30, Tryz.f30.body.getD .skip, by kernel_rfl, by kernel_rfl, by kernel_rfl, by kernel_rfl, by kernel_rfl, by kernel_rfl⟩
/-! loop.example/g00793/laws.markBook -/
def aL_markBook : An := ⟨[], [], []⟩
noncomputable def tL_markBook (x0 : SlV × PUnit) (x1 : Int) : T :=
  .call false 67 [Sc.val .l (x0.1), .int .i64 (x1)] (.v (.o (.i .i64))) fun y1 =>
  .ret [.int .i64 (y1)]
theorem fL_markBook (x0 : SlV × PUnit) (x1 : Int) : fits Tryz.prog aL_markBook 31 [Sh1.val (.g [.l]) (x0), .int .i64 (x1)] (tL_markBook x0 x1) :=
  ⟨Tryz.f31, Tryz.f31.body.getD .skip, by kernel_rfl, by kernel_rfl, by kernel_rfl, by kernel_rfl, by kernel_rfl, by kernel_rfl⟩
/-! loop.example/g00793/laws.markRestS -/
def aL_markRestS : An := ⟨[(2, [.s 1, .s 5], [.o (.o (.i .i64)), .o (.o (.i .i64))])], [], []⟩
noncomputable def tL_markRestS (x0 : SlV) (x1 : Int) : T :=
  .lp [.o (.o (.i .i64)), .o (.o (.i .i64))] [.v (.int .i64 (x1)), .v (.int .i64 ((0 : Int)))] fun y1 =>
  .br (decide (y1.2.fst < (↑x0.n : Int))) (
    .call false 68 [.int .i64 (y1.fst)] (.v (.o (.s))) fun y2 =>
    .el (x0.a) (x0.n) (y1.2.fst) fun y3 =>
    .st ((y3.add (Int.toNat y1.2.fst * (4 : Nat))).add (0 : Nat)) [.string (y2)] <|
    .rq ((3 : Int) ≠ (0 : Int)) <|
    .el (x0.a) (x0.n) (y1.2.fst) fun y4 =>
    .st ((((y4.add (Int.toNat y1.2.fst * (4 : Nat))).add (1 : Nat)).add (0 : Nat)).add (0 : Nat)) [.bool ((Go.IntKind.i64.wrap (y1.fst + (1 : Int))).tmod (3 : Int) == (0 : Int))] <|
    .el (x0.a) (x0.n) (y1.2.fst) fun y5 =>
    .ld false ((((y5.add (Int.toNat y1.2.fst * (4 : Nat))).add (1 : Nat)).add (0 : Nat)).add (1 : Nat)) (.o (.l)) fun y6 =>
    .call false 35 [Sc.val .l (y6), .int .i64 (Go.IntKind.i64.wrap (Go.IntKind.i64.wrap (y1.fst + (1 : Int)) + (1 : Int)))] (.v (.o (.i .i64))) fun y7 =>
    .el (x0.a) (x0.n) (y1.2.fst) fun y8 =>
    .ld false (((y8.add (Int.toNat y1.2.fst * (4 : Nat))).add (1 : Nat)).add (2 : Nat)) (.o (.l)) fun y9 =>
    .call false 35 [Sc.val .l (y9), .int .i64 (y7)] (.v (.o (.i .i64))) fun y10 =>
    .nx 0 [.v (.int .i64 (y10)), .v (.int .i64 (Go.IntKind.i64.wrap (y1.2.fst + (1 : Int))))]) <|
  .ret [.int .i64 (y1.fst)]
theorem fL_markRestS (x0 : SlV) (x1 : Int) : fits Tryz.prog aL_markRestS 32 [Sc.val .l (x0), .int .i64 (x1)] (tL_markRestS x0 x1) :=
  ⟨Tryz.f32, Tryz.f32.body.getD .skip, by kernel_rfl, by kernel_rfl, by kernel_rfl, by kernel_rfl, by kernel_rfl, by kernel_rfl⟩
/-! loop.example/g00793/laws.markRates -/
def aL_markRates : An := ⟨[], [], []⟩
noncomputable def tL_markRates (x0 : ByteArray × SlV × PUnit) (x1 : Int) : T :=
  .call false 69 [Sc.val .l (x0.2.1), .int .i64 (x1)] (.v (.o (.i .i64))) fun y1 =>
  .ret [.int .i64 (y1)]
theorem fL_markRates (x0 : ByteArray × SlV × PUnit) (x1 : Int) : fits Tryz.prog aL_markRates 33 [Sh1.val (.g [.s, .l]) (x0), .int .i64 (x1)] (tL_markRates x0 x1) :=
  ⟨Tryz.f33, Tryz.f33.body.getD .skip, by kernel_rfl, by kernel_rfl, by kernel_rfl, by kernel_rfl, by kernel_rfl, by kernel_rfl⟩
/-! loop.example/g00793/laws.markSigned -/
def aL_markSigned : An := ⟨[], [], []⟩
noncomputable def tL_markSigned (x0 : Bool × SlV × PUnit) (x1 : Int) : T :=
  .call false 35 [Sc.val .l (x0.2.1), .int .i64 (x1)] (.v (.o (.i .i64))) fun y1 =>
  .ret [.int .i64 (y1)]
theorem fL_markSigned (x0 : Bool × SlV × PUnit) (x1 : Int) : fits Tryz.prog aL_markSigned 34 [Sh1.val (.g [.b, .l]) (x0), .int .i64 (x1)] (tL_markSigned x0 x1) :=
  ⟨Tryz.f34, Tryz.f34.body.getD .skip, by kernel_rfl, by kernel_rfl, by kernel_rfl, by kernel_rfl, by kernel_rfl, by kernel_rfl⟩
/-! loop.example/g00793/laws.markIntS -/
def aL_markIntS : An := ⟨[(2, [.s 1, .s 5], [.o (.o (.i .i64)), .o (.o (.i .i64))])], [], []⟩
noncomputable def tL_markIntS (x0 : SlV) (x1 : Int) : T :=
  .lp [.o (.o (.i .i64)), .o (.o (.i .i64))] [.v (.int .i64 (x1)), .v (.int .i64 ((0 : Int)))] fun y1 =>
  .br (decide (y1.2.fst < (↑x0.n : Int))) (
    .el (x0.a) (x0.n) (y1.2.fst) fun y2 =>
    .st (y2.add (Int.toNat y1.2.fst * (1 : Nat))) [.int .i64 (y1.fst)] <|
    .nx 0 [.v (.int .i64 (Go.IntKind.i64.wrap (y1.fst + (1 : Int)))), .v (.int .i64 (Go.IntKind.i64.wrap (y1.2.fst + (1 : Int))))]) <|
  .ret [.int .i64 (y1.fst)]
theorem fL_markIntS (x0 : SlV) (x1 : Int) : fits Tryz.prog aL_markIntS 35 [Sc.val .l (x0), .int .i64 (x1)] (tL_markIntS x0 x1) :=
  ⟨Tryz.f35, Tryz.f35.body.getD .skip, by kernel_rfl, by kernel_rfl, by kernel_rfl, by kernel_rfl, by kernel_rfl, by kernel_rfl⟩
/-! loop.example/g00793/laws.heldSigned -/
def aL_heldSigned : An := ⟨[], [], []⟩
noncomputable def tL_heldSigned (x0 : Bool × SlV × PUnit) (x1 : Int) : T :=
  .call false 37 [Sc.val .l (x0.2.1), .int .i64 (x1)] (.v (.o (.i .i64))) fun y1 =>
  .br (decide (y1 < (0 : Int))) (
    .ret [.int .i64 ((-1 : Int))]) <|
  .ret [.int .i64 (y1)]
theorem fL_heldSigned (x0 : Bool × SlV × PUnit) (x1 : Int) : fits Tryz.prog aL_heldSigned 36 [Sh1.val (.g [.b, .l]) (x0), .int .i64 (x1)] (tL_heldSigned x0 x1) :=
  ⟨Tryz.f36, Tryz.f36.body.getD .skip, by kernel_rfl, by kernel_rfl, by kernel_rfl, by kernel_rfl, by kernel_rfl, by kernel_rfl⟩
/-! loop.example/g00793/laws.heldIntS -/
def aL_heldIntS : An := ⟨[(2, [.s 1, .s 5], [.o (.o (.i .i64)), .o (.o (.i .i64))])], [], []⟩
noncomputable def tL_heldIntS (x0 : SlV) (x1 : Int) : T :=
  .lp [.o (.o (.i .i64)), .o (.o (.i .i64))] [.v (.int .i64 (x1)), .v (.int .i64 ((0 : Int)))] fun y1 =>
  .br (decide (y1.2.fst < (↑x0.n : Int))) (
    .el (x0.a) (x0.n) (y1.2.fst) fun y2 =>
    .ld false (y2.add (Int.toNat y1.2.fst * (1 : Nat))) (.o (.i .i64)) fun y3 =>
    .br (y3 != y1.fst) (
      .ret [.int .i64 ((-1 : Int))]) <|
    .nx 0 [.v (.int .i64 (Go.IntKind.i64.wrap (y1.fst + (1 : Int)))), .v (.int .i64 (Go.IntKind.i64.wrap (y1.2.fst + (1 : Int))))]) <|
  .ret [.int .i64 (y1.fst)]
theorem fL_heldIntS (x0 : SlV) (x1 : Int) : fits Tryz.prog aL_heldIntS 37 [Sc.val .l (x0), .int .i64 (x1)] (tL_heldIntS x0 x1) :=
  ⟨Tryz.f37, Tryz.f37.body.getD .skip, by kernel_rfl, by kernel_rfl, by kernel_rfl, by kernel_rfl, by kernel_rfl, by kernel_rfl⟩
/-! loop.example/g00793/laws.szAcctS -/
def aL_szAcctS : An := ⟨[(5, [.s 1, .s 5], [.o (.o (.i .i64)), .o (.o (.i .i64))])], [], []⟩
noncomputable def tL_szAcctS (x0 : SlV) (x1 : Int) : T :=
  .br (decide (Go.IntKind.i64.wrap (x1 - (↑x0.n : Int)) < (0 : Int))) (
    .ret [.int .i64 ((-1 : Int))]) <|
  .lp [.o (.o (.i .i64)), .o (.o (.i .i64))] [.v (.int .i64 (Go.IntKind.i64.wrap (x1 - (↑x0.n : Int)))), .v (.int .i64 ((0 : Int)))] fun y1 =>
  .br (decide (y1.2.fst < (↑x0.n : Int))) (
    .el (x0.a) (x0.n) (y1.2.fst) fun y2 =>
    .ld false (y2.add (Int.toNat y1.2.fst * (4 : Nat))) (.g [.s, .s, .b, .l]) fun y3 =>
    .call false 70 [Sh1.val (.g [.s, .s, .b, .l]) (y3), .int .i64 (y1.fst)] (.v (.o (.i .i64))) fun y4 =>
    .br (decide (y4 < (0 : Int))) (
      .ret [.int .i64 ((-1 : Int))]) <|
    .nx 0 [.v (.int .i64 (y4)), .v (.int .i64 (Go.IntKind.i64.wrap (y1.2.fst + (1 : Int))))]) <|
  .ret [.int .i64 (y1.fst)]
theorem fL_szAcctS (x0 : SlV) (x1 : Int) : fits Tryz.prog aL_szAcctS 38 [Sc.val .l (x0), .int .i64 (x1)] (tL_szAcctS x0 x1) :=
  ⟨Tryz.f38, Tryz.f38.body.getD .skip, by kernel_rfl, by kernel_rfl, by kernel_rfl, by kernel_rfl, by kernel_rfl, by kernel_rfl⟩
/-! loop.example/g00793/laws.szRest -/
def aL_szRest : An := ⟨[], [], []⟩
noncomputable def tL_szRest (x0 : ByteArray × Bool × SlV × SlV × PUnit) (x1 : Int) : T :=
  .br (decide (Go.IntKind.i64.wrap (x1 - (↑(ByteArray.size x0.fst) : Int)) < (0 : Int))) (
    .ret [.int .i64 ((-1 : Int))]) <|
  .call false 71 [Sh1.val (.g [.b, .l, .l]) (x0.2), .int .i64 (Go.IntKind.i64.wrap (x1 - (↑(ByteArray.size x0.fst) : Int)))] (.v (.o (.i .i64))) fun y1 =>
  .br (decide (y1 < (0 : Int))) (
    .ret [.int .i64 ((-1 : Int))]) <|
  .ret [.int .i64 (y1)]
theorem fL_szRest (x0 : ByteArray × Bool × SlV × SlV × PUnit) (x1 : Int) : fits Tryz.prog aL_szRest 39 [Sh1.val (.g [.s, .b, .l, .l]) (x0), .int .i64 (x1)] (tL_szRest x0 x1) :=
  ⟨Tryz.f39, Tryz.f39.body.getD .skip, by kernel_rfl, by kernel_rfl, by kernel_rfl, by kernel_rfl, by kernel_rfl, by kernel_rfl⟩
/-! loop.example/g00793/laws.szRateS -/
def aL_szRateS : An := ⟨[(5, [.s 1, .s 5], [.o (.o (.i .i64)), .o (.o (.i .i64))])], [], []⟩
noncomputable def tL_szRateS (x0 : SlV) (x1 : Int) : T :=
  .br (decide (Go.IntKind.i64.wrap (x1 - (↑x0.n : Int)) < (0 : Int))) (
    .ret [.int .i64 ((-1 : Int))]) <|
  .lp [.o (.o (.i .i64)), .o (.o (.i .i64))] [.v (.int .i64 (Go.IntKind.i64.wrap (x1 - (↑x0.n : Int)))), .v (.int .i64 ((0 : Int)))] fun y1 =>
  .br (decide (y1.2.fst < (↑x0.n : Int))) (
    .el (x0.a) (x0.n) (y1.2.fst) fun y2 =>
    .ld false (y2.add (Int.toNat y1.2.fst * (5 : Nat))) (.g [.s, .s, .b, .l, .i .i64]) fun y3 =>
    .call false 72 [Sh1.val (.g [.s, .s, .b, .l, .i .i64]) (y3), .int .i64 (y1.fst)] (.v (.o (.i .i64))) fun y4 =>
    .br (decide (y4 < (0 : Int))) (
      .ret [.int .i64 ((-1 : Int))]) <|
    .nx 0 [.v (.int .i64 (y4)), .v (.int .i64 (Go.IntKind.i64.wrap (y1.2.fst + (1 : Int))))]) <|
  .ret [.int .i64 (y1.fst)]
theorem fL_szRateS (x0 : SlV) (x1 : Int) : fits Tryz.prog aL_szRateS 40 [Sc.val .l (x0), .int .i64 (x1)] (tL_szRateS x0 x1) :=
  ⟨Tryz.f40, Tryz.f40.body.getD .skip, by kernel_rfl, by kernel_rfl, by kernel_rfl, by kernel_rfl, by kernel_rfl, by kernel_rfl⟩
/-! loop.example/g00793/spec.BookOk -/
def aS_BookOk : An := ⟨[(2, [.s 8], [.o (.o (.i .i64))])], [], []⟩
noncomputable def tS_BookOk (x0 : SlV × PUnit) : T :=
  .lp [.o (.o (.i .i64))] [.v (.int .i64 ((0 : Int)))] fun y1 =>
  .br (decide (y1.fst < (↑x0.1.n : Int))) (
    .el (x0.1.a) (x0.1.n) (y1.fst) fun y2 =>
    .ld false (y2.add (Int.toNat y1.fst * (4 : Nat))) (.g [.s, .s, .b, .l]) fun y3 =>
    .rg <|
    .call true 73 [.string (y3.fst)] (.v (.o (.b))) fun y4 =>
    .br (!y4) (
      .ret [.bool (false)]) <|
    .call true 74 [Sh1.val (.g [.s, .b, .l]) (y3.2)] (.v (.o (.b))) fun y5 =>
    .br (!y5) (
      .ret [.bool (false)]) <|
    .br (decide (y1.fst > (0 : Int))) (
      .el (x0.1.a) (x0.1.n) (Go.IntKind.i64.wrap (y1.fst - (1 : Int))) fun y6 =>
      .ld true ((y6.add ((Go.IntKind.i64.wrap (y1.fst - (1 : Int))).toNat * (4 : Nat))).add (0 : Nat)) (.o (.s)) fun y7 =>
      .br (!Go.Op.bytesLess y7.toList (ByteArray.toList y3.fst)) (
        .ret [.bool (false)]) <|
      .nx 0 [.v (.int .i64 (Go.IntKind.i64.wrap (y1.fst + (1 : Int))))]) <|
    .nx 0 [.v (.int .i64 (Go.IntKind.i64.wrap (y1.fst + (1 : Int))))]) <|
  .ret [.bool (decide ((↑x0.1.n : Int) ≤ (12 : Int)))]
theorem fS_BookOk (x0 : SlV × PUnit) : fits Tryz.prog aS_BookOk 41 [Sh1.val (.g [.l]) (x0)] (tS_BookOk x0) :=
  ⟨Tryz.f41, Tryz.f41.body.getD .skip, by kernel_rfl, by kernel_rfl, by kernel_rfl, by kernel_rfl, by kernel_rfl, by kernel_rfl⟩
/-! loop.example/g00793/spec.RestsOk -/
def aS_RestsOk : An := ⟨[(2, [.s 7], [.o (.o (.i .i64))])], [], []⟩
noncomputable def tS_RestsOk (x0 : SlV) : T :=
  .lp [.o (.o (.i .i64))] [.v (.int .i64 ((0 : Int)))] fun y1 =>
  .br (decide (y1.fst < (↑x0.n : Int))) (
    .el (x0.a) (x0.n) (y1.fst) fun y2 =>
    .ld false (y2.add (Int.toNat y1.fst * (4 : Nat))) (.g [.s, .b, .l, .l]) fun y3 =>
    .rg <|
    .call true 75 [.string (y3.fst)] (.v (.o (.b))) fun y4 =>
    .br (!y4) (
      .ret [.bool (false)]) <|
    .call true 47 [Sh1.val (.g [.b, .l, .l]) (y3.2)] (.v (.o (.b))) fun y5 =>
    .br (!y5) (
      .ret [.bool (false)]) <|
    .call true 76 [Sh1.val (.g [.b, .l, .l]) (y3.2)] (.v (.o (.i .i64))) fun y6 =>
    .br (y6 == (0 : Int)) (
      .ret [.bool (false)]) <|
    .br (decide (y1.fst > (0 : Int))) (
      .el (x0.a) (x0.n) (Go.IntKind.i64.wrap (y1.fst - (1 : Int))) fun y7 =>
      .ld true ((y7.add ((Go.IntKind.i64.wrap (y1.fst - (1 : Int))).toNat * (4 : Nat))).add (0 : Nat)) (.o (.s)) fun y8 =>
      .br (!Go.Op.bytesLess y8.toList (ByteArray.toList y3.fst)) (
        .ret [.bool (false)]) <|
      .nx 0 [.v (.int .i64 (Go.IntKind.i64.wrap (y1.fst + (1 : Int))))]) <|
    .nx 0 [.v (.int .i64 (Go.IntKind.i64.wrap (y1.fst + (1 : Int))))]) <|
  .ret [.bool (true)]
theorem fS_RestsOk (x0 : SlV) : fits Tryz.prog aS_RestsOk 42 [Sc.val .l (x0)] (tS_RestsOk x0) :=
  ⟨Tryz.f42, Tryz.f42.body.getD .skip, by kernel_rfl, by kernel_rfl, by kernel_rfl, by kernel_rfl, by kernel_rfl, by kernel_rfl⟩
/-! loop.example/g00793/spec.RatesOk -/
def aS_RatesOk : An := ⟨[(4, [.s 18], [.o (.o (.i .i64))])], [], []⟩
noncomputable def tS_RatesOk (x0 : ByteArray × SlV × PUnit) : T :=
  .call false 75 [.string (x0.fst)] (.v (.o (.b))) fun y1 =>
  .br (!y1) (
    .ret [.bool (false)]) <|
  .br (decide ((↑x0.2.1.n : Int) > (12 : Int))) (
    .ret [.bool (false)]) <|
  .lp [.o (.o (.i .i64))] [.v (.int .i64 ((0 : Int)))] fun y2 =>
  .br (decide (y2.fst < (↑x0.2.1.n : Int))) (
    .el (x0.2.1.a) (x0.2.1.n) (y2.fst) fun y3 =>
    .ld false (y3.add (Int.toNat y2.fst * (5 : Nat))) (.g [.s, .s, .b, .l, .i .i64]) fun y4 =>
    .call false 77 [Sh1.val (.g [.s, .s, .b, .l, .i .i64]) (y4)] (.v (.o (.b))) fun y5 =>
    .br (!y5) (
      .ret [.bool (false)]) <|
    .call false 78 [Sc.val .l (x0.2.1), .string (y4.fst), .string (y4.2.fst)] (.v (.o (.i .i64))) fun y6 =>
    .br (y6 != y2.fst) (
      .ret [.bool (false)]) <|
    .nx 0 [.v (.int .i64 (Go.IntKind.i64.wrap (y2.fst + (1 : Int))))]) <|
  .ret [.bool (true)]
theorem fS_RatesOk (x0 : ByteArray × SlV × PUnit) : fits Tryz.prog aS_RatesOk 43 [Sh1.val (.g [.s, .l]) (x0)] (tS_RatesOk x0) :=
  ⟨Tryz.f43, Tryz.f43.body.getD .skip, by kernel_rfl, by kernel_rfl, by kernel_rfl, by kernel_rfl, by kernel_rfl, by kernel_rfl⟩
/-! loop.example/g00793/spec.RatMake -/
def aS_RatMake : An := ⟨[], [], []⟩
noncomputable def tS_RatMake (x0 : Bool × SlV × PUnit) (x1 : Bool × SlV × PUnit) : T :=
  .call false 79 [Sh1.val (.g [.b, .l]) (x0)] (.v (.o (.b))) fun y1 =>
  .br (!y1) (
    .ret [Sh1.val (.g [.b, .l, .l]) ((false), (⟨(none), ((0 : Nat)), ((0 : Nat))⟩ : SlV), (⟨(none), ((0 : Nat)), ((0 : Nat))⟩ : SlV), ()), .bool (false)]) <|
  .call false 79 [Sh1.val (.g [.b, .l]) (x1)] (.v (.o (.b))) fun y2 =>
  .br (!y2) (
    .ret [Sh1.val (.g [.b, .l, .l]) ((false), (⟨(none), ((0 : Nat)), ((0 : Nat))⟩ : SlV), (⟨(none), ((0 : Nat)), ((0 : Nat))⟩ : SlV), ()), .bool (false)]) <|
  .call false 51 [.bool (!x0.fst == x1.fst), Sc.val .l (x0.2.1), Sc.val .l (x1.2.1)] (.t [(.g [.b, .l, .l]), (.o (.b))]) fun y3 =>
  .ret [Sh1.val (.g [.b, .l, .l]) (y3.1), .bool (y3.2.fst)]
theorem fS_RatMake (x0 : Bool × SlV × PUnit) (x1 : Bool × SlV × PUnit) : fits Tryz.prog aS_RatMake 44 [Sh1.val (.g [.b, .l]) (x0), Sh1.val (.g [.b, .l]) (x1)] (tS_RatMake x0 x1) :=
  ⟨Tryz.f44, Tryz.f44.body.getD .skip, by kernel_rfl, by kernel_rfl, by kernel_rfl, by kernel_rfl, by kernel_rfl, by kernel_rfl⟩
/-! loop.example/g00793/spec.IntOf -/
def aS_IntOf : An := ⟨[], [], []⟩
noncomputable def tS_IntOf (x0 : Int) : T :=
  .br (x0 == (-9223372036854775808 : Int)) (
    .fz ((3 : Nat)) [.int .i64 ((854775808 : Int)), .int .i64 ((223372036 : Int)), .int .i64 ((9 : Int))] 3 fun b1 c1 =>
    .call false 48 [.bool (true), .slice (some { block := b1, off := (0 : Nat) : Go.Addr }) ((3 : Nat)) (c1)] (.v (.g [.b, .l])) fun y2 =>
    .ret [Sh1.val (.g [.b, .l]) (y2)]) <|
  .br (decide (x0 < (0 : Int))) (
    .call false 80 [.int .i64 (Go.IntKind.i64.wrap ((0 : Int) - x0))] (.v (.o (.l))) fun y1 =>
    .call false 48 [.bool (true), Sc.val .l (y1)] (.v (.g [.b, .l])) fun y2 =>
    .ret [Sh1.val (.g [.b, .l]) (y2)]) <|
  .call false 80 [.int .i64 (x0)] (.v (.o (.l))) fun y1 =>
  .call false 48 [.bool (false), Sc.val .l (y1)] (.v (.g [.b, .l])) fun y2 =>
  .ret [Sh1.val (.g [.b, .l]) (y2)]
theorem fS_IntOf (x0 : Int) : fits Tryz.prog aS_IntOf 45 [.int .i64 (x0)] (tS_IntOf x0) :=
  ⟨Tryz.f45, Tryz.f45.body.getD .skip, by kernel_rfl, by kernel_rfl, by kernel_rfl, by kernel_rfl, by kernel_rfl, by kernel_rfl⟩
/-! loop.example/g00793/spec.IntAdd -/
def aS_IntAdd : An := ⟨[], [], []⟩
noncomputable def tS_IntAdd (x0 : Bool × SlV × PUnit) (x1 : Bool × SlV × PUnit) : T :=
  .call false 79 [Sh1.val (.g [.b, .l]) (x0)] (.v (.o (.b))) fun y1 =>
  .br (!y1) (
    .ret [Sh1.val (.g [.b, .l]) ((false), (⟨(none), ((0 : Nat)), ((0 : Nat))⟩ : SlV), ())]) <|
  .call false 79 [Sh1.val (.g [.b, .l]) (x1)] (.v (.o (.b))) fun y2 =>
  .br (!y2) (
    .ret [Sh1.val (.g [.b, .l]) ((false), (⟨(none), ((0 : Nat)), ((0 : Nat))⟩ : SlV), ())]) <|
  .call false 50 [Sh1.val (.g [.b, .l]) (x0), Sh1.val (.g [.b, .l]) (x1)] (.v (.g [.b, .l])) fun y3 =>
  .ret [Sh1.val (.g [.b, .l]) (y3)]
theorem fS_IntAdd (x0 : Bool × SlV × PUnit) (x1 : Bool × SlV × PUnit) : fits Tryz.prog aS_IntAdd 46 [Sh1.val (.g [.b, .l]) (x0), Sh1.val (.g [.b, .l]) (x1)] (tS_IntAdd x0 x1) :=
  ⟨Tryz.f46, Tryz.f46.body.getD .skip, by kernel_rfl, by kernel_rfl, by kernel_rfl, by kernel_rfl, by kernel_rfl, by kernel_rfl⟩
/-! loop.example/g00793/spec.RatOk -/
def aS_RatOk : An := ⟨[], [], []⟩
noncomputable def tS_RatOk (x0 : Bool × SlV × SlV × PUnit) : T :=
  .call false 79 [Sh1.val (.g [.b, .l]) ((x0.fst), x0.2.1, ())] (.v (.o (.b))) fun y1 =>
  .br (!y1) (
    .ret [.bool (false)]) <|
  .call false 81 [Sc.val .l (x0.2.2.1)] (.v (.o (.b))) fun y2 =>
  .br (!y2) (
    .ret [.bool (false)]) <|
  .br ((↑x0.2.2.1.n : Int) == (0 : Int)) (
    .ret [.bool (false)]) <|
  .br (decide ((↑x0.2.2.1.n : Int) > (18 : Int))) (
    .ret [.bool (false)]) <|
  .br (decide ((↑x0.2.1.n : Int) > (18 : Int))) (
    .ret [.bool (false)]) <|
  .call false 83 [Sc.val .l (x0.2.1), Sc.val .l (x0.2.2.1)] (.v (.o (.l))) fun y3 =>
  .fz ((1 : Nat)) [.int .i64 ((1 : Int))] 3 fun b4 c4 =>
  .call false 82 [Sc.val .l (y3), .slice (some { block := b4, off := (0 : Nat) : Go.Addr }) ((1 : Nat)) (c4)] (.v (.o (.i .i64))) fun y5 =>
  .ret [.bool (y5 == (0 : Int))]
theorem fS_RatOk (x0 : Bool × SlV × SlV × PUnit) : fits Tryz.prog aS_RatOk 47 [Sh1.val (.g [.b, .l, .l]) (x0)] (tS_RatOk x0) :=
  ⟨Tryz.f47, Tryz.f47.body.getD .skip, by kernel_rfl, by kernel_rfl, by kernel_rfl, by kernel_rfl, by kernel_rfl, by kernel_rfl⟩
/-! loop.example/g00793/spec.l04Make -/
def aS_l04Make : An := ⟨[], [], []⟩
noncomputable def tS_l04Make (x0 : Bool) (x1 : SlV) : T :=
  .call false 84 [Sc.val .l (x1)] (.v (.o (.l))) fun y1 =>
  .br (x0) (
    .rd ({ a := y1.a, n := y1.n, c := y1.c : SlV }) ((1 : Nat)) fun y2 =>
    .rq (one y2 = true ∧ ((0 : Nat) + y1.n) * (8 : Nat) ≤ (140737488355328 : Nat) ∧ (0 : Nat) + y1.n ≤ (9223372036854775807 : Nat)) <|
    .fz ((0 : Nat) + y1.n) ([] ++ y2) 3 fun b3 c3 =>
    .ret [Sh1.val (.g [.b, .l]) ((decide ((↑y1.n : Int) > (0 : Int))), (⟨(some { block := b3, off := (0 : Nat) : Go.Addr }), ((0 : Nat) + y1.n), (c3)⟩ : SlV), ())]) <|
  .rd ({ a := y1.a, n := y1.n, c := y1.c : SlV }) ((1 : Nat)) fun y2 =>
  .rq (one y2 = true ∧ ((0 : Nat) + y1.n) * (8 : Nat) ≤ (140737488355328 : Nat) ∧ (0 : Nat) + y1.n ≤ (9223372036854775807 : Nat)) <|
  .fz ((0 : Nat) + y1.n) ([] ++ y2) 3 fun b3 c3 =>
  .ret [Sh1.val (.g [.b, .l]) ((false), (⟨(some { block := b3, off := (0 : Nat) : Go.Addr }), ((0 : Nat) + y1.n), (c3)⟩ : SlV), ())]
theorem fS_l04Make (x0 : Bool) (x1 : SlV) : fits Tryz.prog aS_l04Make 48 [.bool (x0), Sc.val .l (x1)] (tS_l04Make x0 x1) :=
  ⟨Tryz.f48, Tryz.f48.body.getD .skip, by kernel_rfl, by kernel_rfl, by kernel_rfl, by kernel_rfl, by kernel_rfl, by kernel_rfl⟩
/-! loop.example/g00793/spec.l02Mul -/
def aS_l02Mul : An := ⟨[(5, [.s 5, .s 28], [.a 3, .o (.o (.i .i64))]), (9, [.s 5, .s 8, .s 35], [.a 3, .o (.o (.i .i64)), .o (.o (.i .i64))])], [], []⟩
noncomputable def tS_l02Mul (x0 : SlV) (x1 : SlV) : T :=
  .br ((↑x0.n : Int) == (0 : Int)) (
    .ret [.slice (none) ((0 : Nat)) ((0 : Nat))]) <|
  .br ((↑x1.n : Int) == (0 : Int)) (
    .ret [.slice (none) ((0 : Nat)) ((0 : Nat))]) <|
  .rq ((0 : Int) ≤ Go.IntKind.i64.wrap ((↑x0.n : Int) + (↑x1.n : Int)) ∧ Go.IntKind.i64.wrap ((↑x0.n : Int) + (↑x1.n : Int)) ≤ Go.IntKind.i64.wrap ((↑x0.n : Int) + (↑x1.n : Int)) ∧ (↑(8 : Nat) : Int) * Go.IntKind.i64.wrap ((↑x0.n : Int) + (↑x1.n : Int)) ≤ (281474976710656 : Int) ∧ Go.IntKind.i64.wrap ((↑x0.n : Int) + (↑x1.n : Int)) ≤ (9223372036854775807 : Int)) <|
  .lp [.a 3, .o (.o (.i .i64))] [.a 3 ((Go.IntKind.i64.wrap ((↑x0.n : Int) + (↑x1.n : Int))).toNat) ((Go.madeCells { toList := [Go.Value.int Go.IntKind.i64 (0 : Int)] : Array Go.Value } ((Go.IntKind.i64.wrap ((↑x0.n : Int) + (↑x1.n : Int))).toNat * (1 : Nat))).toList), .v (.int .i64 ((0 : Int)))] fun y1 =>
  .br (decide (y1.2.fst < (↑x0.n : Int))) (
    .el (x0.a) (x0.n) (y1.2.fst) fun y2 =>
    .ld false (y2.add (Int.toNat y1.2.fst * (1 : Nat))) (.o (.i .i64)) fun y3 =>
    .lp [.a 3, .o (.o (.i .i64)), .o (.o (.i .i64))] [.a 3 (y1.1.fst) (y1.1.snd), .v (.int .i64 ((0 : Int))), .v (.int .i64 ((0 : Int)))] fun y4 =>
    .br (decide (y4.2.2.fst < (↑x1.n : Int))) (
      .el (x1.a) (x1.n) (y4.2.2.fst) fun y5 =>
      .ld false (y5.add (Int.toNat y4.2.2.fst * (1 : Nat))) (.o (.i .i64)) fun y6 =>
      .rq ((0 : Int) ≤ Go.IntKind.i64.wrap (y1.2.fst + y4.2.2.fst) ∧ Go.IntKind.i64.wrap (y1.2.fst + y4.2.2.fst) < (↑y4.1.fst : Int)) <|
      .xs (y4.1.snd) ((Go.IntKind.i64.wrap (y1.2.fst + y4.2.2.fst)).toNat * (1 : Nat)) (.o (.i .i64)) fun y7 =>
      .rq ((1000000000 : Int) ≠ (0 : Int)) <|
      .rq ((0 : Int) ≤ Go.IntKind.i64.wrap (y1.2.fst + y4.2.2.fst) ∧ Go.IntKind.i64.wrap (y1.2.fst + y4.2.2.fst) < (↑y4.1.fst : Int)) <|
      .rq ((Go.IntKind.i64.wrap (y1.2.fst + y4.2.2.fst)).toNat * (1 : Nat) + [Go.Value.int Go.IntKind.i64 ((Go.IntKind.i64.wrap (Go.IntKind.i64.wrap (y7 + Go.IntKind.i64.wrap (y3 * y6)) + y4.2.fst)).tmod (1000000000 : Int))].length ≤ y4.1.snd.length) <|
      .rq ((1000000000 : Int) ≠ (0 : Int)) <|
      .nx 1 [.a 3 (y4.1.fst) (setl y4.1.snd ((Go.IntKind.i64.wrap (y1.2.fst + y4.2.2.fst)).toNat * (1 : Nat)) [Go.Value.int Go.IntKind.i64 ((Go.IntKind.i64.wrap (Go.IntKind.i64.wrap (y7 + Go.IntKind.i64.wrap (y3 * y6)) + y4.2.fst)).tmod (1000000000 : Int))]), .v (.int .i64 (Go.IntKind.i64.wrap ((Go.IntKind.i64.wrap (Go.IntKind.i64.wrap (y7 + Go.IntKind.i64.wrap (y3 * y6)) + y4.2.fst)).tdiv (1000000000 : Int)))), .v (.int .i64 (Go.IntKind.i64.wrap (y4.2.2.fst + (1 : Int))))]) <|
    .rq ((0 : Int) ≤ Go.IntKind.i64.wrap (y1.2.fst + (↑x1.n : Int)) ∧ Go.IntKind.i64.wrap (y1.2.fst + (↑x1.n : Int)) < (↑y4.1.fst : Int)) <|
    .rq ((Go.IntKind.i64.wrap (y1.2.fst + (↑x1.n : Int))).toNat * (1 : Nat) + [(Sh1.o (Sc.i Go.IntKind.i64)).val y4.2.fst].length ≤ y4.1.snd.length) <|
    .nx 0 [.a 3 (y4.1.fst) (setl y4.1.snd ((Go.IntKind.i64.wrap (y1.2.fst + (↑x1.n : Int))).toNat * (1 : Nat)) [(Sh1.o (Sc.i Go.IntKind.i64)).val y4.2.fst]), .v (.int .i64 (Go.IntKind.i64.wrap (y1.2.fst + (1 : Int))))]) <|
  .fz (y1.1.fst) (y1.1.snd) 3 fun b2 c2 =>
  .call false 85 [.slice (some { block := b2, off := (0 : Nat) : Go.Addr }) (y1.1.fst) (c2)] (.v (.o (.l))) fun y3 =>
  .ret [Sc.val .l (y3)]
theorem fS_l02Mul (x0 : SlV) (x1 : SlV) : fits Tryz.prog aS_l02Mul 49 [Sc.val .l (x0), Sc.val .l (x1)] (tS_l02Mul x0 x1) :=
  ⟨Tryz.f49, Tryz.f49.body.getD .skip, by kernel_rfl, by kernel_rfl, by kernel_rfl, by kernel_rfl, by kernel_rfl, by kernel_rfl⟩
/-! loop.example/g00793/spec.l04Add -/
def aS_l04Add : An := ⟨[], [], []⟩
noncomputable def tS_l04Add (x0 : Bool × SlV × PUnit) (x1 : Bool × SlV × PUnit) : T :=
  .br (x0.fst == x1.fst) (
    .rg <|
    .call true 86 [Sc.val .l (x0.2.1), Sc.val .l (x1.2.1)] (.v (.o (.l))) fun y1 =>
    .call true 48 [.bool (x0.fst), Sc.val .l (y1)] (.v (.g [.b, .l])) fun y2 =>
    .ret [Sh1.val (.g [.b, .l]) (y2)]) <|
  .call false 82 [Sc.val .l (x0.2.1), Sc.val .l (x1.2.1)] (.v (.o (.i .i64))) fun y1 =>
  .br (decide (y1 ≥ (0 : Int))) (
    .rg <|
    .call true 87 [Sc.val .l (x0.2.1), Sc.val .l (x1.2.1)] (.v (.o (.l))) fun y2 =>
    .call true 48 [.bool (x0.fst), Sc.val .l (y2)] (.v (.g [.b, .l])) fun y3 =>
    .ret [Sh1.val (.g [.b, .l]) (y3)]) <|
  .rg <|
  .call true 87 [Sc.val .l (x1.2.1), Sc.val .l (x0.2.1)] (.v (.o (.l))) fun y2 =>
  .call true 48 [.bool (x1.fst), Sc.val .l (y2)] (.v (.g [.b, .l])) fun y3 =>
  .ret [Sh1.val (.g [.b, .l]) (y3)]
theorem fS_l04Add (x0 : Bool × SlV × PUnit) (x1 : Bool × SlV × PUnit) : fits Tryz.prog aS_l04Add 50 [Sh1.val (.g [.b, .l]) (x0), Sh1.val (.g [.b, .l]) (x1)] (tS_l04Add x0 x1) :=
  ⟨Tryz.f50, Tryz.f50.body.getD .skip, by kernel_rfl, by kernel_rfl, by kernel_rfl, by kernel_rfl, by kernel_rfl, by kernel_rfl⟩
/-! loop.example/g00793/spec.l05Low -/
def aS_l05Low : An := ⟨[], [], []⟩
noncomputable def tS_l05Low (x0 : Bool) (x1 : SlV) (x2 : SlV) : T :=
  .call false 85 [Sc.val .l (x1)] (.v (.o (.l))) fun y1 =>
  .call false 85 [Sc.val .l (x2)] (.v (.o (.l))) fun y2 =>
  .br ((↑y2.n : Int) == (0 : Int)) (
    .ret [Sh1.val (.g [.b, .l, .l]) ((false), (⟨(none), ((0 : Nat)), ((0 : Nat))⟩ : SlV), (⟨(none), ((0 : Nat)), ((0 : Nat))⟩ : SlV), ()), .bool (false)]) <|
  .call false 88 [Sc.val .l (y1), Sc.val .l (y2)] (.v (.o (.l))) fun y3 =>
  .call false 89 [Sc.val .l (y1), Sc.val .l (y3)] (.t [(.o (.l)), (.o (.l))]) fun y4 =>
  .call false 89 [Sc.val .l (y2), Sc.val .l (y3)] (.t [(.o (.l)), (.o (.l))]) fun y5 =>
  .br (decide ((↑y4.1.n : Int) > (18 : Int))) (
    .ret [Sh1.val (.g [.b, .l, .l]) ((false), (⟨(none), ((0 : Nat)), ((0 : Nat))⟩ : SlV), (⟨(none), ((0 : Nat)), ((0 : Nat))⟩ : SlV), ()), .bool (false)]) <|
  .br (decide ((↑y5.1.n : Int) > (18 : Int))) (
    .ret [Sh1.val (.g [.b, .l, .l]) ((false), (⟨(none), ((0 : Nat)), ((0 : Nat))⟩ : SlV), (⟨(none), ((0 : Nat)), ((0 : Nat))⟩ : SlV), ()), .bool (false)]) <|
  .call false 48 [.bool (x0), Sc.val .l (y4.1)] (.v (.g [.b, .l])) fun y6 =>
  .rd ({ a := y5.1.a, n := y5.1.n, c := y5.1.c : SlV }) ((1 : Nat)) fun y7 =>
  .rq (one y7 = true ∧ ((0 : Nat) + y5.1.n) * (8 : Nat) ≤ (140737488355328 : Nat) ∧ (0 : Nat) + y5.1.n ≤ (9223372036854775807 : Nat)) <|
  .fz ((0 : Nat) + y5.1.n) ([] ++ y7) 3 fun b8 c8 =>
  .ret [Sh1.val (.g [.b, .l, .l]) ((y6.fst), y6.2.1, (⟨(some { block := b8, off := (0 : Nat) : Go.Addr }), ((0 : Nat) + y5.1.n), (c8)⟩ : SlV), ()), .bool (true)]
theorem fS_l05Low (x0 : Bool) (x1 : SlV) (x2 : SlV) : fits Tryz.prog aS_l05Low 51 [.bool (x0), Sc.val .l (x1), Sc.val .l (x2)] (tS_l05Low x0 x1 x2) :=
  ⟨Tryz.f51, Tryz.f51.body.getD .skip, by kernel_rfl, by kernel_rfl, by kernel_rfl, by kernel_rfl, by kernel_rfl, by kernel_rfl⟩
/-! loop.example/g00793/spec.l19Rat -/
def aS_l19Rat : An := ⟨[], [], []⟩
noncomputable def tS_l19Rat (x0 : Bool × SlV × SlV × PUnit) : T :=
  .rg <|
  .es [] 3 fun b1 =>
  .ra ({ a := x0.2.1.a, n := x0.2.1.n, c := x0.2.1.c : SlV }) ((1 : Nat)) fun y2 =>
  .rq (one y2 = true ∧ x0.2.1.n * (8 : Nat) ≤ (140737488355328 : Nat) ∧ x0.2.1.n ≤ (9223372036854775807 : Nat)) <|
  .br (decide (x0.2.1.n = (0 : Nat))) (
    .es [] 3 fun b3 =>
    .ra ({ a := x0.2.2.1.a, n := x0.2.2.1.n, c := x0.2.2.1.c : SlV }) ((1 : Nat)) fun y4 =>
    .rq (one y4 = true ∧ x0.2.2.1.n * (8 : Nat) ≤ (140737488355328 : Nat) ∧ x0.2.2.1.n ≤ (9223372036854775807 : Nat)) <|
    .br (decide (x0.2.2.1.n = (0 : Nat))) (
      .ret [Sh1.val (.g [.b, .l, .l]) ((x0.fst), (⟨(some { block := b1, off := (0 : Nat) : Go.Addr }), ((0 : Nat)), ((0 : Nat))⟩ : SlV), (⟨(some { block := b3, off := (0 : Nat) : Go.Addr }), ((0 : Nat)), ((0 : Nat))⟩ : SlV), ())]) <|
    .fz (x0.2.2.1.n) (y4) 3 fun b5 c5 =>
    .ret [Sh1.val (.g [.b, .l, .l]) ((x0.fst), (⟨(some { block := b1, off := (0 : Nat) : Go.Addr }), ((0 : Nat)), ((0 : Nat))⟩ : SlV), (⟨(some { block := b5, off := (0 : Nat) : Go.Addr }), (x0.2.2.1.n), (c5)⟩ : SlV), ())]) <|
  .fz (x0.2.1.n) (y2) 3 fun b3 c3 =>
  .es [] 3 fun b4 =>
  .ra ({ a := x0.2.2.1.a, n := x0.2.2.1.n, c := x0.2.2.1.c : SlV }) ((1 : Nat)) fun y5 =>
  .rq (one y5 = true ∧ x0.2.2.1.n * (8 : Nat) ≤ (140737488355328 : Nat) ∧ x0.2.2.1.n ≤ (9223372036854775807 : Nat)) <|
  .br (decide (x0.2.2.1.n = (0 : Nat))) (
    .ret [Sh1.val (.g [.b, .l, .l]) ((x0.fst), (⟨(some { block := b3, off := (0 : Nat) : Go.Addr }), (x0.2.1.n), (c3)⟩ : SlV), (⟨(some { block := b4, off := (0 : Nat) : Go.Addr }), ((0 : Nat)), ((0 : Nat))⟩ : SlV), ())]) <|
  .fz (x0.2.2.1.n) (y5) 3 fun b6 c6 =>
  .ret [Sh1.val (.g [.b, .l, .l]) ((x0.fst), (⟨(some { block := b3, off := (0 : Nat) : Go.Addr }), (x0.2.1.n), (c3)⟩ : SlV), (⟨(some { block := b6, off := (0 : Nat) : Go.Addr }), (x0.2.2.1.n), (c6)⟩ : SlV), ())]
theorem fS_l19Rat (x0 : Bool × SlV × SlV × PUnit) : fits Tryz.prog aS_l19Rat 52 [Sh1.val (.g [.b, .l, .l]) (x0)] (tS_l19Rat x0) :=
  ⟨Tryz.f52, Tryz.f52.body.getD .skip, by kernel_rfl, by kernel_rfl, by kernel_rfl, by kernel_rfl, by kernel_rfl, by kernel_rfl⟩
/-! loop.example/g00793/spec.RatZero -/
def aS_RatZero : An := ⟨[], [], []⟩
noncomputable def tS_RatZero  : T :=
  .fz ((1 : Nat)) [.int .i64 ((1 : Int))] 3 fun b1 c1 =>
  .ret [Sh1.val (.g [.b, .l, .l]) ((false), (⟨(none), ((0 : Nat)), ((0 : Nat))⟩ : SlV), (⟨(some { block := b1, off := (0 : Nat) : Go.Addr }), ((1 : Nat)), (c1)⟩ : SlV), ())]
theorem fS_RatZero  : fits Tryz.prog aS_RatZero 53 [] (tS_RatZero ) :=
  ⟨Tryz.f53, Tryz.f53.body.getD .skip, by kernel_rfl, by kernel_rfl, by kernel_rfl, by kernel_rfl, by kernel_rfl, by kernel_rfl⟩
/-! loop.example/g00793/laws.toAcctS -/
def aL_toAcctS : An := ⟨[(3, [.s 3, .s 4], [.a 91, .o (.o (.i .i64))])], [], []⟩
noncomputable def tL_toAcctS (x0 : SlV) : T :=
  .rq ((0 : Int) ≤ (↑x0.n : Int) ∧ (↑x0.n : Int) ≤ (↑x0.n : Int) ∧ (↑(64 : Nat) : Int) * (↑x0.n : Int) ≤ (281474976710656 : Int) ∧ (↑x0.n : Int) ≤ (9223372036854775807 : Int)) <|
  .lp [.a 91, .o (.o (.i .i64))] [.a 91 ((↑x0.n : Int).toNat) ((Go.madeCells { toList := [Go.Value.string { data := { toList := [] : Array UInt8 } : ByteArray }, Go.Value.string { data := { toList := [] : Array UInt8 } : ByteArray }, Go.Value.bool false, Go.Value.slice none (0 : Nat) (0 : Nat)] : Array Go.Value } ((↑x0.n : Int).toNat * (4 : Nat))).toList), .v (.int .i64 ((0 : Int)))] fun y1 =>
  .br (decide (y1.2.fst < (↑x0.n : Int))) (
    .el (x0.a) (x0.n) (y1.2.fst) fun y2 =>
    .ld false (y2.add (Int.toNat y1.2.fst * (4 : Nat))) (.g [.s, .s, .b, .l]) fun y3 =>
    .call false 90 [Sh1.val (.g [.s, .s, .b, .l]) (y3)] (.v (.g [.s, .s, .b, .l])) fun y4 =>
    .rq ((0 : Int) ≤ y1.2.fst ∧ y1.2.fst < (↑y1.1.fst : Int)) <|
    .rq (Int.toNat y1.2.fst * (4 : Nat) + [Go.Value.string y4.fst, Go.Value.string y4.2.fst, Go.Value.bool y4.2.2.fst, Go.Value.slice y4.2.2.2.1.a y4.2.2.2.1.n y4.2.2.2.1.c].length ≤ y1.1.snd.length) <|
    .nx 0 [.a 91 (y1.1.fst) (setl y1.1.snd (Int.toNat y1.2.fst * (4 : Nat)) [Go.Value.string y4.fst, Go.Value.string y4.2.fst, Go.Value.bool y4.2.2.fst, Go.Value.slice y4.2.2.2.1.a y4.2.2.2.1.n y4.2.2.2.1.c]), .v (.int .i64 (Go.IntKind.i64.wrap (y1.2.fst + (1 : Int))))]) <|
  .fz (y1.1.fst) (y1.1.snd) 91 fun b2 c2 =>
  .ret [.slice (some { block := b2, off := (0 : Nat) : Go.Addr }) (y1.1.fst) (c2)]
theorem fL_toAcctS (x0 : SlV) : fits Tryz.prog aL_toAcctS 54 [Sc.val .l (x0)] (tL_toAcctS x0) :=
  ⟨Tryz.f54, Tryz.f54.body.getD .skip, by kernel_rfl, by kernel_rfl, by kernel_rfl, by kernel_rfl, by kernel_rfl, by kernel_rfl⟩
/-! loop.example/g00793/laws.toRest -/
def aL_toRest : An := ⟨[], [], []⟩
noncomputable def tL_toRest (x0 : ByteArray × Bool × SlV × SlV × PUnit) : T :=
  .call false 91 [Sh1.val (.g [.b, .l, .l]) (x0.2)] (.v (.g [.b, .l, .l])) fun y1 =>
  .ret [Sh1.val (.g [.s, .b, .l, .l]) ((x0.fst), (y1.fst), y1.2.1, y1.2.2.1, ())]
theorem fL_toRest (x0 : ByteArray × Bool × SlV × SlV × PUnit) : fits Tryz.prog aL_toRest 55 [Sh1.val (.g [.s, .b, .l, .l]) (x0)] (tL_toRest x0) :=
  ⟨Tryz.f55, Tryz.f55.body.getD .skip, by kernel_rfl, by kernel_rfl, by kernel_rfl, by kernel_rfl, by kernel_rfl, by kernel_rfl⟩
/-! loop.example/g00793/laws.toRateS -/
def aL_toRateS : An := ⟨[(3, [.s 3, .s 4], [.a 127, .o (.o (.i .i64))])], [], []⟩
noncomputable def tL_toRateS (x0 : SlV) : T :=
  .rq ((0 : Int) ≤ (↑x0.n : Int) ∧ (↑x0.n : Int) ≤ (↑x0.n : Int) ∧ (↑(72 : Nat) : Int) * (↑x0.n : Int) ≤ (281474976710656 : Int) ∧ (↑x0.n : Int) ≤ (9223372036854775807 : Int)) <|
  .lp [.a 127, .o (.o (.i .i64))] [.a 127 ((↑x0.n : Int).toNat) ((Go.madeCells { toList := [Go.Value.string { data := { toList := [] : Array UInt8 } : ByteArray }, Go.Value.string { data := { toList := [] : Array UInt8 } : ByteArray }, Go.Value.bool false, Go.Value.slice none (0 : Nat) (0 : Nat), Go.Value.int Go.IntKind.i64 (0 : Int)] : Array Go.Value } ((↑x0.n : Int).toNat * (5 : Nat))).toList), .v (.int .i64 ((0 : Int)))] fun y1 =>
  .br (decide (y1.2.fst < (↑x0.n : Int))) (
    .el (x0.a) (x0.n) (y1.2.fst) fun y2 =>
    .ld false (y2.add (Int.toNat y1.2.fst * (5 : Nat))) (.g [.s, .s, .b, .l, .i .i64]) fun y3 =>
    .call false 92 [Sh1.val (.g [.s, .s, .b, .l, .i .i64]) (y3)] (.v (.g [.s, .s, .b, .l, .i .i64])) fun y4 =>
    .rq ((0 : Int) ≤ y1.2.fst ∧ y1.2.fst < (↑y1.1.fst : Int)) <|
    .rq (Int.toNat y1.2.fst * (5 : Nat) + [Go.Value.string y4.fst, Go.Value.string y4.2.fst, Go.Value.bool y4.2.2.fst, Go.Value.slice y4.2.2.2.1.a y4.2.2.2.1.n y4.2.2.2.1.c, Go.Value.int Go.IntKind.i64 y4.2.2.2.2.fst].length ≤ y1.1.snd.length) <|
    .nx 0 [.a 127 (y1.1.fst) (setl y1.1.snd (Int.toNat y1.2.fst * (5 : Nat)) [Go.Value.string y4.fst, Go.Value.string y4.2.fst, Go.Value.bool y4.2.2.fst, Go.Value.slice y4.2.2.2.1.a y4.2.2.2.1.n y4.2.2.2.1.c, Go.Value.int Go.IntKind.i64 y4.2.2.2.2.fst]), .v (.int .i64 (Go.IntKind.i64.wrap (y1.2.fst + (1 : Int))))]) <|
  .fz (y1.1.fst) (y1.1.snd) 127 fun b2 c2 =>
  .ret [.slice (some { block := b2, off := (0 : Nat) : Go.Addr }) (y1.1.fst) (c2)]
theorem fL_toRateS (x0 : SlV) : fits Tryz.prog aL_toRateS 56 [Sc.val .l (x0)] (tL_toRateS x0) :=
  ⟨Tryz.f56, Tryz.f56.body.getD .skip, by kernel_rfl, by kernel_rfl, by kernel_rfl, by kernel_rfl, by kernel_rfl, by kernel_rfl⟩
/-! loop.example/g00793/impl.BookOk -/
def aI_BookOk : An := ⟨[(4, [.s 12], [.o (.o (.i .i64))])], [], []⟩
noncomputable def tI_BookOk (x0 : SlV × PUnit) : T :=
  .br (decide ((↑x0.1.n : Int) > (12 : Int))) (
    .ret [.bool (false)]) <|
  .lp [.o (.o (.i .i64))] [.v (.int .i64 ((0 : Int)))] fun y1 =>
  .br (decide (y1.fst < (↑x0.1.n : Int))) (
    .el (x0.1.a) (x0.1.n) (y1.fst) fun y2 =>
    .ld false (y2.add (Int.toNat y1.fst * (4 : Nat))) (.g [.s, .s, .b, .l]) fun y3 =>
    .rg <|
    .call true 93 [.string (y3.fst)] (.v (.o (.b))) fun y4 =>
    .br (!y4) (
      .ret [.bool (false)]) <|
    .call true 94 [Sh1.val (.g [.s, .b, .l]) (y3.2)] (.v (.o (.b))) fun y5 =>
    .br (!y5) (
      .ret [.bool (false)]) <|
    .br (decide (y1.fst > (0 : Int))) (
      .el (x0.1.a) (x0.1.n) (Go.IntKind.i64.wrap (y1.fst - (1 : Int))) fun y6 =>
      .ld true ((y6.add ((Go.IntKind.i64.wrap (y1.fst - (1 : Int))).toNat * (4 : Nat))).add (0 : Nat)) (.o (.s)) fun y7 =>
      .br (!Go.Op.bytesLess y7.toList (ByteArray.toList y3.fst)) (
        .ret [.bool (false)]) <|
      .nx 0 [.v (.int .i64 (Go.IntKind.i64.wrap (y1.fst + (1 : Int))))]) <|
    .nx 0 [.v (.int .i64 (Go.IntKind.i64.wrap (y1.fst + (1 : Int))))]) <|
  .ret [.bool (true)]
theorem fI_BookOk (x0 : SlV × PUnit) : fits Tryz.prog aI_BookOk 57 [Sh1.val (.g [.l]) (x0)] (tI_BookOk x0) :=
  ⟨Tryz.f57, Tryz.f57.body.getD .skip, by kernel_rfl, by kernel_rfl, by kernel_rfl, by kernel_rfl, by kernel_rfl, by kernel_rfl⟩
/-! loop.example/g00793/impl.RestsOk -/
def aI_RestsOk : An := ⟨[(2, [.s 7], [.o (.o (.i .i64))])], [], []⟩
noncomputable def tI_RestsOk (x0 : SlV) : T :=
  .lp [.o (.o (.i .i64))] [.v (.int .i64 ((0 : Int)))] fun y1 =>
  .br (decide (y1.fst < (↑x0.n : Int))) (
    .el (x0.a) (x0.n) (y1.fst) fun y2 =>
    .ld false (y2.add (Int.toNat y1.fst * (4 : Nat))) (.g [.s, .b, .l, .l]) fun y3 =>
    .rg <|
    .call true 95 [.string (y3.fst)] (.v (.o (.b))) fun y4 =>
    .br (!y4) (
      .ret [.bool (false)]) <|
    .call true 96 [Sh1.val (.g [.b, .l, .l]) (y3.2)] (.v (.o (.b))) fun y5 =>
    .br (!y5) (
      .ret [.bool (false)]) <|
    .call true 97 [Sh1.val (.g [.b, .l, .l]) (y3.2)] (.v (.o (.i .i64))) fun y6 =>
    .br (y6 == (0 : Int)) (
      .ret [.bool (false)]) <|
    .br (decide (y1.fst > (0 : Int))) (
      .el (x0.a) (x0.n) (Go.IntKind.i64.wrap (y1.fst - (1 : Int))) fun y7 =>
      .ld true ((y7.add ((Go.IntKind.i64.wrap (y1.fst - (1 : Int))).toNat * (4 : Nat))).add (0 : Nat)) (.o (.s)) fun y8 =>
      .br (!Go.Op.bytesLess y8.toList (ByteArray.toList y3.fst)) (
        .ret [.bool (false)]) <|
      .nx 0 [.v (.int .i64 (Go.IntKind.i64.wrap (y1.fst + (1 : Int))))]) <|
    .nx 0 [.v (.int .i64 (Go.IntKind.i64.wrap (y1.fst + (1 : Int))))]) <|
  .ret [.bool (true)]
theorem fI_RestsOk (x0 : SlV) : fits Tryz.prog aI_RestsOk 58 [Sc.val .l (x0)] (tI_RestsOk x0) :=
  ⟨Tryz.f58, Tryz.f58.body.getD .skip, by kernel_rfl, by kernel_rfl, by kernel_rfl, by kernel_rfl, by kernel_rfl, by kernel_rfl⟩
/-! loop.example/g00793/impl.RatesOk -/
def aI_RatesOk : An := ⟨[(5, [.s 21], [.o (.o (.i .i64))])], [], []⟩
noncomputable def tI_RatesOk (x0 : ByteArray × SlV × PUnit) : T :=
  .call false 95 [.string (x0.fst)] (.v (.o (.b))) fun y1 =>
  .br (!y1) (
    .ret [.bool (false)]) <|
  .br (decide ((↑x0.2.1.n : Int) > (12 : Int))) (
    .ret [.bool (false)]) <|
  .mo (.mk 140) (.v (.o (.x))) fun y2 =>
  .lp [.o (.o (.i .i64))] [.v (.int .i64 ((0 : Int)))] fun y3 =>
  .br (decide (y3.fst < (↑x0.2.1.n : Int))) (
    .el (x0.2.1.a) (x0.2.1.n) (y3.fst) fun y4 =>
    .ld false (y4.add (Int.toNat y3.fst * (5 : Nat))) (.g [.s, .s, .b, .l, .i .i64]) fun y5 =>
    .call false 98 [Sh1.val (.g [.s, .s, .b, .l, .i .i64]) (y5)] (.v (.o (.b))) fun y6 =>
    .br (!y6) (
      .ret [.bool (false)]) <|
    .mo (.lk 140 ((y2.1)) (Sh1.val (.g [.s, .s]) ((y5.fst), (y5.2.fst), ())) false) (.v (.o (.b))) fun y7 =>
    .br (y7) (
      .ret [.bool (false)]) <|
    .mo (.up 140 ((y2.1)) (Sh1.val (.g [.s, .s]) ((y5.fst), (y5.2.fst), ())) (.bool (true))) (.t []) fun _ =>
    .nx 0 [.v (.int .i64 (Go.IntKind.i64.wrap (y3.fst + (1 : Int))))]) <|
  .ret [.bool (true)]
theorem fI_RatesOk (x0 : ByteArray × SlV × PUnit) : fits Tryz.prog aI_RatesOk 59 [Sh1.val (.g [.s, .l]) (x0)] (tI_RatesOk x0) :=
  ⟨Tryz.f59, Tryz.f59.body.getD .skip, by kernel_rfl, by kernel_rfl, by kernel_rfl, by kernel_rfl, by kernel_rfl, by kernel_rfl⟩
/-! loop.example/g00793/impl.RatInt -/
def aI_RatInt : An := ⟨[], [], []⟩
noncomputable def tI_RatInt (x0 : Bool × SlV × PUnit) : T :=
  .rg <|
  .call true 100 [.int .i64 ((1 : Int))] (.v (.g [.b, .l])) fun y1 =>
  .call true 99 [Sh1.val (.g [.b, .l]) (x0), Sh1.val (.g [.b, .l]) (y1)] (.t [(.g [.b, .l, .l]), (.o (.b))]) fun y2 =>
  .ret [Sh1.val (.g [.b, .l, .l]) (y2.1), .bool (y2.2.fst)]
theorem fI_RatInt (x0 : Bool × SlV × PUnit) : fits Tryz.prog aI_RatInt 60 [Sh1.val (.g [.b, .l]) (x0)] (tI_RatInt x0) :=
  ⟨Tryz.f60, Tryz.f60.body.getD .skip, by kernel_rfl, by kernel_rfl, by kernel_rfl, by kernel_rfl, by kernel_rfl, by kernel_rfl⟩
/-! loop.example/g00793/impl.BookSum -/
def aI_BookSum : An := ⟨[(5, [.s 16, .c 5 0, .c 5 1], [.o (.o (.i .i64)), .o (.o (.b)), .o (.o (.l))])], [], []⟩
noncomputable def tI_BookSum (x0 : SlV × PUnit) (x1 : ByteArray) : T :=
  .call false 57 [Sh1.val (.g [.l]) (x0)] (.v (.o (.b))) fun y1 =>
  .br (!y1) (
    .ret [Sh1.val (.g [.b, .l]) ((false), (⟨(none), ((0 : Nat)), ((0 : Nat))⟩ : SlV), ())]) <|
  .lp [.o (.o (.i .i64)), .o (.o (.b)), .o (.o (.l))] [.v (.int .i64 ((0 : Int))), .v (.bool (false)), .v (.slice (none) ((0 : Nat)) ((0 : Nat)))] fun y2 =>
  .br (decide (y2.fst < (↑x0.1.n : Int))) (
    .el (x0.1.a) (x0.1.n) (y2.fst) fun y3 =>
    .ld false (y3.add (Int.toNat y2.fst * (4 : Nat))) (.g [.s, .s, .b, .l]) fun y4 =>
    .br (ByteArray.toList y4.2.fst == x1.toList) (
      .call false 101 [Sh1.val (.g [.b, .l]) (y2.2), Sh1.val (.g [.b, .l]) (y4.2.2)] (.v (.g [.b, .l])) fun y5 =>
      .nx 0 [.v (.int .i64 (Go.IntKind.i64.wrap (y2.fst + (1 : Int)))), .v (.bool (y5.fst)), .v (Sc.val .l (y5.2.1))]) <|
    .nx 0 [.v (.int .i64 (Go.IntKind.i64.wrap (y2.fst + (1 : Int)))), .v (.bool (y2.2.fst)), .v (Sc.val .l (y2.2.2.1))]) <|
  .ret [Sh1.val (.g [.b, .l]) (y2.2)]
theorem fI_BookSum (x0 : SlV × PUnit) (x1 : ByteArray) : fits Tryz.prog aI_BookSum 61 [Sh1.val (.g [.l]) (x0), .string (x1)] (tI_BookSum x0 x1) :=
  ⟨Tryz.f61, Tryz.f61.body.getD .skip, by kernel_rfl, by kernel_rfl, by kernel_rfl, by kernel_rfl, by kernel_rfl, by kernel_rfl⟩
/-! loop.example/g00793/impl.RatAdd -/
def aI_RatAdd : An := ⟨[], [], []⟩
noncomputable def tI_RatAdd (x0 : Bool × SlV × SlV × PUnit) (x1 : Bool × SlV × SlV × PUnit) : T :=
  .call false 102 [Sh1.val (.g [.b, .l, .l]) (x0), Sh1.val (.g [.b, .l, .l]) (x1)] (.v (.o (.b))) fun y1 =>
  .br (!y1) (
    .ret [Sh1.val (.g [.b, .l, .l]) ((false), (⟨(none), ((0 : Nat)), ((0 : Nat))⟩ : SlV), (⟨(none), ((0 : Nat)), ((0 : Nat))⟩ : SlV), ()), .bool (false)]) <|
  .rg <|
  .rg <|
  .call true 103 [Sh1.val (.g [.b, .l, .l]) (x0), Sc.val .l (x1.2.2.1)] (.v (.g [.b, .l])) fun y2 =>
  .call true 103 [Sh1.val (.g [.b, .l, .l]) (x1), Sc.val .l (x0.2.2.1)] (.v (.g [.b, .l])) fun y3 =>
  .call true 101 [Sh1.val (.g [.b, .l]) (y2), Sh1.val (.g [.b, .l]) (y3)] (.v (.g [.b, .l])) fun y4 =>
  .call true 105 [Sc.val .l (x0.2.2.1), Sc.val .l (x1.2.2.1)] (.v (.o (.l))) fun y5 =>
  .call true 104 [Sh1.val (.g [.b, .l]) (y4), Sc.val .l (y5)] (.t [(.g [.b, .l, .l]), (.o (.b))]) fun y6 =>
  .ret [Sh1.val (.g [.b, .l, .l]) (y6.1), .bool (y6.2.fst)]
theorem fI_RatAdd (x0 : Bool × SlV × SlV × PUnit) (x1 : Bool × SlV × SlV × PUnit) : fits Tryz.prog aI_RatAdd 62 [Sh1.val (.g [.b, .l, .l]) (x0), Sh1.val (.g [.b, .l, .l]) (x1)] (tI_RatAdd x0 x1) :=
  ⟨Tryz.f62, Tryz.f62.body.getD .skip, by kernel_rfl, by kernel_rfl, by kernel_rfl, by kernel_rfl, by kernel_rfl, by kernel_rfl⟩
/-! loop.example/g00793/impl.RestOf -/
def aI_RestOf : An := ⟨[(2, [.s 9, .c 4 0, .c 4 1, .c 4 2], [.o (.o (.i .i64)), .o (.o (.b)), .o (.o (.l)), .o (.o (.l))])], [], []⟩
noncomputable def tI_RestOf (x0 : SlV) (x1 : ByteArray) : T :=
  .lp [.o (.o (.i .i64)), .o (.o (.b)), .o (.o (.l)), .o (.o (.l))] [.v (.int .i64 ((0 : Int))), .v (.bool (false)), .v (.slice (none) ((0 : Nat)) ((0 : Nat))), .v (.slice (none) ((0 : Nat)) ((0 : Nat)))] fun y1 =>
  .br (decide (y1.fst < (↑x0.n : Int))) (
    .el (x0.a) (x0.n) (y1.fst) fun y2 =>
    .ld false (y2.add (Int.toNat y1.fst * (4 : Nat))) (.g [.s, .b, .l, .l]) fun y3 =>
    .br (ByteArray.toList y3.fst == x1.toList) (
      .call false 106 [Sh1.val (.g [.b, .l, .l]) (y3.2)] (.v (.g [.b, .l, .l])) fun y4 =>
      .ret [Sh1.val (.g [.b, .l, .l]) (y4)]) <|
    .nx 0 [.v (.int .i64 (Go.IntKind.i64.wrap (y1.fst + (1 : Int)))), .v (.bool (y1.2.fst)), .v (Sc.val .l (y1.2.2.1)), .v (Sc.val .l (y1.2.2.2.1))]) <|
  .call false 107 [] (.v (.g [.b, .l, .l])) fun y2 =>
  .ret [Sh1.val (.g [.b, .l, .l]) (y2)]
theorem fI_RestOf (x0 : SlV) (x1 : ByteArray) : fits Tryz.prog aI_RestOf 63 [Sc.val .l (x0), .string (x1)] (tI_RestOf x0 x1) :=
  ⟨Tryz.f63, Tryz.f63.body.getD .skip, by kernel_rfl, by kernel_rfl, by kernel_rfl, by kernel_rfl, by kernel_rfl, by kernel_rfl⟩
/-! loop.example/g00793/laws.eqAcctS -/
def aL_eqAcctS : An := ⟨[(4, [.s 5], [.o (.o (.i .i64))])], [], []⟩
noncomputable def tL_eqAcctS (x0 : SlV) (x1 : SlV) : T :=
  .br ((↑x0.n : Int) != (↑x1.n : Int)) (
    .ret [.bool (false)]) <|
  .lp [.o (.o (.i .i64))] [.v (.int .i64 ((0 : Int)))] fun y1 =>
  .br (decide (y1.fst < (↑x0.n : Int))) (
    .rg <|
    .el (x0.a) (x0.n) (y1.fst) fun y2 =>
    .ld true (y2.add (Int.toNat y1.fst * (4 : Nat))) (.g [.s, .s, .b, .l]) fun y3 =>
    .el (x1.a) (x1.n) (y1.fst) fun y4 =>
    .ld true (y4.add (Int.toNat y1.fst * (4 : Nat))) (.g [.s, .s, .b, .l]) fun y5 =>
    .call true 108 [Sh1.val (.g [.s, .s, .b, .l]) (y3), Sh1.val (.g [.s, .s, .b, .l]) (y5)] (.v (.o (.b))) fun y6 =>
    .br (!y6) (
      .ret [.bool (false)]) <|
    .nx 0 [.v (.int .i64 (Go.IntKind.i64.wrap (y1.fst + (1 : Int))))]) <|
  .ret [.bool (true)]
theorem fL_eqAcctS (x0 : SlV) (x1 : SlV) : fits Tryz.prog aL_eqAcctS 64 [Sc.val .l (x0), Sc.val .l (x1)] (tL_eqAcctS x0 x1) :=
  ⟨Tryz.f64, Tryz.f64.body.getD .skip, by kernel_rfl, by kernel_rfl, by kernel_rfl, by kernel_rfl, by kernel_rfl, by kernel_rfl⟩
/-! loop.example/g00793/laws.eqRest -/
def aL_eqRest : An := ⟨[], [], []⟩
noncomputable def tL_eqRest (x0 : ByteArray × Bool × SlV × SlV × PUnit) (x1 : ByteArray × Bool × SlV × SlV × PUnit) : T :=
  .br (!ByteArray.toList x0.fst == ByteArray.toList x1.fst) (
    .ret [.bool (false)]) <|
  .call false 8 [Sh1.val (.g [.b, .l, .l]) (x0.2), Sh1.val (.g [.b, .l, .l]) (x1.2)] (.v (.o (.b))) fun y1 =>
  .br (!y1) (
    .ret [.bool (false)]) <|
  .ret [.bool (true)]
theorem fL_eqRest (x0 : ByteArray × Bool × SlV × SlV × PUnit) (x1 : ByteArray × Bool × SlV × SlV × PUnit) : fits Tryz.prog aL_eqRest 65 [Sh1.val (.g [.s, .b, .l, .l]) (x0), Sh1.val (.g [.s, .b, .l, .l]) (x1)] (tL_eqRest x0 x1) :=
  ⟨Tryz.f65, Tryz.f65.body.getD .skip, by kernel_rfl, by kernel_rfl, by kernel_rfl, by kernel_rfl, by kernel_rfl, by kernel_rfl⟩
/-! loop.example/g00793/laws.eqRateS -/
def aL_eqRateS : An := ⟨[(4, [.s 5], [.o (.o (.i .i64))])], [], []⟩
noncomputable def tL_eqRateS (x0 : SlV) (x1 : SlV) : T :=
  .br ((↑x0.n : Int) != (↑x1.n : Int)) (
    .ret [.bool (false)]) <|
  .lp [.o (.o (.i .i64))] [.v (.int .i64 ((0 : Int)))] fun y1 =>
  .br (decide (y1.fst < (↑x0.n : Int))) (
    .rg <|
    .el (x0.a) (x0.n) (y1.fst) fun y2 =>
    .ld true (y2.add (Int.toNat y1.fst * (5 : Nat))) (.g [.s, .s, .b, .l, .i .i64]) fun y3 =>
    .el (x1.a) (x1.n) (y1.fst) fun y4 =>
    .ld true (y4.add (Int.toNat y1.fst * (5 : Nat))) (.g [.s, .s, .b, .l, .i .i64]) fun y5 =>
    .call true 109 [Sh1.val (.g [.s, .s, .b, .l, .i .i64]) (y3), Sh1.val (.g [.s, .s, .b, .l, .i .i64]) (y5)] (.v (.o (.b))) fun y6 =>
    .br (!y6) (
      .ret [.bool (false)]) <|
    .nx 0 [.v (.int .i64 (Go.IntKind.i64.wrap (y1.fst + (1 : Int))))]) <|
  .ret [.bool (true)]
theorem fL_eqRateS (x0 : SlV) (x1 : SlV) : fits Tryz.prog aL_eqRateS 66 [Sc.val .l (x0), Sc.val .l (x1)] (tL_eqRateS x0 x1) :=
  ⟨Tryz.f66, Tryz.f66.body.getD .skip, by kernel_rfl, by kernel_rfl, by kernel_rfl, by kernel_rfl, by kernel_rfl, by kernel_rfl⟩
/-! loop.example/g00793/laws.markAcctS -/
def aL_markAcctS : An := ⟨[(2, [.s 1, .s 5], [.o (.o (.i .i64)), .o (.o (.i .i64))])], [], []⟩
noncomputable def tL_markAcctS (x0 : SlV) (x1 : Int) : T :=
  .lp [.o (.o (.i .i64)), .o (.o (.i .i64))] [.v (.int .i64 (x1)), .v (.int .i64 ((0 : Int)))] fun y1 =>
  .br (decide (y1.2.fst < (↑x0.n : Int))) (
    .call false 68 [.int .i64 (y1.fst)] (.v (.o (.s))) fun y2 =>
    .el (x0.a) (x0.n) (y1.2.fst) fun y3 =>
    .st ((y3.add (Int.toNat y1.2.fst * (4 : Nat))).add (0 : Nat)) [.string (y2)] <|
    .call false 68 [.int .i64 (Go.IntKind.i64.wrap (y1.fst + (1 : Int)))] (.v (.o (.s))) fun y4 =>
    .el (x0.a) (x0.n) (y1.2.fst) fun y5 =>
    .st (((y5.add (Int.toNat y1.2.fst * (4 : Nat))).add (1 : Nat)).add (0 : Nat)) [.string (y4)] <|
    .rq ((3 : Int) ≠ (0 : Int)) <|
    .el (x0.a) (x0.n) (y1.2.fst) fun y6 =>
    .st ((((y6.add (Int.toNat y1.2.fst * (4 : Nat))).add (1 : Nat)).add (1 : Nat)).add (0 : Nat)) [.bool ((Go.IntKind.i64.wrap (Go.IntKind.i64.wrap (y1.fst + (1 : Int)) + (1 : Int))).tmod (3 : Int) == (0 : Int))] <|
    .el (x0.a) (x0.n) (y1.2.fst) fun y7 =>
    .ld false ((((y7.add (Int.toNat y1.2.fst * (4 : Nat))).add (1 : Nat)).add (1 : Nat)).add (1 : Nat)) (.o (.l)) fun y8 =>
    .call false 35 [Sc.val .l (y8), .int .i64 (Go.IntKind.i64.wrap (Go.IntKind.i64.wrap (Go.IntKind.i64.wrap (y1.fst + (1 : Int)) + (1 : Int)) + (1 : Int)))] (.v (.o (.i .i64))) fun y9 =>
    .nx 0 [.v (.int .i64 (y9)), .v (.int .i64 (Go.IntKind.i64.wrap (y1.2.fst + (1 : Int))))]) <|
  .ret [.int .i64 (y1.fst)]
theorem fL_markAcctS (x0 : SlV) (x1 : Int) : fits Tryz.prog aL_markAcctS 67 [Sc.val .l (x0), .int .i64 (x1)] (tL_markAcctS x0 x1) :=
  ⟨Tryz.f67, Tryz.f67.body.getD .skip, by kernel_rfl, by kernel_rfl, by kernel_rfl, by kernel_rfl, by kernel_rfl, by kernel_rfl⟩
/-! loop.example/g00793/laws.markText -/
def aL_markText : An := ⟨[(4, [.s 0, .s 3], [.o (.o (.i .i64)), .o (.o (.s))])], [], []⟩
noncomputable def tL_markText (x0 : Int) : T :=
  .br (decide (x0 ≤ (0 : Int))) (
    .ret [.string ({ data := { toList := [(109 : UInt8), (48 : UInt8)] : Array UInt8 } : ByteArray })]) <|
  .lp [.o (.o (.i .i64)), .o (.o (.s))] [.v (.int .i64 (x0)), .v (.string ({ data := { toList := [] : Array UInt8 } : ByteArray }))] fun y1 =>
  .br (decide (y1.fst > (0 : Int))) (
    .rq ((10 : Int) ≠ (0 : Int)) <|
    .fz ((1 : Nat)) [.int .u8 (Go.IntKind.u8.wrap (Go.IntKind.i64.wrap ((48 : Int) + Int.tmod y1.fst (10 : Int))))] 5 fun b2 c2 =>
    .rd ({ a := some { block := b2, off := (0 : Nat) : Go.Addr }, n := (1 : Nat), c := c2 : SlV }) ((1 : Nat)) fun y3 =>
    .rq (bytesOf y3 ≠ none) <|
    .rq ((bytesD y3).size + ByteArray.size y1.2.fst ≤ (9223372036854775807 : Nat)) <|
    .rq ((10 : Int) ≠ (0 : Int)) <|
    .nx 0 [.v (.int .i64 (Go.IntKind.i64.wrap (Int.tdiv y1.fst (10 : Int)))), .v (.string (bytesD y3 ++ y1.2.fst))]) <|
  .rq ({ data := { toList := [(109 : UInt8)] : Array UInt8 } : ByteArray }.size + ByteArray.size y1.2.fst ≤ (9223372036854775807 : Nat)) <|
  .ret [.string ({ data := { toList := [(109 : UInt8)] : Array UInt8 } : ByteArray } ++ y1.2.fst)]
theorem fL_markText (x0 : Int) : fits Tryz.prog aL_markText 68 [.int .i64 (x0)] (tL_markText x0) :=
  ⟨Tryz.f68, Tryz.f68.body.getD .skip, by kernel_rfl, by kernel_rfl, by kernel_rfl, by kernel_rfl, by kernel_rfl, by kernel_rfl⟩
/-! loop.example/g00793/laws.markRateS -/
def aL_markRateS : An := ⟨[(2, [.s 1, .s 5], [.o (.o (.i .i64)), .o (.o (.i .i64))])], [], []⟩
noncomputable def tL_markRateS (x0 : SlV) (x1 : Int) : T :=
  .lp [.o (.o (.i .i64)), .o (.o (.i .i64))] [.v (.int .i64 (x1)), .v (.int .i64 ((0 : Int)))] fun y1 =>
  .br (decide (y1.2.fst < (↑x0.n : Int))) (
    .call false 68 [.int .i64 (y1.fst)] (.v (.o (.s))) fun y2 =>
    .el (x0.a) (x0.n) (y1.2.fst) fun y3 =>
    .st ((y3.add (Int.toNat y1.2.fst * (5 : Nat))).add (0 : Nat)) [.string (y2)] <|
    .call false 68 [.int .i64 (Go.IntKind.i64.wrap (y1.fst + (1 : Int)))] (.v (.o (.s))) fun y4 =>
    .el (x0.a) (x0.n) (y1.2.fst) fun y5 =>
    .st ((y5.add (Int.toNat y1.2.fst * (5 : Nat))).add (1 : Nat)) [.string (y4)] <|
    .rq ((3 : Int) ≠ (0 : Int)) <|
    .el (x0.a) (x0.n) (y1.2.fst) fun y6 =>
    .st ((((y6.add (Int.toNat y1.2.fst * (5 : Nat))).add (2 : Nat)).add (0 : Nat)).add (0 : Nat)) [.bool ((Go.IntKind.i64.wrap (Go.IntKind.i64.wrap (y1.fst + (1 : Int)) + (1 : Int))).tmod (3 : Int) == (0 : Int))] <|
    .el (x0.a) (x0.n) (y1.2.fst) fun y7 =>
    .ld false ((((y7.add (Int.toNat y1.2.fst * (5 : Nat))).add (2 : Nat)).add (0 : Nat)).add (1 : Nat)) (.o (.l)) fun y8 =>
    .call false 35 [Sc.val .l (y8), .int .i64 (Go.IntKind.i64.wrap (Go.IntKind.i64.wrap (Go.IntKind.i64.wrap (y1.fst + (1 : Int)) + (1 : Int)) + (1 : Int)))] (.v (.o (.i .i64))) fun y9 =>
    .el (x0.a) (x0.n) (y1.2.fst) fun y10 =>
    .st (((y10.add (Int.toNat y1.2.fst * (5 : Nat))).add (2 : Nat)).add (2 : Nat)) [.int .i64 (y9)] <|
    .nx 0 [.v (.int .i64 (Go.IntKind.i64.wrap (y9 + (1 : Int)))), .v (.int .i64 (Go.IntKind.i64.wrap (y1.2.fst + (1 : Int))))]) <|
  .ret [.int .i64 (y1.fst)]
theorem fL_markRateS (x0 : SlV) (x1 : Int) : fits Tryz.prog aL_markRateS 69 [Sc.val .l (x0), .int .i64 (x1)] (tL_markRateS x0 x1) :=
  ⟨Tryz.f69, Tryz.f69.body.getD .skip, by kernel_rfl, by kernel_rfl, by kernel_rfl, by kernel_rfl, by kernel_rfl, by kernel_rfl⟩
/-! loop.example/g00793/laws.szAcct -/
def aL_szAcct : An := ⟨[], [], []⟩
noncomputable def tL_szAcct (x0 : ByteArray × ByteArray × Bool × SlV × PUnit) (x1 : Int) : T :=
  .br (decide (Go.IntKind.i64.wrap (x1 - (↑(ByteArray.size x0.fst) : Int)) < (0 : Int))) (
    .ret [.int .i64 ((-1 : Int))]) <|
  .call false 110 [Sh1.val (.g [.s, .b, .l]) (x0.2), .int .i64 (Go.IntKind.i64.wrap (x1 - (↑(ByteArray.size x0.fst) : Int)))] (.v (.o (.i .i64))) fun y1 =>
  .br (decide (y1 < (0 : Int))) (
    .ret [.int .i64 ((-1 : Int))]) <|
  .ret [.int .i64 (y1)]
theorem fL_szAcct (x0 : ByteArray × ByteArray × Bool × SlV × PUnit) (x1 : Int) : fits Tryz.prog aL_szAcct 70 [Sh1.val (.g [.s, .s, .b, .l]) (x0), .int .i64 (x1)] (tL_szAcct x0 x1) :=
  ⟨Tryz.f70, Tryz.f70.body.getD .skip, by kernel_rfl, by kernel_rfl, by kernel_rfl, by kernel_rfl, by kernel_rfl, by kernel_rfl⟩
/-! loop.example/g00793/laws.szRat -/
def aL_szRat : An := ⟨[], [], []⟩
noncomputable def tL_szRat (x0 : Bool × SlV × SlV × PUnit) (x1 : Int) : T :=
  .call false 111 [Sh1.val (.g [.b, .l]) ((x0.fst), x0.2.1, ()), .int .i64 (x1)] (.v (.o (.i .i64))) fun y1 =>
  .br (decide (y1 < (0 : Int))) (
    .ret [.int .i64 ((-1 : Int))]) <|
  .call false 112 [Sc.val .l (x0.2.2.1), .int .i64 (y1)] (.v (.o (.i .i64))) fun y2 =>
  .br (decide (y2 < (0 : Int))) (
    .ret [.int .i64 ((-1 : Int))]) <|
  .ret [.int .i64 (y2)]
theorem fL_szRat (x0 : Bool × SlV × SlV × PUnit) (x1 : Int) : fits Tryz.prog aL_szRat 71 [Sh1.val (.g [.b, .l, .l]) (x0), .int .i64 (x1)] (tL_szRat x0 x1) :=
  ⟨Tryz.f71, Tryz.f71.body.getD .skip, by kernel_rfl, by kernel_rfl, by kernel_rfl, by kernel_rfl, by kernel_rfl, by kernel_rfl⟩
/-! loop.example/g00793/laws.szRate -/
def aL_szRate : An := ⟨[], [], []⟩
noncomputable def tL_szRate (x0 : ByteArray × ByteArray × Bool × SlV × Int × PUnit) (x1 : Int) : T :=
  .br (decide (Go.IntKind.i64.wrap (x1 - (↑(ByteArray.size x0.fst) : Int)) < (0 : Int))) (
    .ret [.int .i64 ((-1 : Int))]) <|
  .br (decide (Go.IntKind.i64.wrap (Go.IntKind.i64.wrap (x1 - (↑(ByteArray.size x0.fst) : Int)) - (↑(ByteArray.size x0.2.fst) : Int)) < (0 : Int))) (
    .ret [.int .i64 ((-1 : Int))]) <|
  .call false 113 [Sh1.val (.g [.b, .l, .i .i64]) (x0.2.2), .int .i64 (Go.IntKind.i64.wrap (Go.IntKind.i64.wrap (x1 - (↑(ByteArray.size x0.fst) : Int)) - (↑(ByteArray.size x0.2.fst) : Int)))] (.v (.o (.i .i64))) fun y1 =>
  .br (decide (y1 < (0 : Int))) (
    .ret [.int .i64 ((-1 : Int))]) <|
  .ret [.int .i64 (y1)]
theorem fL_szRate (x0 : ByteArray × ByteArray × Bool × SlV × Int × PUnit) (x1 : Int) : fits Tryz.prog aL_szRate 72 [Sh1.val (.g [.s, .s, .b, .l, .i .i64]) (x0), .int .i64 (x1)] (tL_szRate x0 x1) :=
  ⟨Tryz.f72, Tryz.f72.body.getD .skip, by kernel_rfl, by kernel_rfl, by kernel_rfl, by kernel_rfl, by kernel_rfl, by kernel_rfl⟩
/-! loop.example/g00793/spec.IsWord -/
def aS_IsWord : An := ⟨[], [], []⟩
noncomputable def tS_IsWord (x0 : ByteArray) : T :=
  .call false 114 [.string (x0), .int .u8 ((97 : Int)), .int .u8 ((122 : Int)), .int .u8 ((48 : Int)), .int .u8 ((57 : Int))] (.v (.o (.b))) fun y1 =>
  .br (y1) (
    .br (decide ((↑x0.size : Int) ≤ (12 : Int))) (
      .rq ((0 : Int) ≤ (0 : Int) ∧ (0 : Int) < (↑x0.size : Int)) <|
      .ret [.bool (decide (at0 x0 (Int.toNat (0 : Int)) ≥ (97 : Int)))]) <|
    .ret [.bool (false)]) <|
  .ret [.bool (false)]
theorem fS_IsWord (x0 : ByteArray) : fits Tryz.prog aS_IsWord 73 [.string (x0)] (tS_IsWord x0) :=
  ⟨Tryz.f73, Tryz.f73.body.getD .skip, by kernel_rfl, by kernel_rfl, by kernel_rfl, by kernel_rfl, by kernel_rfl, by kernel_rfl⟩
/-! loop.example/g00793/spec.MoneyOk -/
def aS_MoneyOk : An := ⟨[], [], []⟩
noncomputable def tS_MoneyOk (x0 : ByteArray × Bool × SlV × PUnit) : T :=
  .call false 75 [.string (x0.fst)] (.v (.o (.b))) fun y1 =>
  .br (y1) (
    .call false 79 [Sh1.val (.g [.b, .l]) (x0.2)] (.v (.o (.b))) fun y2 =>
    .br (y2) (
      .ret [.bool (decide ((↑x0.2.2.1.n : Int) ≤ (4 : Int)))]) <|
    .ret [.bool (false)]) <|
  .ret [.bool (false)]
theorem fS_MoneyOk (x0 : ByteArray × Bool × SlV × PUnit) : fits Tryz.prog aS_MoneyOk 74 [Sh1.val (.g [.s, .b, .l]) (x0)] (tS_MoneyOk x0) :=
  ⟨Tryz.f74, Tryz.f74.body.getD .skip, by kernel_rfl, by kernel_rfl, by kernel_rfl, by kernel_rfl, by kernel_rfl, by kernel_rfl⟩
/-! loop.example/g00793/spec.CurKnown -/
def aS_CurKnown : An := ⟨[], [], []⟩
noncomputable def tS_CurKnown (x0 : ByteArray) : T :=
  .call false 115 [.string (x0)] (.v (.g [.s, .s, .i .i64, .i .i64])) fun y1 =>
  .ret [.bool (!ByteArray.toList y1.fst == { data := { toList := [] : Array UInt8 } : ByteArray }.toList)]
theorem fS_CurKnown (x0 : ByteArray) : fits Tryz.prog aS_CurKnown 75 [.string (x0)] (tS_CurKnown x0) :=
  ⟨Tryz.f75, Tryz.f75.body.getD .skip, by kernel_rfl, by kernel_rfl, by kernel_rfl, by kernel_rfl, by kernel_rfl, by kernel_rfl⟩
/-! loop.example/g00793/spec.RatSign -/
def aS_RatSign : An := ⟨[], [], []⟩
noncomputable def tS_RatSign (x0 : Bool × SlV × SlV × PUnit) : T :=
  .rg <|
  .call true 53 [] (.v (.g [.b, .l, .l])) fun y1 =>
  .call true 116 [Sh1.val (.g [.b, .l, .l]) (x0), Sh1.val (.g [.b, .l, .l]) (y1)] (.v (.o (.i .i64))) fun y2 =>
  .ret [.int .i64 (y2)]
theorem fS_RatSign (x0 : Bool × SlV × SlV × PUnit) : fits Tryz.prog aS_RatSign 76 [Sh1.val (.g [.b, .l, .l]) (x0)] (tS_RatSign x0) :=
  ⟨Tryz.f76, Tryz.f76.body.getD .skip, by kernel_rfl, by kernel_rfl, by kernel_rfl, by kernel_rfl, by kernel_rfl, by kernel_rfl⟩
/-! loop.example/g00793/spec.RateOk -/
def aS_RateOk : An := ⟨[], [], []⟩
noncomputable def tS_RateOk (x0 : ByteArray × ByteArray × Bool × SlV × Int × PUnit) : T :=
  .call false 75 [.string (x0.fst)] (.v (.o (.b))) fun y1 =>
  .br (y1) (
    .call false 75 [.string (x0.2.fst)] (.v (.o (.b))) fun y2 =>
    .br (y2) (
      .br (!ByteArray.toList x0.fst == ByteArray.toList x0.2.fst) (
        .call false 117 [Sh1.val (.g [.b, .l, .i .i64]) (x0.2.2)] (.v (.o (.b))) fun y3 =>
        .br (y3) (
          .call false 118 [Sh1.val (.g [.b, .l]) ((x0.2.2.fst), x0.2.2.2.1, ())] (.v (.o (.i .i64))) fun y4 =>
          .br (decide (y4 > (0 : Int))) (
            .ret [.bool (decide ((↑x0.2.2.2.1.n : Int) ≤ (2 : Int)))]) <|
          .ret [.bool (false)]) <|
        .ret [.bool (false)]) <|
      .ret [.bool (false)]) <|
    .ret [.bool (false)]) <|
  .ret [.bool (false)]
theorem fS_RateOk (x0 : ByteArray × ByteArray × Bool × SlV × Int × PUnit) : fits Tryz.prog aS_RateOk 77 [Sh1.val (.g [.s, .s, .b, .l, .i .i64]) (x0)] (tS_RateOk x0) :=
  ⟨Tryz.f77, Tryz.f77.body.getD .skip, by kernel_rfl, by kernel_rfl, by kernel_rfl, by kernel_rfl, by kernel_rfl, by kernel_rfl⟩
/-! loop.example/g00793/spec.l10At -/
def aS_l10At : An := ⟨[(2, [.s 11], [.o (.o (.i .i64))])], [], []⟩
noncomputable def tS_l10At (x0 : SlV) (x1 : ByteArray) (x2 : ByteArray) : T :=
  .lp [.o (.o (.i .i64))] [.v (.int .i64 ((0 : Int)))] fun y1 =>
  .br (decide (y1.fst < (↑x0.n : Int))) (
    .el (x0.a) (x0.n) (y1.fst) fun y2 =>
    .ld false (y2.add (Int.toNat y1.fst * (5 : Nat))) (.g [.s, .s, .b, .l, .i .i64]) fun y3 =>
    .br (ByteArray.toList y3.fst == x1.toList) (
      .br (ByteArray.toList y3.2.fst == x2.toList) (
        .ret [.int .i64 (y1.fst)]) <|
      .nx 0 [.v (.int .i64 (Go.IntKind.i64.wrap (y1.fst + (1 : Int))))]) <|
    .nx 0 [.v (.int .i64 (Go.IntKind.i64.wrap (y1.fst + (1 : Int))))]) <|
  .ret [.int .i64 ((-1 : Int))]
theorem fS_l10At (x0 : SlV) (x1 : ByteArray) (x2 : ByteArray) : fits Tryz.prog aS_l10At 78 [Sc.val .l (x0), .string (x1), .string (x2)] (tS_l10At x0 x1 x2) :=
  ⟨Tryz.f78, Tryz.f78.body.getD .skip, by kernel_rfl, by kernel_rfl, by kernel_rfl, by kernel_rfl, by kernel_rfl, by kernel_rfl⟩
/-! loop.example/g00793/spec.IntOk -/
def aS_IntOk : An := ⟨[], [], []⟩
noncomputable def tS_IntOk (x0 : Bool × SlV × PUnit) : T :=
  .call false 81 [Sc.val .l (x0.2.1)] (.v (.o (.b))) fun y1 =>
  .br (y1) (
    .br (!x0.fst) (
      .ret [.bool (true)]) <|
    .ret [.bool (decide ((↑x0.2.1.n : Int) > (0 : Int)))]) <|
  .ret [.bool (false)]
theorem fS_IntOk (x0 : Bool × SlV × PUnit) : fits Tryz.prog aS_IntOk 79 [Sh1.val (.g [.b, .l]) (x0)] (tS_IntOk x0) :=
  ⟨Tryz.f79, Tryz.f79.body.getD .skip, by kernel_rfl, by kernel_rfl, by kernel_rfl, by kernel_rfl, by kernel_rfl, by kernel_rfl⟩
/-! loop.example/g00793/spec.NatOf -/
def aS_NatOf : An := ⟨[(2, [.s 0, .s 3], [.o (.o (.i .i64)), .a 3])], [], []⟩
noncomputable def tS_NatOf (x0 : Int) : T :=
  .lp [.o (.o (.i .i64)), .a 3] [.v (.int .i64 (x0)), .a 3 ((0 : Nat)) []] fun y1 =>
  .br (decide (y1.fst > (0 : Int))) (
    .rq ((1000000000 : Int) ≠ (0 : Int)) <|
    .rq ([Go.Value.int Go.IntKind.i64 (Int.tmod y1.fst (1000000000 : Int))].length = (1 : Nat) * (1 : Nat)) <|
    .rq (one [Go.Value.int Go.IntKind.i64 (Int.tmod y1.fst (1000000000 : Int))] = true ∧ (y1.2.1.fst + (1 : Nat)) * (8 : Nat) ≤ (140737488355328 : Nat) ∧ y1.2.1.fst + (1 : Nat) ≤ (9223372036854775807 : Nat)) <|
    .rq ((1000000000 : Int) ≠ (0 : Int)) <|
    .nx 0 [.v (.int .i64 (Go.IntKind.i64.wrap (Int.tdiv y1.fst (1000000000 : Int)))), .a 3 (y1.2.1.fst + (1 : Nat)) (y1.2.1.snd ++ [Go.Value.int Go.IntKind.i64 (Int.tmod y1.fst (1000000000 : Int))])]) <|
  .fz (y1.2.1.fst) (y1.2.1.snd) 3 fun b2 c2 =>
  .ret [.slice (some { block := b2, off := (0 : Nat) : Go.Addr }) (y1.2.1.fst) (c2)]
theorem fS_NatOf (x0 : Int) : fits Tryz.prog aS_NatOf 80 [.int .i64 (x0)] (tS_NatOf x0) :=
  ⟨Tryz.f80, Tryz.f80.body.getD .skip, by kernel_rfl, by kernel_rfl, by kernel_rfl, by kernel_rfl, by kernel_rfl, by kernel_rfl⟩
/-! loop.example/g00793/spec.NatOk -/
def aS_NatOk : An := ⟨[(2, [.s 7], [.o (.o (.i .i64))])], [], []⟩
noncomputable def tS_NatOk (x0 : SlV) : T :=
  .lp [.o (.o (.i .i64))] [.v (.int .i64 ((0 : Int)))] fun y1 =>
  .br (decide (y1.fst < (↑x0.n : Int))) (
    .el (x0.a) (x0.n) (y1.fst) fun y2 =>
    .ld false (y2.add (Int.toNat y1.fst * (1 : Nat))) (.o (.i .i64)) fun y3 =>
    .call false 119 [.int .i64 (y3), .int .i64 ((0 : Int)), .int .i64 ((999999999 : Int))] (.v (.o (.b))) fun y4 =>
    .br (!y4) (
      .ret [.bool (false)]) <|
    .nx 0 [.v (.int .i64 (Go.IntKind.i64.wrap (y1.fst + (1 : Int))))]) <|
  .br (decide ((↑x0.n : Int) ≤ (50 : Int))) (
    .br ((↑x0.n : Int) == (0 : Int)) (
      .ret [.bool (true)]) <|
    .el (x0.a) (x0.n) (Go.IntKind.i64.wrap ((↑x0.n : Int) - (1 : Int))) fun y2 =>
    .ld false (y2.add ((Go.IntKind.i64.wrap ((↑x0.n : Int) - (1 : Int))).toNat * (1 : Nat))) (.o (.i .i64)) fun y3 =>
    .ret [.bool (y3 != (0 : Int))]) <|
  .ret [.bool (false)]
theorem fS_NatOk (x0 : SlV) : fits Tryz.prog aS_NatOk 81 [Sc.val .l (x0)] (tS_NatOk x0) :=
  ⟨Tryz.f81, Tryz.f81.body.getD .skip, by kernel_rfl, by kernel_rfl, by kernel_rfl, by kernel_rfl, by kernel_rfl, by kernel_rfl⟩
/-! loop.example/g00793/spec.l02Cmp -/
def aS_l02Cmp : An := ⟨[(6, [.s 5], [.o (.o (.i .i64))])], [], []⟩
noncomputable def tS_l02Cmp (x0 : SlV) (x1 : SlV) : T :=
  .br ((↑x0.n : Int) != (↑x1.n : Int)) (
    .br (decide ((↑x0.n : Int) < (↑x1.n : Int))) (
      .ret [.int .i64 ((-1 : Int))]) <|
    .ret [.int .i64 ((1 : Int))]) <|
  .lp [.o (.o (.i .i64))] [.v (.int .i64 (Go.IntKind.i64.wrap ((↑x0.n : Int) - (1 : Int))))] fun y1 =>
  .br (decide (y1.fst ≥ (0 : Int))) (
    .rg <|
    .el (x0.a) (x0.n) (y1.fst) fun y2 =>
    .ld true (y2.add (Int.toNat y1.fst * (1 : Nat))) (.o (.i .i64)) fun y3 =>
    .el (x1.a) (x1.n) (y1.fst) fun y4 =>
    .ld true (y4.add (Int.toNat y1.fst * (1 : Nat))) (.o (.i .i64)) fun y5 =>
    .br (decide (y3 < y5)) (
      .ret [.int .i64 ((-1 : Int))]) <|
    .rg <|
    .el (x0.a) (x0.n) (y1.fst) fun y6 =>
    .ld true (y6.add (Int.toNat y1.fst * (1 : Nat))) (.o (.i .i64)) fun y7 =>
    .el (x1.a) (x1.n) (y1.fst) fun y8 =>
    .ld true (y8.add (Int.toNat y1.fst * (1 : Nat))) (.o (.i .i64)) fun y9 =>
    .br (decide (y7 > y9)) (
      .ret [.int .i64 ((1 : Int))]) <|
    .nx 0 [.v (.int .i64 (Go.IntKind.i64.wrap (y1.fst - (1 : Int))))]) <|
  .ret [.int .i64 ((0 : Int))]
theorem fS_l02Cmp (x0 : SlV) (x1 : SlV) : fits Tryz.prog aS_l02Cmp 82 [Sc.val .l (x0), Sc.val .l (x1)] (tS_l02Cmp x0 x1) :=
  ⟨Tryz.f82, Tryz.f82.body.getD .skip, by kernel_rfl, by kernel_rfl, by kernel_rfl, by kernel_rfl, by kernel_rfl, by kernel_rfl⟩
/-! loop.example/g00793/spec.NatGcd -/
def aS_NatGcd : An := ⟨[(5, [.s 5, .s 6], [.o (.o (.l)), .o (.o (.l))])], [], []⟩
noncomputable def tS_NatGcd (x0 : SlV) (x1 : SlV) : T :=
  .call false 81 [Sc.val .l (x0)] (.v (.o (.b))) fun y1 =>
  .br (!y1) (
    .ret [.slice (none) ((0 : Nat)) ((0 : Nat))]) <|
  .call false 81 [Sc.val .l (x1)] (.v (.o (.b))) fun y2 =>
  .br (!y2) (
    .ret [.slice (none) ((0 : Nat)) ((0 : Nat))]) <|
  .rd ({ a := x0.a, n := x0.n, c := x0.c : SlV }) ((1 : Nat)) fun y3 =>
  .rq (one y3 = true ∧ ((0 : Nat) + x0.n) * (8 : Nat) ≤ (140737488355328 : Nat) ∧ (0 : Nat) + x0.n ≤ (9223372036854775807 : Nat)) <|
  .rd ({ a := x1.a, n := x1.n, c := x1.c : SlV }) ((1 : Nat)) fun y4 =>
  .rq (one y4 = true ∧ ((0 : Nat) + x1.n) * (8 : Nat) ≤ (140737488355328 : Nat) ∧ (0 : Nat) + x1.n ≤ (9223372036854775807 : Nat)) <|
  .fz ((0 : Nat) + x0.n) ([] ++ y3) 3 fun b5 c5 =>
  .fz ((0 : Nat) + x1.n) ([] ++ y4) 3 fun b6 c6 =>
  .lp [.o (.o (.l)), .o (.o (.l))] [.v (.slice (some { block := b5, off := (0 : Nat) : Go.Addr }) ((0 : Nat) + x0.n) (c5)), .v (.slice (some { block := b6, off := (0 : Nat) : Go.Addr }) ((0 : Nat) + x1.n) (c6))] fun y7 =>
  .br (decide ((↑y7.2.1.n : Int) > (0 : Int))) (
    .call false 89 [Sc.val .l (y7.1), Sc.val .l (y7.2.1)] (.t [(.o (.l)), (.o (.l))]) fun y8 =>
    .nx 0 [.v (Sc.val .l (y7.2.1)), .v (Sc.val .l (y8.2.1))]) <|
  .ret [Sc.val .l (y7.1)]
theorem fS_NatGcd (x0 : SlV) (x1 : SlV) : fits Tryz.prog aS_NatGcd 83 [Sc.val .l (x0), Sc.val .l (x1)] (tS_NatGcd x0 x1) :=
  ⟨Tryz.f83, Tryz.f83.body.getD .skip, by kernel_rfl, by kernel_rfl, by kernel_rfl, by kernel_rfl, by kernel_rfl, by kernel_rfl⟩
/-! loop.example/g00793/spec.l02Cap -/
def aS_l02Cap : An := ⟨[], [], []⟩
noncomputable def tS_l02Cap (x0 : SlV) : T :=
  .call false 85 [Sc.val .l (x0)] (.v (.o (.l))) fun y1 =>
  .br (decide ((↑y1.n : Int) > (50 : Int))) (
    .ret [.slice (none) ((0 : Nat)) ((0 : Nat))]) <|
  .ret [Sc.val .l (y1)]
theorem fS_l02Cap (x0 : SlV) : fits Tryz.prog aS_l02Cap 84 [Sc.val .l (x0)] (tS_l02Cap x0) :=
  ⟨Tryz.f84, Tryz.f84.body.getD .skip, by kernel_rfl, by kernel_rfl, by kernel_rfl, by kernel_rfl, by kernel_rfl, by kernel_rfl⟩
/-! loop.example/g00793/spec.l02Trim -/
def aS_l02Trim : An := ⟨[(2, [.s 3], [.o (.o (.i .i64))])], [], []⟩
noncomputable def tS_l02Trim (x0 : SlV) : T :=
  .lp [.o (.o (.i .i64))] [.v (.int .i64 ((↑x0.n : Int)))] fun y1 =>
  .br (decide (y1.fst > (0 : Int))) (
    .el (x0.a) (x0.n) (Go.IntKind.i64.wrap (y1.fst - (1 : Int))) fun y2 =>
    .ld false (y2.add ((Go.IntKind.i64.wrap (y1.fst - (1 : Int))).toNat * (1 : Nat))) (.o (.i .i64)) fun y3 =>
    .br (y3 == (0 : Int)) (
      .nx 0 [.v (.int .i64 (Go.IntKind.i64.wrap (y1.fst - (1 : Int))))]) <|
    .rq ((0 : Int) ≤ (0 : Int) ∧ (0 : Int) ≤ y1.fst ∧ y1.fst ≤ (↑x0.c : Int) ∧ (↑x0.c : Int) ≤ (↑x0.c : Int)) <|
    .ret [.slice (if (↑x0.c : Int).toNat = Int.toNat (0 : Int) then x0.a else Option.map (fun x => x.add (Int.toNat (0 : Int) * Go.Proofs.Tryz.prog.types[(3 : Nat)].size)) x0.a) (Int.toNat y1.fst - Int.toNat (0 : Int)) ((↑x0.c : Int).toNat - Int.toNat (0 : Int))]) <|
  .rq ((0 : Int) ≤ (0 : Int) ∧ (0 : Int) ≤ y1.fst ∧ y1.fst ≤ (↑x0.c : Int) ∧ (↑x0.c : Int) ≤ (↑x0.c : Int)) <|
  .ret [.slice (if (↑x0.c : Int).toNat = Int.toNat (0 : Int) then x0.a else Option.map (fun x => x.add (Int.toNat (0 : Int) * Go.Proofs.Tryz.prog.types[(3 : Nat)].size)) x0.a) (Int.toNat y1.fst - Int.toNat (0 : Int)) ((↑x0.c : Int).toNat - Int.toNat (0 : Int))]
theorem fS_l02Trim (x0 : SlV) : fits Tryz.prog aS_l02Trim 85 [Sc.val .l (x0)] (tS_l02Trim x0) :=
  ⟨Tryz.f85, Tryz.f85.body.getD .skip, by kernel_rfl, by kernel_rfl, by kernel_rfl, by kernel_rfl, by kernel_rfl, by kernel_rfl⟩
/-! loop.example/g00793/spec.l02Add -/
def aS_l02Add : An := ⟨[(4, [.s 5, .s 6, .s 7], [.a 3, .o (.o (.i .i64)), .o (.o (.i .i64))])], [], []⟩
noncomputable def tS_l02Add (x0 : SlV) (x1 : SlV) : T :=
  .lp [.a 3, .o (.o (.i .i64)), .o (.o (.i .i64))] [.a 3 ((0 : Nat)) [], .v (.int .i64 ((0 : Int))), .v (.int .i64 ((0 : Int)))] fun y1 =>
  .br (decide (y1.2.2.fst < (↑x0.n : Int))) (
    .br (decide (y1.2.2.fst < (↑x0.n : Int))) (
      .el (x0.a) (x0.n) (y1.2.2.fst) fun y2 =>
      .ld false (y2.add (Int.toNat y1.2.2.fst * (1 : Nat))) (.o (.i .i64)) fun y3 =>
      .br (decide (y1.2.2.fst < (↑x1.n : Int))) (
        .el (x1.a) (x1.n) (y1.2.2.fst) fun y4 =>
        .ld false (y4.add (Int.toNat y1.2.2.fst * (1 : Nat))) (.o (.i .i64)) fun y5 =>
        .rq ((1000000000 : Int) ≠ (0 : Int)) <|
        .rq ([Go.Value.int Go.IntKind.i64 ((Go.IntKind.i64.wrap (Go.IntKind.i64.wrap (y1.2.fst + y3) + y5)).tmod (1000000000 : Int))].length = (1 : Nat) * (1 : Nat)) <|
        .rq (one [Go.Value.int Go.IntKind.i64 ((Go.IntKind.i64.wrap (Go.IntKind.i64.wrap (y1.2.fst + y3) + y5)).tmod (1000000000 : Int))] = true ∧ (y1.1.fst + (1 : Nat)) * (8 : Nat) ≤ (140737488355328 : Nat) ∧ y1.1.fst + (1 : Nat) ≤ (9223372036854775807 : Nat)) <|
        .rq ((1000000000 : Int) ≠ (0 : Int)) <|
        .nx 0 [.a 3 (y1.1.fst + (1 : Nat)) (y1.1.snd ++ [Go.Value.int Go.IntKind.i64 ((Go.IntKind.i64.wrap (Go.IntKind.i64.wrap (y1.2.fst + y3) + y5)).tmod (1000000000 : Int))]), .v (.int .i64 (Go.IntKind.i64.wrap ((Go.IntKind.i64.wrap (Go.IntKind.i64.wrap (y1.2.fst + y3) + y5)).tdiv (1000000000 : Int)))), .v (.int .i64 (Go.IntKind.i64.wrap (y1.2.2.fst + (1 : Int))))]) <|
      .rq ((1000000000 : Int) ≠ (0 : Int)) <|
      .rq ([Go.Value.int Go.IntKind.i64 ((Go.IntKind.i64.wrap (y1.2.fst + y3)).tmod (1000000000 : Int))].length = (1 : Nat) * (1 : Nat)) <|
      .rq (one [Go.Value.int Go.IntKind.i64 ((Go.IntKind.i64.wrap (y1.2.fst + y3)).tmod (1000000000 : Int))] = true ∧ (y1.1.fst + (1 : Nat)) * (8 : Nat) ≤ (140737488355328 : Nat) ∧ y1.1.fst + (1 : Nat) ≤ (9223372036854775807 : Nat)) <|
      .rq ((1000000000 : Int) ≠ (0 : Int)) <|
      .nx 0 [.a 3 (y1.1.fst + (1 : Nat)) (y1.1.snd ++ [Go.Value.int Go.IntKind.i64 ((Go.IntKind.i64.wrap (y1.2.fst + y3)).tmod (1000000000 : Int))]), .v (.int .i64 (Go.IntKind.i64.wrap ((Go.IntKind.i64.wrap (y1.2.fst + y3)).tdiv (1000000000 : Int)))), .v (.int .i64 (Go.IntKind.i64.wrap (y1.2.2.fst + (1 : Int))))]) <|
    .br (decide (y1.2.2.fst < (↑x1.n : Int))) (
      .el (x1.a) (x1.n) (y1.2.2.fst) fun y2 =>
      .ld false (y2.add (Int.toNat y1.2.2.fst * (1 : Nat))) (.o (.i .i64)) fun y3 =>
      .rq ((1000000000 : Int) ≠ (0 : Int)) <|
      .rq ([Go.Value.int Go.IntKind.i64 ((Go.IntKind.i64.wrap (y1.2.fst + y3)).tmod (1000000000 : Int))].length = (1 : Nat) * (1 : Nat)) <|
      .rq (one [Go.Value.int Go.IntKind.i64 ((Go.IntKind.i64.wrap (y1.2.fst + y3)).tmod (1000000000 : Int))] = true ∧ (y1.1.fst + (1 : Nat)) * (8 : Nat) ≤ (140737488355328 : Nat) ∧ y1.1.fst + (1 : Nat) ≤ (9223372036854775807 : Nat)) <|
      .rq ((1000000000 : Int) ≠ (0 : Int)) <|
      .nx 0 [.a 3 (y1.1.fst + (1 : Nat)) (y1.1.snd ++ [Go.Value.int Go.IntKind.i64 ((Go.IntKind.i64.wrap (y1.2.fst + y3)).tmod (1000000000 : Int))]), .v (.int .i64 (Go.IntKind.i64.wrap ((Go.IntKind.i64.wrap (y1.2.fst + y3)).tdiv (1000000000 : Int)))), .v (.int .i64 (Go.IntKind.i64.wrap (y1.2.2.fst + (1 : Int))))]) <|
    .rq ((1000000000 : Int) ≠ (0 : Int)) <|
    .rq ([Go.Value.int Go.IntKind.i64 (Int.tmod y1.2.fst (1000000000 : Int))].length = (1 : Nat) * (1 : Nat)) <|
    .rq (one [Go.Value.int Go.IntKind.i64 (Int.tmod y1.2.fst (1000000000 : Int))] = true ∧ (y1.1.fst + (1 : Nat)) * (8 : Nat) ≤ (140737488355328 : Nat) ∧ y1.1.fst + (1 : Nat) ≤ (9223372036854775807 : Nat)) <|
    .rq ((1000000000 : Int) ≠ (0 : Int)) <|
    .nx 0 [.a 3 (y1.1.fst + (1 : Nat)) (y1.1.snd ++ [Go.Value.int Go.IntKind.i64 (Int.tmod y1.2.fst (1000000000 : Int))]), .v (.int .i64 (Go.IntKind.i64.wrap (Int.tdiv y1.2.fst (1000000000 : Int)))), .v (.int .i64 (Go.IntKind.i64.wrap (y1.2.2.fst + (1 : Int))))]) <|
  .br (decide (y1.2.2.fst < (↑x1.n : Int))) (
    .br (decide (y1.2.2.fst < (↑x0.n : Int))) (
      .el (x0.a) (x0.n) (y1.2.2.fst) fun y2 =>
      .ld false (y2.add (Int.toNat y1.2.2.fst * (1 : Nat))) (.o (.i .i64)) fun y3 =>
      .br (decide (y1.2.2.fst < (↑x1.n : Int))) (
        .el (x1.a) (x1.n) (y1.2.2.fst) fun y4 =>
        .ld false (y4.add (Int.toNat y1.2.2.fst * (1 : Nat))) (.o (.i .i64)) fun y5 =>
        .rq ((1000000000 : Int) ≠ (0 : Int)) <|
        .rq ([Go.Value.int Go.IntKind.i64 ((Go.IntKind.i64.wrap (Go.IntKind.i64.wrap (y1.2.fst + y3) + y5)).tmod (1000000000 : Int))].length = (1 : Nat) * (1 : Nat)) <|
        .rq (one [Go.Value.int Go.IntKind.i64 ((Go.IntKind.i64.wrap (Go.IntKind.i64.wrap (y1.2.fst + y3) + y5)).tmod (1000000000 : Int))] = true ∧ (y1.1.fst + (1 : Nat)) * (8 : Nat) ≤ (140737488355328 : Nat) ∧ y1.1.fst + (1 : Nat) ≤ (9223372036854775807 : Nat)) <|
        .rq ((1000000000 : Int) ≠ (0 : Int)) <|
        .nx 0 [.a 3 (y1.1.fst + (1 : Nat)) (y1.1.snd ++ [Go.Value.int Go.IntKind.i64 ((Go.IntKind.i64.wrap (Go.IntKind.i64.wrap (y1.2.fst + y3) + y5)).tmod (1000000000 : Int))]), .v (.int .i64 (Go.IntKind.i64.wrap ((Go.IntKind.i64.wrap (Go.IntKind.i64.wrap (y1.2.fst + y3) + y5)).tdiv (1000000000 : Int)))), .v (.int .i64 (Go.IntKind.i64.wrap (y1.2.2.fst + (1 : Int))))]) <|
      .rq ((1000000000 : Int) ≠ (0 : Int)) <|
      .rq ([Go.Value.int Go.IntKind.i64 ((Go.IntKind.i64.wrap (y1.2.fst + y3)).tmod (1000000000 : Int))].length = (1 : Nat) * (1 : Nat)) <|
      .rq (one [Go.Value.int Go.IntKind.i64 ((Go.IntKind.i64.wrap (y1.2.fst + y3)).tmod (1000000000 : Int))] = true ∧ (y1.1.fst + (1 : Nat)) * (8 : Nat) ≤ (140737488355328 : Nat) ∧ y1.1.fst + (1 : Nat) ≤ (9223372036854775807 : Nat)) <|
      .rq ((1000000000 : Int) ≠ (0 : Int)) <|
      .nx 0 [.a 3 (y1.1.fst + (1 : Nat)) (y1.1.snd ++ [Go.Value.int Go.IntKind.i64 ((Go.IntKind.i64.wrap (y1.2.fst + y3)).tmod (1000000000 : Int))]), .v (.int .i64 (Go.IntKind.i64.wrap ((Go.IntKind.i64.wrap (y1.2.fst + y3)).tdiv (1000000000 : Int)))), .v (.int .i64 (Go.IntKind.i64.wrap (y1.2.2.fst + (1 : Int))))]) <|
    .br (decide (y1.2.2.fst < (↑x1.n : Int))) (
      .el (x1.a) (x1.n) (y1.2.2.fst) fun y2 =>
      .ld false (y2.add (Int.toNat y1.2.2.fst * (1 : Nat))) (.o (.i .i64)) fun y3 =>
      .rq ((1000000000 : Int) ≠ (0 : Int)) <|
      .rq ([Go.Value.int Go.IntKind.i64 ((Go.IntKind.i64.wrap (y1.2.fst + y3)).tmod (1000000000 : Int))].length = (1 : Nat) * (1 : Nat)) <|
      .rq (one [Go.Value.int Go.IntKind.i64 ((Go.IntKind.i64.wrap (y1.2.fst + y3)).tmod (1000000000 : Int))] = true ∧ (y1.1.fst + (1 : Nat)) * (8 : Nat) ≤ (140737488355328 : Nat) ∧ y1.1.fst + (1 : Nat) ≤ (9223372036854775807 : Nat)) <|
      .rq ((1000000000 : Int) ≠ (0 : Int)) <|
      .nx 0 [.a 3 (y1.1.fst + (1 : Nat)) (y1.1.snd ++ [Go.Value.int Go.IntKind.i64 ((Go.IntKind.i64.wrap (y1.2.fst + y3)).tmod (1000000000 : Int))]), .v (.int .i64 (Go.IntKind.i64.wrap ((Go.IntKind.i64.wrap (y1.2.fst + y3)).tdiv (1000000000 : Int)))), .v (.int .i64 (Go.IntKind.i64.wrap (y1.2.2.fst + (1 : Int))))]) <|
    .rq ((1000000000 : Int) ≠ (0 : Int)) <|
    .rq ([Go.Value.int Go.IntKind.i64 (Int.tmod y1.2.fst (1000000000 : Int))].length = (1 : Nat) * (1 : Nat)) <|
    .rq (one [Go.Value.int Go.IntKind.i64 (Int.tmod y1.2.fst (1000000000 : Int))] = true ∧ (y1.1.fst + (1 : Nat)) * (8 : Nat) ≤ (140737488355328 : Nat) ∧ y1.1.fst + (1 : Nat) ≤ (9223372036854775807 : Nat)) <|
    .rq ((1000000000 : Int) ≠ (0 : Int)) <|
    .nx 0 [.a 3 (y1.1.fst + (1 : Nat)) (y1.1.snd ++ [Go.Value.int Go.IntKind.i64 (Int.tmod y1.2.fst (1000000000 : Int))]), .v (.int .i64 (Go.IntKind.i64.wrap (Int.tdiv y1.2.fst (1000000000 : Int)))), .v (.int .i64 (Go.IntKind.i64.wrap (y1.2.2.fst + (1 : Int))))]) <|
  .br (decide (y1.2.fst > (0 : Int))) (
    .br (decide (y1.2.2.fst < (↑x0.n : Int))) (
      .el (x0.a) (x0.n) (y1.2.2.fst) fun y2 =>
      .ld false (y2.add (Int.toNat y1.2.2.fst * (1 : Nat))) (.o (.i .i64)) fun y3 =>
      .br (decide (y1.2.2.fst < (↑x1.n : Int))) (
        .el (x1.a) (x1.n) (y1.2.2.fst) fun y4 =>
        .ld false (y4.add (Int.toNat y1.2.2.fst * (1 : Nat))) (.o (.i .i64)) fun y5 =>
        .rq ((1000000000 : Int) ≠ (0 : Int)) <|
        .rq ([Go.Value.int Go.IntKind.i64 ((Go.IntKind.i64.wrap (Go.IntKind.i64.wrap (y1.2.fst + y3) + y5)).tmod (1000000000 : Int))].length = (1 : Nat) * (1 : Nat)) <|
        .rq (one [Go.Value.int Go.IntKind.i64 ((Go.IntKind.i64.wrap (Go.IntKind.i64.wrap (y1.2.fst + y3) + y5)).tmod (1000000000 : Int))] = true ∧ (y1.1.fst + (1 : Nat)) * (8 : Nat) ≤ (140737488355328 : Nat) ∧ y1.1.fst + (1 : Nat) ≤ (9223372036854775807 : Nat)) <|
        .rq ((1000000000 : Int) ≠ (0 : Int)) <|
        .nx 0 [.a 3 (y1.1.fst + (1 : Nat)) (y1.1.snd ++ [Go.Value.int Go.IntKind.i64 ((Go.IntKind.i64.wrap (Go.IntKind.i64.wrap (y1.2.fst + y3) + y5)).tmod (1000000000 : Int))]), .v (.int .i64 (Go.IntKind.i64.wrap ((Go.IntKind.i64.wrap (Go.IntKind.i64.wrap (y1.2.fst + y3) + y5)).tdiv (1000000000 : Int)))), .v (.int .i64 (Go.IntKind.i64.wrap (y1.2.2.fst + (1 : Int))))]) <|
      .rq ((1000000000 : Int) ≠ (0 : Int)) <|
      .rq ([Go.Value.int Go.IntKind.i64 ((Go.IntKind.i64.wrap (y1.2.fst + y3)).tmod (1000000000 : Int))].length = (1 : Nat) * (1 : Nat)) <|
      .rq (one [Go.Value.int Go.IntKind.i64 ((Go.IntKind.i64.wrap (y1.2.fst + y3)).tmod (1000000000 : Int))] = true ∧ (y1.1.fst + (1 : Nat)) * (8 : Nat) ≤ (140737488355328 : Nat) ∧ y1.1.fst + (1 : Nat) ≤ (9223372036854775807 : Nat)) <|
      .rq ((1000000000 : Int) ≠ (0 : Int)) <|
      .nx 0 [.a 3 (y1.1.fst + (1 : Nat)) (y1.1.snd ++ [Go.Value.int Go.IntKind.i64 ((Go.IntKind.i64.wrap (y1.2.fst + y3)).tmod (1000000000 : Int))]), .v (.int .i64 (Go.IntKind.i64.wrap ((Go.IntKind.i64.wrap (y1.2.fst + y3)).tdiv (1000000000 : Int)))), .v (.int .i64 (Go.IntKind.i64.wrap (y1.2.2.fst + (1 : Int))))]) <|
    .br (decide (y1.2.2.fst < (↑x1.n : Int))) (
      .el (x1.a) (x1.n) (y1.2.2.fst) fun y2 =>
      .ld false (y2.add (Int.toNat y1.2.2.fst * (1 : Nat))) (.o (.i .i64)) fun y3 =>
      .rq ((1000000000 : Int) ≠ (0 : Int)) <|
      .rq ([Go.Value.int Go.IntKind.i64 ((Go.IntKind.i64.wrap (y1.2.fst + y3)).tmod (1000000000 : Int))].length = (1 : Nat) * (1 : Nat)) <|
      .rq (one [Go.Value.int Go.IntKind.i64 ((Go.IntKind.i64.wrap (y1.2.fst + y3)).tmod (1000000000 : Int))] = true ∧ (y1.1.fst + (1 : Nat)) * (8 : Nat) ≤ (140737488355328 : Nat) ∧ y1.1.fst + (1 : Nat) ≤ (9223372036854775807 : Nat)) <|
      .rq ((1000000000 : Int) ≠ (0 : Int)) <|
      .nx 0 [.a 3 (y1.1.fst + (1 : Nat)) (y1.1.snd ++ [Go.Value.int Go.IntKind.i64 ((Go.IntKind.i64.wrap (y1.2.fst + y3)).tmod (1000000000 : Int))]), .v (.int .i64 (Go.IntKind.i64.wrap ((Go.IntKind.i64.wrap (y1.2.fst + y3)).tdiv (1000000000 : Int)))), .v (.int .i64 (Go.IntKind.i64.wrap (y1.2.2.fst + (1 : Int))))]) <|
    .rq ((1000000000 : Int) ≠ (0 : Int)) <|
    .rq ([Go.Value.int Go.IntKind.i64 (Int.tmod y1.2.fst (1000000000 : Int))].length = (1 : Nat) * (1 : Nat)) <|
    .rq (one [Go.Value.int Go.IntKind.i64 (Int.tmod y1.2.fst (1000000000 : Int))] = true ∧ (y1.1.fst + (1 : Nat)) * (8 : Nat) ≤ (140737488355328 : Nat) ∧ y1.1.fst + (1 : Nat) ≤ (9223372036854775807 : Nat)) <|
    .rq ((1000000000 : Int) ≠ (0 : Int)) <|
    .nx 0 [.a 3 (y1.1.fst + (1 : Nat)) (y1.1.snd ++ [Go.Value.int Go.IntKind.i64 (Int.tmod y1.2.fst (1000000000 : Int))]), .v (.int .i64 (Go.IntKind.i64.wrap (Int.tdiv y1.2.fst (1000000000 : Int)))), .v (.int .i64 (Go.IntKind.i64.wrap (y1.2.2.fst + (1 : Int))))]) <|
  .fz (y1.1.fst) (y1.1.snd) 3 fun b2 c2 =>
  .ret [.slice (some { block := b2, off := (0 : Nat) : Go.Addr }) (y1.1.fst) (c2)]
theorem fS_l02Add (x0 : SlV) (x1 : SlV) : fits Tryz.prog aS_l02Add 86 [Sc.val .l (x0), Sc.val .l (x1)] (tS_l02Add x0 x1) :=
  ⟨Tryz.f86, Tryz.f86.body.getD .skip, by kernel_rfl, by kernel_rfl, by kernel_rfl, by kernel_rfl, by kernel_rfl, by kernel_rfl⟩
/-! loop.example/g00793/spec.l02Sub -/
def aS_l02Sub : An := ⟨[(4, [.s 5, .s 6, .s 12], [.a 3, .o (.o (.i .i64)), .o (.o (.i .i64))])], [], []⟩
noncomputable def tS_l02Sub (x0 : SlV) (x1 : SlV) : T :=
  .lp [.a 3, .o (.o (.i .i64)), .o (.o (.i .i64))] [.a 3 ((0 : Nat)) [], .v (.int .i64 ((0 : Int))), .v (.int .i64 ((0 : Int)))] fun y1 =>
  .br (decide (y1.2.2.fst < (↑x0.n : Int))) (
    .el (x0.a) (x0.n) (y1.2.2.fst) fun y2 =>
    .ld false (y2.add (Int.toNat y1.2.2.fst * (1 : Nat))) (.o (.i .i64)) fun y3 =>
    .br (decide (y1.2.2.fst < (↑x1.n : Int))) (
      .el (x1.a) (x1.n) (y1.2.2.fst) fun y4 =>
      .ld false (y4.add (Int.toNat y1.2.2.fst * (1 : Nat))) (.o (.i .i64)) fun y5 =>
      .br (decide (Go.IntKind.i64.wrap (Go.IntKind.i64.wrap (y3 - y1.2.fst) - y5) < (0 : Int))) (
        .rq ([Go.Value.int Go.IntKind.i64 (Go.IntKind.i64.wrap (Go.IntKind.i64.wrap (Go.IntKind.i64.wrap (y3 - y1.2.fst) - y5) + (1000000000 : Int)))].length = (1 : Nat) * (1 : Nat)) <|
        .rq (one [Go.Value.int Go.IntKind.i64 (Go.IntKind.i64.wrap (Go.IntKind.i64.wrap (Go.IntKind.i64.wrap (y3 - y1.2.fst) - y5) + (1000000000 : Int)))] = true ∧ (y1.1.fst + (1 : Nat)) * (8 : Nat) ≤ (140737488355328 : Nat) ∧ y1.1.fst + (1 : Nat) ≤ (9223372036854775807 : Nat)) <|
        .nx 0 [.a 3 (y1.1.fst + (1 : Nat)) (y1.1.snd ++ [Go.Value.int Go.IntKind.i64 (Go.IntKind.i64.wrap (Go.IntKind.i64.wrap (Go.IntKind.i64.wrap (y3 - y1.2.fst) - y5) + (1000000000 : Int)))]), .v (.int .i64 ((1 : Int))), .v (.int .i64 (Go.IntKind.i64.wrap (y1.2.2.fst + (1 : Int))))]) <|
      .rq ([Go.Value.int Go.IntKind.i64 (Go.IntKind.i64.wrap (Go.IntKind.i64.wrap (y3 - y1.2.fst) - y5))].length = (1 : Nat) * (1 : Nat)) <|
      .rq (one [Go.Value.int Go.IntKind.i64 (Go.IntKind.i64.wrap (Go.IntKind.i64.wrap (y3 - y1.2.fst) - y5))] = true ∧ (y1.1.fst + (1 : Nat)) * (8 : Nat) ≤ (140737488355328 : Nat) ∧ y1.1.fst + (1 : Nat) ≤ (9223372036854775807 : Nat)) <|
      .nx 0 [.a 3 (y1.1.fst + (1 : Nat)) (y1.1.snd ++ [Go.Value.int Go.IntKind.i64 (Go.IntKind.i64.wrap (Go.IntKind.i64.wrap (y3 - y1.2.fst) - y5))]), .v (.int .i64 ((0 : Int))), .v (.int .i64 (Go.IntKind.i64.wrap (y1.2.2.fst + (1 : Int))))]) <|
    .br (decide (Go.IntKind.i64.wrap (y3 - y1.2.fst) < (0 : Int))) (
      .rq ([Go.Value.int Go.IntKind.i64 (Go.IntKind.i64.wrap (Go.IntKind.i64.wrap (y3 - y1.2.fst) + (1000000000 : Int)))].length = (1 : Nat) * (1 : Nat)) <|
      .rq (one [Go.Value.int Go.IntKind.i64 (Go.IntKind.i64.wrap (Go.IntKind.i64.wrap (y3 - y1.2.fst) + (1000000000 : Int)))] = true ∧ (y1.1.fst + (1 : Nat)) * (8 : Nat) ≤ (140737488355328 : Nat) ∧ y1.1.fst + (1 : Nat) ≤ (9223372036854775807 : Nat)) <|
      .nx 0 [.a 3 (y1.1.fst + (1 : Nat)) (y1.1.snd ++ [Go.Value.int Go.IntKind.i64 (Go.IntKind.i64.wrap (Go.IntKind.i64.wrap (y3 - y1.2.fst) + (1000000000 : Int)))]), .v (.int .i64 ((1 : Int))), .v (.int .i64 (Go.IntKind.i64.wrap (y1.2.2.fst + (1 : Int))))]) <|
    .rq ([Go.Value.int Go.IntKind.i64 (Go.IntKind.i64.wrap (y3 - y1.2.fst))].length = (1 : Nat) * (1 : Nat)) <|
    .rq (one [Go.Value.int Go.IntKind.i64 (Go.IntKind.i64.wrap (y3 - y1.2.fst))] = true ∧ (y1.1.fst + (1 : Nat)) * (8 : Nat) ≤ (140737488355328 : Nat) ∧ y1.1.fst + (1 : Nat) ≤ (9223372036854775807 : Nat)) <|
    .nx 0 [.a 3 (y1.1.fst + (1 : Nat)) (y1.1.snd ++ [Go.Value.int Go.IntKind.i64 (Go.IntKind.i64.wrap (y3 - y1.2.fst))]), .v (.int .i64 ((0 : Int))), .v (.int .i64 (Go.IntKind.i64.wrap (y1.2.2.fst + (1 : Int))))]) <|
  .fz (y1.1.fst) (y1.1.snd) 3 fun b2 c2 =>
  .call false 85 [.slice (some { block := b2, off := (0 : Nat) : Go.Addr }) (y1.1.fst) (c2)] (.v (.o (.l))) fun y3 =>
  .ret [Sc.val .l (y3)]
theorem fS_l02Sub (x0 : SlV) (x1 : SlV) : fits Tryz.prog aS_l02Sub 87 [Sc.val .l (x0), Sc.val .l (x1)] (tS_l02Sub x0 x1) :=
  ⟨Tryz.f87, Tryz.f87.body.getD .skip, by kernel_rfl, by kernel_rfl, by kernel_rfl, by kernel_rfl, by kernel_rfl, by kernel_rfl⟩
/-! loop.example/g00793/spec.l05Gcd -/
def aS_l05Gcd : An := ⟨[(3, [.s 5, .s 6], [.o (.o (.l)), .o (.o (.l))])], [], []⟩
noncomputable def tS_l05Gcd (x0 : SlV) (x1 : SlV) : T :=
  .lp [.o (.o (.l)), .o (.o (.l))] [.v (Sc.val .l (x0)), .v (Sc.val .l (x1))] fun y1 =>
  .br (decide ((↑y1.2.1.n : Int) > (0 : Int))) (
    .call false 89 [Sc.val .l (y1.1), Sc.val .l (y1.2.1)] (.t [(.o (.l)), (.o (.l))]) fun y2 =>
    .nx 0 [.v (Sc.val .l (y1.2.1)), .v (Sc.val .l (y2.2.1))]) <|
  .ret [Sc.val .l (y1.1)]
theorem fS_l05Gcd (x0 : SlV) (x1 : SlV) : fits Tryz.prog aS_l05Gcd 88 [Sc.val .l (x0), Sc.val .l (x1)] (tS_l05Gcd x0 x1) :=
  ⟨Tryz.f88, Tryz.f88.body.getD .skip, by kernel_rfl, by kernel_rfl, by kernel_rfl, by kernel_rfl, by kernel_rfl, by kernel_rfl⟩
/-! loop.example/g00793/spec.l03Div -/
def aS_l03Div : An := ⟨[(7, [.s 8, .s 9, .s 10], [.a 3, .o (.o (.l)), .o (.o (.i .i64))])], [], []⟩
noncomputable def tS_l03Div (x0 : SlV) (x1 : SlV) : T :=
  .br ((↑x1.n : Int) == (1 : Int)) (
    .el (x1.a) (x1.n) ((0 : Int)) fun y1 =>
    .ld false (y1.add (Int.toNat (0 : Int) * (1 : Nat))) (.o (.i .i64)) fun y2 =>
    .call false 120 [Sc.val .l (x0), .int .i64 (y2)] (.t [(.o (.l)), (.o (.i .i64))]) fun y3 =>
    .call false 80 [.int .i64 (y3.2.fst)] (.v (.o (.l))) fun y4 =>
    .ret [Sc.val .l (y3.1), Sc.val .l (y4)]) <|
  .rq ((0 : Int) ≤ (↑x0.n : Int) ∧ (↑x0.n : Int) ≤ (↑x0.n : Int) ∧ (↑(8 : Nat) : Int) * (↑x0.n : Int) ≤ (281474976710656 : Int) ∧ (↑x0.n : Int) ≤ (9223372036854775807 : Int)) <|
  .fz ((0 : Nat)) [] 3 fun b1 c1 =>
  .lp [.a 3, .o (.o (.l)), .o (.o (.i .i64))] [.a 3 ((↑x0.n : Int).toNat) ((Go.madeCells { toList := [Go.Value.int Go.IntKind.i64 (0 : Int)] : Array Go.Value } ((↑x0.n : Int).toNat * (1 : Nat))).toList), .v (.slice (some { block := b1, off := (0 : Nat) : Go.Addr }) ((0 : Nat)) (c1)), .v (.int .i64 (Go.IntKind.i64.wrap ((↑x0.n : Int) - (1 : Int))))] fun y2 =>
  .br (decide (y2.2.2.fst ≥ (0 : Int))) (
    .el (x0.a) (x0.n) (y2.2.2.fst) fun y3 =>
    .ld false (y3.add (Int.toNat y2.2.2.fst * (1 : Nat))) (.o (.i .i64)) fun y4 =>
    .rd ({ a := y2.2.1.a, n := y2.2.1.n, c := y2.2.1.c : SlV }) ((1 : Nat)) fun y5 =>
    .rq (one y5 = true ∧ ((1 : Nat) + y2.2.1.n) * (8 : Nat) ≤ (140737488355328 : Nat) ∧ (1 : Nat) + y2.2.1.n ≤ (9223372036854775807 : Nat)) <|
    .fz ((1 : Nat) + y2.2.1.n) ([(Sh1.o (Sc.i Go.IntKind.i64)).val y4] ++ y5) 3 fun b6 c6 =>
    .call false 85 [.slice (some { block := b6, off := (0 : Nat) : Go.Addr }) ((1 : Nat) + y2.2.1.n) (c6)] (.v (.o (.l))) fun y7 =>
    .call false 82 [Sc.val .l (y7), Sc.val .l (x1)] (.v (.o (.i .i64))) fun y8 =>
    .br (decide (y8 < (0 : Int))) (
      .nx 0 [.a 3 (y2.1.fst) (y2.1.snd), .v (Sc.val .l (y7)), .v (.int .i64 (Go.IntKind.i64.wrap (y2.2.2.fst - (1 : Int))))]) <|
    .call false 121 [Sc.val .l (y7), Sc.val .l (x1)] (.v (.o (.i .i64))) fun y9 =>
    .rq ((0 : Int) ≤ y2.2.2.fst ∧ y2.2.2.fst < (↑y2.1.fst : Int)) <|
    .rq (Int.toNat y2.2.2.fst * (1 : Nat) + [(Sh1.o (Sc.i Go.IntKind.i64)).val y9].length ≤ y2.1.snd.length) <|
    .call false 80 [.int .i64 (y9)] (.v (.o (.l))) fun y10 =>
    .call false 49 [Sc.val .l (x1), Sc.val .l (y10)] (.v (.o (.l))) fun y11 =>
    .call false 87 [Sc.val .l (y7), Sc.val .l (y11)] (.v (.o (.l))) fun y12 =>
    .nx 0 [.a 3 (y2.1.fst) (setl y2.1.snd (Int.toNat y2.2.2.fst * (1 : Nat)) [(Sh1.o (Sc.i Go.IntKind.i64)).val y9]), .v (Sc.val .l (y12)), .v (.int .i64 (Go.IntKind.i64.wrap (y2.2.2.fst - (1 : Int))))]) <|
  .fz (y2.1.fst) (y2.1.snd) 3 fun b3 c3 =>
  .call false 85 [.slice (some { block := b3, off := (0 : Nat) : Go.Addr }) (y2.1.fst) (c3)] (.v (.o (.l))) fun y4 =>
  .ret [Sc.val .l (y4), Sc.val .l (y2.2.1)]
theorem fS_l03Div (x0 : SlV) (x1 : SlV) : fits Tryz.prog aS_l03Div 89 [Sc.val .l (x0), Sc.val .l (x1)] (tS_l03Div x0 x1) :=
  ⟨Tryz.f89, Tryz.f89.body.getD .skip, by kernel_rfl, by kernel_rfl, by kernel_rfl, by kernel_rfl, by kernel_rfl, by kernel_rfl⟩
/-! loop.example/g00793/laws.toAcct -/
def aL_toAcct : An := ⟨[], [], []⟩
noncomputable def tL_toAcct (x0 : ByteArray × ByteArray × Bool × SlV × PUnit) : T :=
  .call false 122 [Sh1.val (.g [.s, .b, .l]) (x0.2)] (.v (.g [.s, .b, .l])) fun y1 =>
  .ret [Sh1.val (.g [.s, .s, .b, .l]) ((x0.fst), (y1.fst), (y1.2.fst), y1.2.2.1, ())]
theorem fL_toAcct (x0 : ByteArray × ByteArray × Bool × SlV × PUnit) : fits Tryz.prog aL_toAcct 90 [Sh1.val (.g [.s, .s, .b, .l]) (x0)] (tL_toAcct x0) :=
  ⟨Tryz.f90, Tryz.f90.body.getD .skip, by kernel_rfl, by kernel_rfl, by kernel_rfl, by kernel_rfl, by kernel_rfl, by kernel_rfl⟩
/-! loop.example/g00793/laws.toRat -/
def aL_toRat : An := ⟨[], [], []⟩
noncomputable def tL_toRat (x0 : Bool × SlV × SlV × PUnit) : T :=
  .call false 123 [Sh1.val (.g [.b, .l]) ((x0.fst), x0.2.1, ())] (.v (.g [.b, .l])) fun y1 =>
  .call false 124 [Sc.val .l (x0.2.2.1)] (.v (.o (.l))) fun y2 =>
  .ret [Sh1.val (.g [.b, .l, .l]) ((y1.fst), y1.2.1, y2, ())]
theorem fL_toRat (x0 : Bool × SlV × SlV × PUnit) : fits Tryz.prog aL_toRat 91 [Sh1.val (.g [.b, .l, .l]) (x0)] (tL_toRat x0) :=
  ⟨Tryz.f91, Tryz.f91.body.getD .skip, by kernel_rfl, by kernel_rfl, by kernel_rfl, by kernel_rfl, by kernel_rfl, by kernel_rfl⟩
/-! loop.example/g00793/laws.toRate -/
def aL_toRate : An := ⟨[], [], []⟩
noncomputable def tL_toRate (x0 : ByteArray × ByteArray × Bool × SlV × Int × PUnit) : T :=
  .call false 125 [Sh1.val (.g [.b, .l, .i .i64]) (x0.2.2)] (.v (.g [.b, .l, .i .i64])) fun y1 =>
  .ret [Sh1.val (.g [.s, .s, .b, .l, .i .i64]) ((x0.fst), (x0.2.fst), (y1.fst), y1.2.1, ((y1.2.2.fst) : Int), ())]
theorem fL_toRate (x0 : ByteArray × ByteArray × Bool × SlV × Int × PUnit) : fits Tryz.prog aL_toRate 92 [Sh1.val (.g [.s, .s, .b, .l, .i .i64]) (x0)] (tL_toRate x0) :=
  ⟨Tryz.f92, Tryz.f92.body.getD .skip, by kernel_rfl, by kernel_rfl, by kernel_rfl, by kernel_rfl, by kernel_rfl, by kernel_rfl⟩
/-! loop.example/g00793/impl.IsWord -/
def aI_IsWord : An := ⟨[(4, [.s 3], [.o (.o (.i .i64))])], [], []⟩
noncomputable def tI_IsWord (x0 : ByteArray) : T :=
  .br (decide ((↑x0.size : Int) < (1 : Int))) (
    .ret [.bool (false)]) <|
  .br (decide ((↑x0.size : Int) > (12 : Int))) (
    .ret [.bool (false)]) <|
  .rq ((0 : Int) ≤ (0 : Int) ∧ (0 : Int) < (↑x0.size : Int)) <|
  .call false 126 [.int .u8 (at0 x0 (Int.toNat (0 : Int)))] (.v (.o (.b))) fun y1 =>
  .br (!y1) (
    .ret [.bool (false)]) <|
  .lp [.o (.o (.i .i64))] [.v (.int .i64 ((1 : Int)))] fun y2 =>
  .br (decide (y2.fst < (↑x0.size : Int))) (
    .rq ((0 : Int) ≤ y2.fst ∧ y2.fst < (↑x0.size : Int)) <|
    .call false 126 [.int .u8 (at0 x0 (Int.toNat y2.fst))] (.v (.o (.b))) fun y3 =>
    .br (!y3) (
      .rq ((0 : Int) ≤ y2.fst ∧ y2.fst < (↑x0.size : Int)) <|
      .call false 127 [.int .u8 (at0 x0 (Int.toNat y2.fst))] (.v (.o (.b))) fun y4 =>
      .br (!y4) (
        .ret [.bool (false)]) <|
      .nx 0 [.v (.int .i64 (Go.IntKind.i64.wrap (y2.fst + (1 : Int))))]) <|
    .nx 0 [.v (.int .i64 (Go.IntKind.i64.wrap (y2.fst + (1 : Int))))]) <|
  .ret [.bool (true)]
theorem fI_IsWord (x0 : ByteArray) : fits Tryz.prog aI_IsWord 93 [.string (x0)] (tI_IsWord x0) :=
  ⟨Tryz.f93, Tryz.f93.body.getD .skip, by kernel_rfl, by kernel_rfl, by kernel_rfl, by kernel_rfl, by kernel_rfl, by kernel_rfl⟩
/-! loop.example/g00793/impl.MoneyOk -/
def aI_MoneyOk : An := ⟨[], [], []⟩
noncomputable def tI_MoneyOk (x0 : ByteArray × Bool × SlV × PUnit) : T :=
  .call false 95 [.string (x0.fst)] (.v (.o (.b))) fun y1 =>
  .br (y1) (
    .call false 128 [Sh1.val (.g [.b, .l]) (x0.2)] (.v (.o (.b))) fun y2 =>
    .br (y2) (
      .ret [.bool (decide ((↑x0.2.2.1.n : Int) ≤ (4 : Int)))]) <|
    .ret [.bool (false)]) <|
  .ret [.bool (false)]
theorem fI_MoneyOk (x0 : ByteArray × Bool × SlV × PUnit) : fits Tryz.prog aI_MoneyOk 94 [Sh1.val (.g [.s, .b, .l]) (x0)] (tI_MoneyOk x0) :=
  ⟨Tryz.f94, Tryz.f94.body.getD .skip, by kernel_rfl, by kernel_rfl, by kernel_rfl, by kernel_rfl, by kernel_rfl, by kernel_rfl⟩
/-! loop.example/g00793/impl.CurKnown -/
def aI_CurKnown : An := ⟨[], [], []⟩
noncomputable def tI_CurKnown (x0 : ByteArray) : T :=
  .call false 129 [.string (x0)] (.t [(.g [.s, .s, .i .i64, .i .i64]), (.o (.b))]) fun y1 =>
  .ret [.bool (y1.2.fst)]
theorem fI_CurKnown (x0 : ByteArray) : fits Tryz.prog aI_CurKnown 95 [.string (x0)] (tI_CurKnown x0) :=
  ⟨Tryz.f95, Tryz.f95.body.getD .skip, by kernel_rfl, by kernel_rfl, by kernel_rfl, by kernel_rfl, by kernel_rfl, by kernel_rfl⟩
/-! loop.example/g00793/impl.RatOk -/
def aI_RatOk : An := ⟨[], [], []⟩
noncomputable def tI_RatOk (x0 : Bool × SlV × SlV × PUnit) : T :=
  .call false 128 [Sh1.val (.g [.b, .l]) ((x0.fst), x0.2.1, ())] (.v (.o (.b))) fun y1 =>
  .br (!y1) (
    .ret [.bool (false)]) <|
  .call false 130 [Sc.val .l (x0.2.2.1)] (.v (.o (.b))) fun y2 =>
  .br (!y2) (
    .ret [.bool (false)]) <|
  .br ((↑x0.2.2.1.n : Int) == (0 : Int)) (
    .ret [.bool (false)]) <|
  .br (decide ((↑x0.2.2.1.n : Int) > (18 : Int))) (
    .ret [.bool (false)]) <|
  .br (decide ((↑x0.2.1.n : Int) > (18 : Int))) (
    .ret [.bool (false)]) <|
  .call false 131 [Sc.val .l (x0.2.1), Sc.val .l (x0.2.2.1)] (.v (.o (.l))) fun y3 =>
  .br ((↑y3.n : Int) == (1 : Int)) (
    .el (y3.a) (y3.n) ((0 : Int)) fun y4 =>
    .ld false (y4.add (Int.toNat (0 : Int) * (1 : Nat))) (.o (.i .i64)) fun y5 =>
    .ret [.bool (y5 == (1 : Int))]) <|
  .ret [.bool (false)]
theorem fI_RatOk (x0 : Bool × SlV × SlV × PUnit) : fits Tryz.prog aI_RatOk 96 [Sh1.val (.g [.b, .l, .l]) (x0)] (tI_RatOk x0) :=
  ⟨Tryz.f96, Tryz.f96.body.getD .skip, by kernel_rfl, by kernel_rfl, by kernel_rfl, by kernel_rfl, by kernel_rfl, by kernel_rfl⟩
/-! loop.example/g00793/impl.RatSign -/
def aI_RatSign : An := ⟨[], [], []⟩
noncomputable def tI_RatSign (x0 : Bool × SlV × SlV × PUnit) : T :=
  .call false 96 [Sh1.val (.g [.b, .l, .l]) (x0)] (.v (.o (.b))) fun y1 =>
  .br (!y1) (
    .ret [.int .i64 ((0 : Int))]) <|
  .call false 132 [Sh1.val (.g [.b, .l]) ((x0.fst), x0.2.1, ())] (.v (.o (.i .i64))) fun y2 =>
  .ret [.int .i64 (y2)]
theorem fI_RatSign (x0 : Bool × SlV × SlV × PUnit) : fits Tryz.prog aI_RatSign 97 [Sh1.val (.g [.b, .l, .l]) (x0)] (tI_RatSign x0) :=
  ⟨Tryz.f97, Tryz.f97.body.getD .skip, by kernel_rfl, by kernel_rfl, by kernel_rfl, by kernel_rfl, by kernel_rfl, by kernel_rfl⟩
/-! loop.example/g00793/impl.RateOk -/
def aI_RateOk : An := ⟨[], [], []⟩
noncomputable def tI_RateOk (x0 : ByteArray × ByteArray × Bool × SlV × Int × PUnit) : T :=
  .call false 95 [.string (x0.fst)] (.v (.o (.b))) fun y1 =>
  .br (y1) (
    .call false 95 [.string (x0.2.fst)] (.v (.o (.b))) fun y2 =>
    .br (y2) (
      .br (!ByteArray.toList x0.fst == ByteArray.toList x0.2.fst) (
        .call false 133 [Sh1.val (.g [.b, .l, .i .i64]) (x0.2.2)] (.v (.o (.b))) fun y3 =>
        .br (y3) (
          .call false 132 [Sh1.val (.g [.b, .l]) ((x0.2.2.fst), x0.2.2.2.1, ())] (.v (.o (.i .i64))) fun y4 =>
          .br (decide (y4 > (0 : Int))) (
            .ret [.bool (decide ((↑x0.2.2.2.1.n : Int) ≤ (2 : Int)))]) <|
          .ret [.bool (false)]) <|
        .ret [.bool (false)]) <|
      .ret [.bool (false)]) <|
    .ret [.bool (false)]) <|
  .ret [.bool (false)]
theorem fI_RateOk (x0 : ByteArray × ByteArray × Bool × SlV × Int × PUnit) : fits Tryz.prog aI_RateOk 98 [Sh1.val (.g [.s, .s, .b, .l, .i .i64]) (x0)] (tI_RateOk x0) :=
  ⟨Tryz.f98, Tryz.f98.body.getD .skip, by kernel_rfl, by kernel_rfl, by kernel_rfl, by kernel_rfl, by kernel_rfl, by kernel_rfl⟩
/-! loop.example/g00793/impl.RatMake -/
def aI_RatMake : An := ⟨[], [], []⟩
noncomputable def tI_RatMake (x0 : Bool × SlV × PUnit) (x1 : Bool × SlV × PUnit) : T :=
  .call false 134 [Sh1.val (.g [.b, .l]) (x0), Sh1.val (.g [.b, .l]) (x1)] (.v (.o (.b))) fun y1 =>
  .br (!y1) (
    .ret [Sh1.val (.g [.b, .l, .l]) ((false), (⟨(none), ((0 : Nat)), ((0 : Nat))⟩ : SlV), (⟨(none), ((0 : Nat)), ((0 : Nat))⟩ : SlV), ()), .bool (false)]) <|
  .br ((↑x1.2.1.n : Int) == (0 : Int)) (
    .ret [Sh1.val (.g [.b, .l, .l]) ((false), (⟨(none), ((0 : Nat)), ((0 : Nat))⟩ : SlV), (⟨(none), ((0 : Nat)), ((0 : Nat))⟩ : SlV), ()), .bool (false)]) <|
  .rg <|
  .call true 135 [.bool (!x0.fst == x1.fst), Sc.val .l (x0.2.1)] (.v (.g [.b, .l])) fun y2 =>
  .call true 104 [Sh1.val (.g [.b, .l]) (y2), Sc.val .l (x1.2.1)] (.t [(.g [.b, .l, .l]), (.o (.b))]) fun y3 =>
  .ret [Sh1.val (.g [.b, .l, .l]) (y3.1), .bool (y3.2.fst)]
theorem fI_RatMake (x0 : Bool × SlV × PUnit) (x1 : Bool × SlV × PUnit) : fits Tryz.prog aI_RatMake 99 [Sh1.val (.g [.b, .l]) (x0), Sh1.val (.g [.b, .l]) (x1)] (tI_RatMake x0 x1) :=
  ⟨Tryz.f99, Tryz.f99.body.getD .skip, by kernel_rfl, by kernel_rfl, by kernel_rfl, by kernel_rfl, by kernel_rfl, by kernel_rfl⟩
/-! loop.example/g00793/impl.IntOf -/
def aI_IntOf : An := ⟨[], [], []⟩
noncomputable def tI_IntOf (x0 : Int) : T :=
  .br (decide (x0 < (0 : Int))) (
    .call false 136 [.int .u64 (Go.IntKind.u64.wrap ((0 : Int) - Go.IntKind.u64.wrap x0))] (.v (.o (.l))) fun y1 =>
    .ret [Sh1.val (.g [.b, .l]) ((true), y1, ())]) <|
  .call false 136 [.int .u64 (Go.IntKind.u64.wrap x0)] (.v (.o (.l))) fun y1 =>
  .ret [Sh1.val (.g [.b, .l]) ((false), y1, ())]
theorem fI_IntOf (x0 : Int) : fits Tryz.prog aI_IntOf 100 [.int .i64 (x0)] (tI_IntOf x0) :=
  ⟨Tryz.f100, Tryz.f100.body.getD .skip, by kernel_rfl, by kernel_rfl, by kernel_rfl, by kernel_rfl, by kernel_rfl, by kernel_rfl⟩
/-! loop.example/g00793/impl.intAdd -/
def aI_intAdd : An := ⟨[], [], []⟩
noncomputable def tI_intAdd (x0 : Bool × SlV × PUnit) (x1 : Bool × SlV × PUnit) : T :=
  .br (x0.fst == x1.fst) (
    .rg <|
    .call true 137 [Sc.val .l (x0.2.1), Sc.val .l (x1.2.1)] (.v (.o (.l))) fun y1 =>
    .call true 135 [.bool (x0.fst), Sc.val .l (y1)] (.v (.g [.b, .l])) fun y2 =>
    .ret [Sh1.val (.g [.b, .l]) (y2)]) <|
  .call false 138 [Sc.val .l (x0.2.1), Sc.val .l (x1.2.1)] (.v (.o (.i .i64))) fun y1 =>
  .br (decide (y1 < (0 : Int))) (
    .rg <|
    .call true 139 [Sc.val .l (x1.2.1), Sc.val .l (x0.2.1)] (.v (.o (.l))) fun y2 =>
    .call true 135 [.bool (x1.fst), Sc.val .l (y2)] (.v (.g [.b, .l])) fun y3 =>
    .ret [Sh1.val (.g [.b, .l]) (y3)]) <|
  .rg <|
  .call true 139 [Sc.val .l (x0.2.1), Sc.val .l (x1.2.1)] (.v (.o (.l))) fun y2 =>
  .call true 135 [.bool (x0.fst), Sc.val .l (y2)] (.v (.g [.b, .l])) fun y3 =>
  .ret [Sh1.val (.g [.b, .l]) (y3)]
theorem fI_intAdd (x0 : Bool × SlV × PUnit) (x1 : Bool × SlV × PUnit) : fits Tryz.prog aI_intAdd 101 [Sh1.val (.g [.b, .l]) (x0), Sh1.val (.g [.b, .l]) (x1)] (tI_intAdd x0 x1) :=
  ⟨Tryz.f101, Tryz.f101.body.getD .skip, by kernel_rfl, by kernel_rfl, by kernel_rfl, by kernel_rfl, by kernel_rfl, by kernel_rfl⟩
/-! loop.example/g00793/impl.ratsOk -/
def aI_ratsOk : An := ⟨[], [], []⟩
noncomputable def tI_ratsOk (x0 : Bool × SlV × SlV × PUnit) (x1 : Bool × SlV × SlV × PUnit) : T :=
  .call false 96 [Sh1.val (.g [.b, .l, .l]) (x0)] (.v (.o (.b))) fun y1 =>
  .br (y1) (
    .call false 96 [Sh1.val (.g [.b, .l, .l]) (x1)] (.v (.o (.b))) fun y2 =>
    .ret [.bool (y2)]) <|
  .ret [.bool (false)]
theorem fI_ratsOk (x0 : Bool × SlV × SlV × PUnit) (x1 : Bool × SlV × SlV × PUnit) : fits Tryz.prog aI_ratsOk 102 [Sh1.val (.g [.b, .l, .l]) (x0), Sh1.val (.g [.b, .l, .l]) (x1)] (tI_ratsOk x0 x1) :=
  ⟨Tryz.f102, Tryz.f102.body.getD .skip, by kernel_rfl, by kernel_rfl, by kernel_rfl, by kernel_rfl, by kernel_rfl, by kernel_rfl⟩
/-! (loop.example/g00793/impl.Rat).num -/
def aI_Rat__num : An := ⟨[], [], []⟩
noncomputable def tI_Rat__num (x0 : Bool × SlV × SlV × PUnit) (x1 : SlV) : T :=
  .rg <|
  .call true 105 [Sc.val .l (x0.2.1), Sc.val .l (x1)] (.v (.o (.l))) fun y1 =>
  .call true 135 [.bool (x0.fst), Sc.val .l (y1)] (.v (.g [.b, .l])) fun y2 =>
  .ret [Sh1.val (.g [.b, .l]) (y2)]
theorem fI_Rat__num (x0 : Bool × SlV × SlV × PUnit) (x1 : SlV) : fits Tryz.prog aI_Rat__num 103 [Sh1.val (.g [.b, .l, .l]) (x0), Sc.val .l (x1)] (tI_Rat__num x0 x1) :=
  ⟨Tryz.f103, Tryz.f103.body.getD .skip, by kernel_rfl, by kernel_rfl, by kernel_rfl, by kernel_rfl, by kernel_rfl, by kernel_rfl⟩
/-! loop.example/g00793/impl.reduce -/
def aI_reduce : An := ⟨[], [], []⟩
noncomputable def tI_reduce (x0 : Bool × SlV × PUnit) (x1 : SlV) : T :=
  .call false 131 [Sc.val .l (x0.2.1), Sc.val .l (x1)] (.v (.o (.l))) fun y1 =>
  .call false 140 [Sc.val .l (x0.2.1), Sc.val .l (y1)] (.t [(.o (.l)), (.o (.l))]) fun y2 =>
  .call false 140 [Sc.val .l (x1), Sc.val .l (y1)] (.t [(.o (.l)), (.o (.l))]) fun y3 =>
  .br (decide ((↑y2.1.n : Int) > (18 : Int))) (
    .ret [Sh1.val (.g [.b, .l, .l]) ((false), (⟨(none), ((0 : Nat)), ((0 : Nat))⟩ : SlV), (⟨(none), ((0 : Nat)), ((0 : Nat))⟩ : SlV), ()), .bool (false)]) <|
  .br (decide ((↑y3.1.n : Int) > (18 : Int))) (
    .ret [Sh1.val (.g [.b, .l, .l]) ((false), (⟨(none), ((0 : Nat)), ((0 : Nat))⟩ : SlV), (⟨(none), ((0 : Nat)), ((0 : Nat))⟩ : SlV), ()), .bool (false)]) <|
  .call false 135 [.bool (x0.fst), Sc.val .l (y2.1)] (.v (.g [.b, .l])) fun y4 =>
  .ret [Sh1.val (.g [.b, .l, .l]) ((y4.fst), y4.2.1, y3.1, ()), .bool (true)]
theorem fI_reduce (x0 : Bool × SlV × PUnit) (x1 : SlV) : fits Tryz.prog aI_reduce 104 [Sh1.val (.g [.b, .l]) (x0), Sc.val .l (x1)] (tI_reduce x0 x1) :=
  ⟨Tryz.f104, Tryz.f104.body.getD .skip, by kernel_rfl, by kernel_rfl, by kernel_rfl, by kernel_rfl, by kernel_rfl, by kernel_rfl⟩
/-! loop.example/g00793/impl.natMul -/
def aI_natMul : An := ⟨[(3, [.s 5, .s 21], [.a 3, .o (.o (.i .i64))]), (7, [.s 5, .s 8, .s 28], [.a 3, .o (.o (.i .i64)), .o (.o (.i .i64))]), (14, [.s 5, .s 8, .s 11], [.a 3, .o (.o (.i .i64)), .o (.o (.i .i64))])], [], []⟩
noncomputable def tI_natMul (x0 : SlV) (x1 : SlV) : T :=
  .rq ((0 : Int) ≤ Go.IntKind.i64.wrap (Go.IntKind.i64.wrap ((↑x0.n : Int) + (↑x1.n : Int)) + (1 : Int)) ∧ Go.IntKind.i64.wrap (Go.IntKind.i64.wrap ((↑x0.n : Int) + (↑x1.n : Int)) + (1 : Int)) ≤ Go.IntKind.i64.wrap (Go.IntKind.i64.wrap ((↑x0.n : Int) + (↑x1.n : Int)) + (1 : Int)) ∧ (↑(8 : Nat) : Int) * Go.IntKind.i64.wrap (Go.IntKind.i64.wrap ((↑x0.n : Int) + (↑x1.n : Int)) + (1 : Int)) ≤ (281474976710656 : Int) ∧ Go.IntKind.i64.wrap (Go.IntKind.i64.wrap ((↑x0.n : Int) + (↑x1.n : Int)) + (1 : Int)) ≤ (9223372036854775807 : Int)) <|
  .lp [.a 3, .o (.o (.i .i64))] [.a 3 ((Go.IntKind.i64.wrap (Go.IntKind.i64.wrap ((↑x0.n : Int) + (↑x1.n : Int)) + (1 : Int))).toNat) ((Go.madeCells { toList := [Go.Value.int Go.IntKind.i64 (0 : Int)] : Array Go.Value } ((Go.IntKind.i64.wrap (Go.IntKind.i64.wrap ((↑x0.n : Int) + (↑x1.n : Int)) + (1 : Int))).toNat * (1 : Nat))).toList), .v (.int .i64 ((0 : Int)))] fun y1 =>
  .br (decide (y1.2.fst < (↑x0.n : Int))) (
    .el (x0.a) (x0.n) (y1.2.fst) fun y2 =>
    .ld false (y2.add (Int.toNat y1.2.fst * (1 : Nat))) (.o (.i .i64)) fun y3 =>
    .lp [.a 3, .o (.o (.i .i64)), .o (.o (.i .i64))] [.a 3 (y1.1.fst) (y1.1.snd), .v (.int .i64 ((0 : Int))), .v (.int .i64 ((0 : Int)))] fun y4 =>
    .br (decide (y4.2.2.fst < (↑x1.n : Int))) (
      .el (x1.a) (x1.n) (y4.2.2.fst) fun y5 =>
      .ld false (y5.add (Int.toNat y4.2.2.fst * (1 : Nat))) (.o (.i .i64)) fun y6 =>
      .rq ((0 : Int) ≤ Go.IntKind.i64.wrap (y1.2.fst + y4.2.2.fst) ∧ Go.IntKind.i64.wrap (y1.2.fst + y4.2.2.fst) < (↑y4.1.fst : Int)) <|
      .xs (y4.1.snd) ((Go.IntKind.i64.wrap (y1.2.fst + y4.2.2.fst)).toNat * (1 : Nat)) (.o (.i .i64)) fun y7 =>
      .rq ((1000000000 : Int) ≠ (0 : Int)) <|
      .rq ((0 : Int) ≤ Go.IntKind.i64.wrap (y1.2.fst + y4.2.2.fst) ∧ Go.IntKind.i64.wrap (y1.2.fst + y4.2.2.fst) < (↑y4.1.fst : Int)) <|
      .rq ((Go.IntKind.i64.wrap (y1.2.fst + y4.2.2.fst)).toNat * (1 : Nat) + [Go.Value.int Go.IntKind.i64 ((Go.IntKind.i64.wrap (y4.2.fst + Go.IntKind.i64.wrap (y7 + Go.IntKind.i64.wrap (y3 * y6)))).tmod (1000000000 : Int))].length ≤ y4.1.snd.length) <|
      .rq ((1000000000 : Int) ≠ (0 : Int)) <|
      .nx 1 [.a 3 (y4.1.fst) (setl y4.1.snd ((Go.IntKind.i64.wrap (y1.2.fst + y4.2.2.fst)).toNat * (1 : Nat)) [Go.Value.int Go.IntKind.i64 ((Go.IntKind.i64.wrap (y4.2.fst + Go.IntKind.i64.wrap (y7 + Go.IntKind.i64.wrap (y3 * y6)))).tmod (1000000000 : Int))]), .v (.int .i64 (Go.IntKind.i64.wrap ((Go.IntKind.i64.wrap (y4.2.fst + Go.IntKind.i64.wrap (y7 + Go.IntKind.i64.wrap (y3 * y6)))).tdiv (1000000000 : Int)))), .v (.int .i64 (Go.IntKind.i64.wrap (y4.2.2.fst + (1 : Int))))]) <|
    .lp [.a 3, .o (.o (.i .i64)), .o (.o (.i .i64))] [.a 3 (y4.1.fst) (y4.1.snd), .v (.int .i64 (y4.2.fst)), .v (.int .i64 (Go.IntKind.i64.wrap (y1.2.fst + (↑x1.n : Int))))] fun y5 =>
    .br (decide (y5.2.fst > (0 : Int))) (
      .rq ((0 : Int) ≤ y5.2.2.fst ∧ y5.2.2.fst < (↑y5.1.fst : Int)) <|
      .xs (y5.1.snd) (Int.toNat y5.2.2.fst * (1 : Nat)) (.o (.i .i64)) fun y6 =>
      .rq ((1000000000 : Int) ≠ (0 : Int)) <|
      .rq ((0 : Int) ≤ y5.2.2.fst ∧ y5.2.2.fst < (↑y5.1.fst : Int)) <|
      .rq (Int.toNat y5.2.2.fst * (1 : Nat) + [Go.Value.int Go.IntKind.i64 ((Go.IntKind.i64.wrap (y5.2.fst + y6)).tmod (1000000000 : Int))].length ≤ y5.1.snd.length) <|
      .rq ((1000000000 : Int) ≠ (0 : Int)) <|
      .nx 2 [.a 3 (y5.1.fst) (setl y5.1.snd (Int.toNat y5.2.2.fst * (1 : Nat)) [Go.Value.int Go.IntKind.i64 ((Go.IntKind.i64.wrap (y5.2.fst + y6)).tmod (1000000000 : Int))]), .v (.int .i64 (Go.IntKind.i64.wrap ((Go.IntKind.i64.wrap (y5.2.fst + y6)).tdiv (1000000000 : Int)))), .v (.int .i64 (Go.IntKind.i64.wrap (y5.2.2.fst + (1 : Int))))]) <|
    .nx 0 [.a 3 (y5.1.fst) (y5.1.snd), .v (.int .i64 (Go.IntKind.i64.wrap (y1.2.fst + (1 : Int))))]) <|
  .fz (y1.1.fst) (y1.1.snd) 3 fun b2 c2 =>
  .call false 141 [.slice (some { block := b2, off := (0 : Nat) : Go.Addr }) (y1.1.fst) (c2)] (.v (.o (.l))) fun y3 =>
  .ret [Sc.val .l (y3)]
theorem fI_natMul (x0 : SlV) (x1 : SlV) : fits Tryz.prog aI_natMul 105 [Sc.val .l (x0), Sc.val .l (x1)] (tI_natMul x0 x1) :=
  ⟨Tryz.f105, Tryz.f105.body.getD .skip, by kernel_rfl, by kernel_rfl, by kernel_rfl, by kernel_rfl, by kernel_rfl, by kernel_rfl⟩
/-! loop.example/g00793/impl.ratCopy -/
def aI_ratCopy : An := ⟨[], [], []⟩
noncomputable def tI_ratCopy (x0 : Bool × SlV × SlV × PUnit) : T :=
  .rg <|
  .call true 142 [Sh1.val (.g [.b, .l]) ((x0.fst), x0.2.1, ())] (.v (.g [.b, .l])) fun y1 =>
  .call true 143 [Sc.val .l (x0.2.2.1)] (.v (.o (.l))) fun y2 =>
  .ret [Sh1.val (.g [.b, .l, .l]) ((y1.fst), y1.2.1, y2, ())]
theorem fI_ratCopy (x0 : Bool × SlV × SlV × PUnit) : fits Tryz.prog aI_ratCopy 106 [Sh1.val (.g [.b, .l, .l]) (x0)] (tI_ratCopy x0) :=
  ⟨Tryz.f106, Tryz.f106.body.getD .skip, by kernel_rfl, by kernel_rfl, by kernel_rfl, by kernel_rfl, by kernel_rfl, by kernel_rfl⟩
/-! loop.example/g00793/impl.RatZero -/
def aI_RatZero : An := ⟨[], [], []⟩
noncomputable def tI_RatZero  : T :=
  .fz ((1 : Nat)) [.int .i64 ((1 : Int))] 3 fun b1 c1 =>
  .ret [Sh1.val (.g [.b, .l, .l]) ((false), (⟨(none), ((0 : Nat)), ((0 : Nat))⟩ : SlV), (⟨(some { block := b1, off := (0 : Nat) : Go.Addr }), ((1 : Nat)), (c1)⟩ : SlV), ())]
theorem fI_RatZero  : fits Tryz.prog aI_RatZero 107 [] (tI_RatZero ) :=
  ⟨Tryz.f107, Tryz.f107.body.getD .skip, by kernel_rfl, by kernel_rfl, by kernel_rfl, by kernel_rfl, by kernel_rfl, by kernel_rfl⟩
/-! loop.example/g00793/laws.eqAcct -/
def aL_eqAcct : An := ⟨[], [], []⟩
noncomputable def tL_eqAcct (x0 : ByteArray × ByteArray × Bool × SlV × PUnit) (x1 : ByteArray × ByteArray × Bool × SlV × PUnit) : T :=
  .br (!ByteArray.toList x0.fst == ByteArray.toList x1.fst) (
    .ret [.bool (false)]) <|
  .call false 144 [Sh1.val (.g [.s, .b, .l]) (x0.2), Sh1.val (.g [.s, .b, .l]) (x1.2)] (.v (.o (.b))) fun y1 =>
  .br (!y1) (
    .ret [.bool (false)]) <|
  .ret [.bool (true)]
theorem fL_eqAcct (x0 : ByteArray × ByteArray × Bool × SlV × PUnit) (x1 : ByteArray × ByteArray × Bool × SlV × PUnit) : fits Tryz.prog aL_eqAcct 108 [Sh1.val (.g [.s, .s, .b, .l]) (x0), Sh1.val (.g [.s, .s, .b, .l]) (x1)] (tL_eqAcct x0 x1) :=
  ⟨Tryz.f108, Tryz.f108.body.getD .skip, by kernel_rfl, by kernel_rfl, by kernel_rfl, by kernel_rfl, by kernel_rfl, by kernel_rfl⟩
/-! loop.example/g00793/laws.eqRate -/
def aL_eqRate : An := ⟨[], [], []⟩
noncomputable def tL_eqRate (x0 : ByteArray × ByteArray × Bool × SlV × Int × PUnit) (x1 : ByteArray × ByteArray × Bool × SlV × Int × PUnit) : T :=
  .br (!ByteArray.toList x0.fst == ByteArray.toList x1.fst) (
    .ret [.bool (false)]) <|
  .br (!ByteArray.toList x0.2.fst == ByteArray.toList x1.2.fst) (
    .ret [.bool (false)]) <|
  .call false 145 [Sh1.val (.g [.b, .l, .i .i64]) (x0.2.2), Sh1.val (.g [.b, .l, .i .i64]) (x1.2.2)] (.v (.o (.b))) fun y1 =>
  .br (!y1) (
    .ret [.bool (false)]) <|
  .ret [.bool (true)]
theorem fL_eqRate (x0 : ByteArray × ByteArray × Bool × SlV × Int × PUnit) (x1 : ByteArray × ByteArray × Bool × SlV × Int × PUnit) : fits Tryz.prog aL_eqRate 109 [Sh1.val (.g [.s, .s, .b, .l, .i .i64]) (x0), Sh1.val (.g [.s, .s, .b, .l, .i .i64]) (x1)] (tL_eqRate x0 x1) :=
  ⟨Tryz.f109, Tryz.f109.body.getD .skip, by kernel_rfl, by kernel_rfl, by kernel_rfl, by kernel_rfl, by kernel_rfl, by kernel_rfl⟩
/-! loop.example/g00793/laws.szMoney -/
def aL_szMoney : An := ⟨[], [], []⟩
noncomputable def tL_szMoney (x0 : ByteArray × Bool × SlV × PUnit) (x1 : Int) : T :=
  .br (decide (Go.IntKind.i64.wrap (x1 - (↑(ByteArray.size x0.fst) : Int)) < (0 : Int))) (
    .ret [.int .i64 ((-1 : Int))]) <|
  .call false 111 [Sh1.val (.g [.b, .l]) (x0.2), .int .i64 (Go.IntKind.i64.wrap (x1 - (↑(ByteArray.size x0.fst) : Int)))] (.v (.o (.i .i64))) fun y1 =>
  .br (decide (y1 < (0 : Int))) (
    .ret [.int .i64 ((-1 : Int))]) <|
  .ret [.int .i64 (y1)]
theorem fL_szMoney (x0 : ByteArray × Bool × SlV × PUnit) (x1 : Int) : fits Tryz.prog aL_szMoney 110 [Sh1.val (.g [.s, .b, .l]) (x0), .int .i64 (x1)] (tL_szMoney x0 x1) :=
  ⟨Tryz.f110, Tryz.f110.body.getD .skip, by kernel_rfl, by kernel_rfl, by kernel_rfl, by kernel_rfl, by kernel_rfl, by kernel_rfl⟩
/-! loop.example/g00793/laws.szSigned -/
def aL_szSigned : An := ⟨[], [], []⟩
noncomputable def tL_szSigned (x0 : Bool × SlV × PUnit) (x1 : Int) : T :=
  .call false 112 [Sc.val .l (x0.2.1), .int .i64 (x1)] (.v (.o (.i .i64))) fun y1 =>
  .br (decide (y1 < (0 : Int))) (
    .ret [.int .i64 ((-1 : Int))]) <|
  .ret [.int .i64 (y1)]
theorem fL_szSigned (x0 : Bool × SlV × PUnit) (x1 : Int) : fits Tryz.prog aL_szSigned 111 [Sh1.val (.g [.b, .l]) (x0), .int .i64 (x1)] (tL_szSigned x0 x1) :=
  ⟨Tryz.f111, Tryz.f111.body.getD .skip, by kernel_rfl, by kernel_rfl, by kernel_rfl, by kernel_rfl, by kernel_rfl, by kernel_rfl⟩
/-! loop.example/g00793/laws.szIntS -/
def aL_szIntS : An := ⟨[], [], []⟩
noncomputable def tL_szIntS (x0 : SlV) (x1 : Int) : T :=
  .br (decide (Go.IntKind.i64.wrap (x1 - (↑x0.n : Int)) < (0 : Int))) (
    .ret [.int .i64 ((-1 : Int))]) <|
  .ret [.int .i64 (Go.IntKind.i64.wrap (x1 - (↑x0.n : Int)))]
theorem fL_szIntS (x0 : SlV) (x1 : Int) : fits Tryz.prog aL_szIntS 112 [Sc.val .l (x0), .int .i64 (x1)] (tL_szIntS x0 x1) :=
  ⟨Tryz.f112, Tryz.f112.body.getD .skip, by kernel_rfl, by kernel_rfl, by kernel_rfl, by kernel_rfl, by kernel_rfl, by kernel_rfl⟩
/-! loop.example/g00793/laws.szDec -/
def aL_szDec : An := ⟨[], [], []⟩
noncomputable def tL_szDec (x0 : Bool × SlV × Int × PUnit) (x1 : Int) : T :=
  .call false 111 [Sh1.val (.g [.b, .l]) ((x0.fst), x0.2.1, ()), .int .i64 (x1)] (.v (.o (.i .i64))) fun y1 =>
  .br (decide (y1 < (0 : Int))) (
    .ret [.int .i64 ((-1 : Int))]) <|
  .ret [.int .i64 (y1)]
theorem fL_szDec (x0 : Bool × SlV × Int × PUnit) (x1 : Int) : fits Tryz.prog aL_szDec 113 [Sh1.val (.g [.b, .l, .i .i64]) (x0), .int .i64 (x1)] (tL_szDec x0 x1) :=
  ⟨Tryz.f113, Tryz.f113.body.getD .skip, by kernel_rfl, by kernel_rfl, by kernel_rfl, by kernel_rfl, by kernel_rfl, by kernel_rfl⟩
/-! loop.example/g00793/spec.l01All -/
def aS_l01All : An := ⟨[(2, [.s 11], [.o (.o (.i .i64))])], [], []⟩
noncomputable def tS_l01All (x0 : ByteArray) (x1 : Int) (x2 : Int) (x3 : Int) (x4 : Int) : T :=
  .lp [.o (.o (.i .i64))] [.v (.int .i64 ((0 : Int)))] fun y1 =>
  .br (decide (y1.fst < (↑x0.size : Int))) (
    .rq ((0 : Int) ≤ y1.fst ∧ y1.fst < (↑x0.size : Int)) <|
    .br (decide (at0 x0 (Int.toNat y1.fst) < x1)) (
      .rq ((0 : Int) ≤ y1.fst ∧ y1.fst < (↑x0.size : Int)) <|
      .br (decide (at0 x0 (Int.toNat y1.fst) < x3)) (
        .ret [.bool (false)]) <|
      .rq ((0 : Int) ≤ y1.fst ∧ y1.fst < (↑x0.size : Int)) <|
      .br (decide (at0 x0 (Int.toNat y1.fst) > x4)) (
        .ret [.bool (false)]) <|
      .nx 0 [.v (.int .i64 (Go.IntKind.i64.wrap (y1.fst + (1 : Int))))]) <|
    .rq ((0 : Int) ≤ y1.fst ∧ y1.fst < (↑x0.size : Int)) <|
    .br (decide (at0 x0 (Int.toNat y1.fst) > x2)) (
      .rq ((0 : Int) ≤ y1.fst ∧ y1.fst < (↑x0.size : Int)) <|
      .br (decide (at0 x0 (Int.toNat y1.fst) < x3)) (
        .ret [.bool (false)]) <|
      .rq ((0 : Int) ≤ y1.fst ∧ y1.fst < (↑x0.size : Int)) <|
      .br (decide (at0 x0 (Int.toNat y1.fst) > x4)) (
        .ret [.bool (false)]) <|
      .nx 0 [.v (.int .i64 (Go.IntKind.i64.wrap (y1.fst + (1 : Int))))]) <|
    .nx 0 [.v (.int .i64 (Go.IntKind.i64.wrap (y1.fst + (1 : Int))))]) <|
  .ret [.bool (decide ((↑x0.size : Int) > (0 : Int)))]
theorem fS_l01All (x0 : ByteArray) (x1 : Int) (x2 : Int) (x3 : Int) (x4 : Int) : fits Tryz.prog aS_l01All 114 [.string (x0), .int .u8 (x1), .int .u8 (x2), .int .u8 (x3), .int .u8 (x4)] (tS_l01All x0 x1 x2 x3 x4) :=
  ⟨Tryz.f114, Tryz.f114.body.getD .skip, by kernel_rfl, by kernel_rfl, by kernel_rfl, by kernel_rfl, by kernel_rfl, by kernel_rfl⟩
/-! loop.example/g00793/spec.l08Find -/
def aS_l08Find : An := ⟨[(2, [.s 7, .c 2 0, .c 2 1, .c 2 2, .c 2 3], [.o (.o (.i .i64)), .o (.o (.s)), .o (.o (.s)), .o (.o (.i .i64)), .o (.o (.i .i64))])], [], []⟩
noncomputable def tS_l08Find (x0 : ByteArray) : T :=
  .call false 146 [] (.v (.o (.l))) fun y1 =>
  .lp [.o (.o (.i .i64)), .o (.o (.s)), .o (.o (.s)), .o (.o (.i .i64)), .o (.o (.i .i64))] [.v (.int .i64 ((0 : Int))), .v (.string ({ data := { toList := [] : Array UInt8 } : ByteArray })), .v (.string ({ data := { toList := [] : Array UInt8 } : ByteArray })), .v (.int .i64 ((0 : Int))), .v (.int .i64 ((0 : Int)))] fun y2 =>
  .br (decide (y2.fst < (↑y1.n : Int))) (
    .el (y1.a) (y1.n) (y2.fst) fun y3 =>
    .ld false (y3.add (Int.toNat y2.fst * (4 : Nat))) (.g [.s, .s, .i .i64, .i .i64]) fun y4 =>
    .br (ByteArray.toList y4.fst == x0.toList) (
      .ret [Sh1.val (.g [.s, .s, .i .i64, .i .i64]) (y4)]) <|
    .nx 0 [.v (.int .i64 (Go.IntKind.i64.wrap (y2.fst + (1 : Int)))), .v (.string (y2.2.fst)), .v (.string (y2.2.2.fst)), .v (.int .i64 (y2.2.2.2.fst)), .v (.int .i64 (y2.2.2.2.2.fst))]) <|
  .ret [Sh1.val (.g [.s, .s, .i .i64, .i .i64]) (({ data := { toList := [] : Array UInt8 } : ByteArray }), ({ data := { toList := [] : Array UInt8 } : ByteArray }), (((0 : Int)) : Int), (((0 : Int)) : Int), ())]
theorem fS_l08Find (x0 : ByteArray) : fits Tryz.prog aS_l08Find 115 [.string (x0)] (tS_l08Find x0) :=
  ⟨Tryz.f115, Tryz.f115.body.getD .skip, by kernel_rfl, by kernel_rfl, by kernel_rfl, by kernel_rfl, by kernel_rfl, by kernel_rfl⟩
/-! loop.example/g00793/spec.RatCmp -/
def aS_RatCmp : An := ⟨[], [], []⟩
noncomputable def tS_RatCmp (x0 : Bool × SlV × SlV × PUnit) (x1 : Bool × SlV × SlV × PUnit) : T :=
  .call false 47 [Sh1.val (.g [.b, .l, .l]) (x0)] (.v (.o (.b))) fun y1 =>
  .br (!y1) (
    .ret [.int .i64 ((0 : Int))]) <|
  .call false 47 [Sh1.val (.g [.b, .l, .l]) (x1)] (.v (.o (.b))) fun y2 =>
  .br (!y2) (
    .ret [.int .i64 ((0 : Int))]) <|
  .rg <|
  .call true 49 [Sc.val .l (x0.2.1), Sc.val .l (x1.2.2.1)] (.v (.o (.l))) fun y3 =>
  .call true 48 [.bool (x0.fst), Sc.val .l (y3)] (.v (.g [.b, .l])) fun y4 =>
  .call true 49 [Sc.val .l (x1.2.1), Sc.val .l (x0.2.2.1)] (.v (.o (.l))) fun y5 =>
  .call true 48 [.bool (x1.fst), Sc.val .l (y5)] (.v (.g [.b, .l])) fun y6 =>
  .call true 147 [Sh1.val (.g [.b, .l]) (y4), Sh1.val (.g [.b, .l]) (y6)] (.v (.o (.i .i64))) fun y7 =>
  .ret [.int .i64 (y7)]
theorem fS_RatCmp (x0 : Bool × SlV × SlV × PUnit) (x1 : Bool × SlV × SlV × PUnit) : fits Tryz.prog aS_RatCmp 116 [Sh1.val (.g [.b, .l, .l]) (x0), Sh1.val (.g [.b, .l, .l]) (x1)] (tS_RatCmp x0 x1) :=
  ⟨Tryz.f116, Tryz.f116.body.getD .skip, by kernel_rfl, by kernel_rfl, by kernel_rfl, by kernel_rfl, by kernel_rfl, by kernel_rfl⟩
/-! loop.example/g00793/spec.DecOk -/
def aS_DecOk : An := ⟨[], [], []⟩
noncomputable def tS_DecOk (x0 : Bool × SlV × Int × PUnit) : T :=
  .call false 79 [Sh1.val (.g [.b, .l]) ((x0.fst), x0.2.1, ())] (.v (.o (.b))) fun y1 =>
  .br (y1) (
    .br (decide ((↑x0.2.1.n : Int) ≤ (6 : Int))) (
      .call false 119 [.int .i64 (x0.2.2.fst), .int .i64 ((0 : Int)), .int .i64 ((30 : Int))] (.v (.o (.b))) fun y2 =>
      .ret [.bool (y2)]) <|
    .ret [.bool (false)]) <|
  .ret [.bool (false)]
theorem fS_DecOk (x0 : Bool × SlV × Int × PUnit) : fits Tryz.prog aS_DecOk 117 [Sh1.val (.g [.b, .l, .i .i64]) (x0)] (tS_DecOk x0) :=
  ⟨Tryz.f117, Tryz.f117.body.getD .skip, by kernel_rfl, by kernel_rfl, by kernel_rfl, by kernel_rfl, by kernel_rfl, by kernel_rfl⟩
/-! loop.example/g00793/spec.IntSign -/
def aS_IntSign : An := ⟨[], [], []⟩
noncomputable def tS_IntSign (x0 : Bool × SlV × PUnit) : T :=
  .call false 147 [Sh1.val (.g [.b, .l]) (x0), Sh1.val (.g [.b, .l]) ((false), (⟨(none), ((0 : Nat)), ((0 : Nat))⟩ : SlV), ())] (.v (.o (.i .i64))) fun y1 =>
  .ret [.int .i64 (y1)]
theorem fS_IntSign (x0 : Bool × SlV × PUnit) : fits Tryz.prog aS_IntSign 118 [Sh1.val (.g [.b, .l]) (x0)] (tS_IntSign x0) :=
  ⟨Tryz.f118, Tryz.f118.body.getD .skip, by kernel_rfl, by kernel_rfl, by kernel_rfl, by kernel_rfl, by kernel_rfl, by kernel_rfl⟩
/-! loop.example/g00793/spec.l01In -/
def aS_l01In : An := ⟨[], [], []⟩
noncomputable def tS_l01In (x0 : Int) (x1 : Int) (x2 : Int) : T :=
  .br (decide (x0 ≥ x1)) (
    .ret [.bool (decide (x0 ≤ x2))]) <|
  .ret [.bool (false)]
theorem fS_l01In (x0 : Int) (x1 : Int) (x2 : Int) : fits Tryz.prog aS_l01In 119 [.int .i64 (x0), .int .i64 (x1), .int .i64 (x2)] (tS_l01In x0 x1 x2) :=
  ⟨Tryz.f119, Tryz.f119.body.getD .skip, by kernel_rfl, by kernel_rfl, by kernel_rfl, by kernel_rfl, by kernel_rfl, by kernel_rfl⟩
/-! loop.example/g00793/spec.l03Small -/
def aS_l03Small : An := ⟨[(4, [.s 6, .s 7, .s 8], [.a 3, .o (.o (.i .i64)), .o (.o (.i .i64))])], [], []⟩
noncomputable def tS_l03Small (x0 : SlV) (x1 : Int) : T :=
  .rq ((0 : Int) ≤ (↑x0.n : Int) ∧ (↑x0.n : Int) ≤ (↑x0.n : Int) ∧ (↑(8 : Nat) : Int) * (↑x0.n : Int) ≤ (281474976710656 : Int) ∧ (↑x0.n : Int) ≤ (9223372036854775807 : Int)) <|
  .lp [.a 3, .o (.o (.i .i64)), .o (.o (.i .i64))] [.a 3 ((↑x0.n : Int).toNat) ((Go.madeCells { toList := [Go.Value.int Go.IntKind.i64 (0 : Int)] : Array Go.Value } ((↑x0.n : Int).toNat * (1 : Nat))).toList), .v (.int .i64 ((0 : Int))), .v (.int .i64 (Go.IntKind.i64.wrap ((↑x0.n : Int) - (1 : Int))))] fun y1 =>
  .br (decide (y1.2.2.fst ≥ (0 : Int))) (
    .el (x0.a) (x0.n) (y1.2.2.fst) fun y2 =>
    .ld false (y2.add (Int.toNat y1.2.2.fst * (1 : Nat))) (.o (.i .i64)) fun y3 =>
    .rq (x1 ≠ (0 : Int)) <|
    .rq ((0 : Int) ≤ y1.2.2.fst ∧ y1.2.2.fst < (↑y1.1.fst : Int)) <|
    .rq (Int.toNat y1.2.2.fst * (1 : Nat) + [Go.Value.int Go.IntKind.i64 (Go.IntKind.i64.wrap ((Go.IntKind.i64.wrap (Go.IntKind.i64.wrap (y1.2.fst * (1000000000 : Int)) + y3)).tdiv x1))].length ≤ y1.1.snd.length) <|
    .rq (x1 ≠ (0 : Int)) <|
    .nx 0 [.a 3 (y1.1.fst) (setl y1.1.snd (Int.toNat y1.2.2.fst * (1 : Nat)) [Go.Value.int Go.IntKind.i64 (Go.IntKind.i64.wrap ((Go.IntKind.i64.wrap (Go.IntKind.i64.wrap (y1.2.fst * (1000000000 : Int)) + y3)).tdiv x1))]), .v (.int .i64 ((Go.IntKind.i64.wrap (Go.IntKind.i64.wrap (y1.2.fst * (1000000000 : Int)) + y3)).tmod x1)), .v (.int .i64 (Go.IntKind.i64.wrap (y1.2.2.fst - (1 : Int))))]) <|
  .fz (y1.1.fst) (y1.1.snd) 3 fun b2 c2 =>
  .call false 85 [.slice (some { block := b2, off := (0 : Nat) : Go.Addr }) (y1.1.fst) (c2)] (.v (.o (.l))) fun y3 =>
  .ret [Sc.val .l (y3), .int .i64 (y1.2.fst)]
theorem fS_l03Small (x0 : SlV) (x1 : Int) : fits Tryz.prog aS_l03Small 120 [Sc.val .l (x0), .int .i64 (x1)] (tS_l03Small x0 x1) :=
  ⟨Tryz.f120, Tryz.f120.body.getD .skip, by kernel_rfl, by kernel_rfl, by kernel_rfl, by kernel_rfl, by kernel_rfl, by kernel_rfl⟩
/-! loop.example/g00793/spec.l03Digit -/
def aS_l03Digit : An := ⟨[(3, [.s 5, .s 6], [.o (.o (.i .i64)), .o (.o (.i .i64))])], [], []⟩
noncomputable def tS_l03Digit (x0 : SlV) (x1 : SlV) : T :=
  .lp [.o (.o (.i .i64)), .o (.o (.i .i64))] [.v (.int .i64 ((0 : Int))), .v (.int .i64 ((999999999 : Int)))] fun y1 =>
  .br (decide (y1.fst < y1.2.fst)) (
    .rq ((2 : Int) ≠ (0 : Int)) <|
    .call false 80 [.int .i64 (Go.IntKind.i64.wrap ((Go.IntKind.i64.wrap (Go.IntKind.i64.wrap (y1.fst + y1.2.fst) + (1 : Int))).tdiv (2 : Int)))] (.v (.o (.l))) fun y2 =>
    .call false 49 [Sc.val .l (x1), Sc.val .l (y2)] (.v (.o (.l))) fun y3 =>
    .call false 82 [Sc.val .l (y3), Sc.val .l (x0)] (.v (.o (.i .i64))) fun y4 =>
    .br (decide (y4 ≤ (0 : Int))) (
      .nx 0 [.v (.int .i64 (Go.IntKind.i64.wrap ((Go.IntKind.i64.wrap (Go.IntKind.i64.wrap (y1.fst + y1.2.fst) + (1 : Int))).tdiv (2 : Int)))), .v (.int .i64 (y1.2.fst))]) <|
    .nx 0 [.v (.int .i64 (y1.fst)), .v (.int .i64 (Go.IntKind.i64.wrap (Go.IntKind.i64.wrap ((Go.IntKind.i64.wrap (Go.IntKind.i64.wrap (y1.fst + y1.2.fst) + (1 : Int))).tdiv (2 : Int)) - (1 : Int))))]) <|
  .ret [.int .i64 (y1.fst)]
theorem fS_l03Digit (x0 : SlV) (x1 : SlV) : fits Tryz.prog aS_l03Digit 121 [Sc.val .l (x0), Sc.val .l (x1)] (tS_l03Digit x0 x1) :=
  ⟨Tryz.f121, Tryz.f121.body.getD .skip, by kernel_rfl, by kernel_rfl, by kernel_rfl, by kernel_rfl, by kernel_rfl, by kernel_rfl⟩
/-! loop.example/g00793/laws.toMoney -/
def aL_toMoney : An := ⟨[], [], []⟩
noncomputable def tL_toMoney (x0 : ByteArray × Bool × SlV × PUnit) : T :=
  .call false 123 [Sh1.val (.g [.b, .l]) (x0.2)] (.v (.g [.b, .l])) fun y1 =>
  .ret [Sh1.val (.g [.s, .b, .l]) ((x0.fst), (y1.fst), y1.2.1, ())]
theorem fL_toMoney (x0 : ByteArray × Bool × SlV × PUnit) : fits Tryz.prog aL_toMoney 122 [Sh1.val (.g [.s, .b, .l]) (x0)] (tL_toMoney x0) :=
  ⟨Tryz.f122, Tryz.f122.body.getD .skip, by kernel_rfl, by kernel_rfl, by kernel_rfl, by kernel_rfl, by kernel_rfl, by kernel_rfl⟩
/-! loop.example/g00793/laws.toSigned -/
def aL_toSigned : An := ⟨[], [], []⟩
noncomputable def tL_toSigned (x0 : Bool × SlV × PUnit) : T :=
  .call false 124 [Sc.val .l (x0.2.1)] (.v (.o (.l))) fun y1 =>
  .ret [Sh1.val (.g [.b, .l]) ((x0.fst), y1, ())]
theorem fL_toSigned (x0 : Bool × SlV × PUnit) : fits Tryz.prog aL_toSigned 123 [Sh1.val (.g [.b, .l]) (x0)] (tL_toSigned x0) :=
  ⟨Tryz.f123, Tryz.f123.body.getD .skip, by kernel_rfl, by kernel_rfl, by kernel_rfl, by kernel_rfl, by kernel_rfl, by kernel_rfl⟩
/-! loop.example/g00793/laws.toIntS -/
def aL_toIntS : An := ⟨[(3, [.s 3, .s 4], [.a 3, .o (.o (.i .i64))])], [], []⟩
noncomputable def tL_toIntS (x0 : SlV) : T :=
  .rq ((0 : Int) ≤ (↑x0.n : Int) ∧ (↑x0.n : Int) ≤ (↑x0.n : Int) ∧ (↑(8 : Nat) : Int) * (↑x0.n : Int) ≤ (281474976710656 : Int) ∧ (↑x0.n : Int) ≤ (9223372036854775807 : Int)) <|
  .lp [.a 3, .o (.o (.i .i64))] [.a 3 ((↑x0.n : Int).toNat) ((Go.madeCells { toList := [Go.Value.int Go.IntKind.i64 (0 : Int)] : Array Go.Value } ((↑x0.n : Int).toNat * (1 : Nat))).toList), .v (.int .i64 ((0 : Int)))] fun y1 =>
  .br (decide (y1.2.fst < (↑x0.n : Int))) (
    .el (x0.a) (x0.n) (y1.2.fst) fun y2 =>
    .ld false (y2.add (Int.toNat y1.2.fst * (1 : Nat))) (.o (.i .i64)) fun y3 =>
    .rq ((0 : Int) ≤ y1.2.fst ∧ y1.2.fst < (↑y1.1.fst : Int)) <|
    .rq (Int.toNat y1.2.fst * (1 : Nat) + [(Sh1.o (Sc.i Go.IntKind.i64)).val y3].length ≤ y1.1.snd.length) <|
    .nx 0 [.a 3 (y1.1.fst) (setl y1.1.snd (Int.toNat y1.2.fst * (1 : Nat)) [(Sh1.o (Sc.i Go.IntKind.i64)).val y3]), .v (.int .i64 (Go.IntKind.i64.wrap (y1.2.fst + (1 : Int))))]) <|
  .fz (y1.1.fst) (y1.1.snd) 3 fun b2 c2 =>
  .ret [.slice (some { block := b2, off := (0 : Nat) : Go.Addr }) (y1.1.fst) (c2)]
theorem fL_toIntS (x0 : SlV) : fits Tryz.prog aL_toIntS 124 [Sc.val .l (x0)] (tL_toIntS x0) :=
  ⟨Tryz.f124, Tryz.f124.body.getD .skip, by kernel_rfl, by kernel_rfl, by kernel_rfl, by kernel_rfl, by kernel_rfl, by kernel_rfl⟩
/-! loop.example/g00793/laws.toDec -/
def aL_toDec : An := ⟨[], [], []⟩
noncomputable def tL_toDec (x0 : Bool × SlV × Int × PUnit) : T :=
  .call false 123 [Sh1.val (.g [.b, .l]) ((x0.fst), x0.2.1, ())] (.v (.g [.b, .l])) fun y1 =>
  .ret [Sh1.val (.g [.b, .l, .i .i64]) ((y1.fst), y1.2.1, ((x0.2.2.fst) : Int), ())]
theorem fL_toDec (x0 : Bool × SlV × Int × PUnit) : fits Tryz.prog aL_toDec 125 [Sh1.val (.g [.b, .l, .i .i64]) (x0)] (tL_toDec x0) :=
  ⟨Tryz.f125, Tryz.f125.body.getD .skip, by kernel_rfl, by kernel_rfl, by kernel_rfl, by kernel_rfl, by kernel_rfl, by kernel_rfl⟩
/-! loop.example/g00793/impl.isLower -/
def aI_isLower : An := ⟨[], [], []⟩
noncomputable def tI_isLower (x0 : Int) : T :=
  .br (decide (x0 ≥ (97 : Int))) (
    .ret [.bool (decide (x0 ≤ (122 : Int)))]) <|
  .ret [.bool (false)]
theorem fI_isLower (x0 : Int) : fits Tryz.prog aI_isLower 126 [.int .u8 (x0)] (tI_isLower x0) :=
  ⟨Tryz.f126, Tryz.f126.body.getD .skip, by kernel_rfl, by kernel_rfl, by kernel_rfl, by kernel_rfl, by kernel_rfl, by kernel_rfl⟩
/-! loop.example/g00793/impl.isDigit -/
def aI_isDigit : An := ⟨[], [], []⟩
noncomputable def tI_isDigit (x0 : Int) : T :=
  .br (decide (x0 ≥ (48 : Int))) (
    .ret [.bool (decide (x0 ≤ (57 : Int)))]) <|
  .ret [.bool (false)]
theorem fI_isDigit (x0 : Int) : fits Tryz.prog aI_isDigit 127 [.int .u8 (x0)] (tI_isDigit x0) :=
  ⟨Tryz.f127, Tryz.f127.body.getD .skip, by kernel_rfl, by kernel_rfl, by kernel_rfl, by kernel_rfl, by kernel_rfl, by kernel_rfl⟩
/-! loop.example/g00793/impl.IntOk -/
def aI_IntOk : An := ⟨[], [], []⟩
noncomputable def tI_IntOk (x0 : Bool × SlV × PUnit) : T :=
  .call false 130 [Sc.val .l (x0.2.1)] (.v (.o (.b))) fun y1 =>
  .br (y1) (
    .br (!x0.fst) (
      .ret [.bool (true)]) <|
    .ret [.bool (decide ((↑x0.2.1.n : Int) > (0 : Int)))]) <|
  .ret [.bool (false)]
theorem fI_IntOk (x0 : Bool × SlV × PUnit) : fits Tryz.prog aI_IntOk 128 [Sh1.val (.g [.b, .l]) (x0)] (tI_IntOk x0) :=
  ⟨Tryz.f128, Tryz.f128.body.getD .skip, by kernel_rfl, by kernel_rfl, by kernel_rfl, by kernel_rfl, by kernel_rfl, by kernel_rfl⟩
/-! loop.example/g00793/impl.currencyOf -/
def aI_currencyOf : An := ⟨[(2, [.s 7, .c 2 0, .c 2 1, .c 2 2, .c 2 3], [.o (.o (.i .i64)), .o (.o (.s)), .o (.o (.s)), .o (.o (.i .i64)), .o (.o (.i .i64))])], [], []⟩
noncomputable def tI_currencyOf (x0 : ByteArray) : T :=
  .ld false ({ block := (0 : Nat), off := (0 : Nat) : Go.Addr }) (.g [.s, .s, .i .i64, .i .i64, .s, .s, .i .i64, .i .i64, .s, .s, .i .i64, .i .i64, .s, .s, .i .i64, .i .i64, .s, .s, .i .i64, .i .i64, .s, .s, .i .i64, .i .i64, .s, .s, .i .i64, .i .i64, .s, .s, .i .i64, .i .i64, .s, .s, .i .i64, .i .i64, .s, .s, .i .i64, .i .i64, .s, .s, .i .i64, .i .i64, .s, .s, .i .i64, .i .i64, .s, .s, .i .i64, .i .i64, .s, .s, .i .i64, .i .i64, .s, .s, .i .i64, .i .i64, .s, .s, .i .i64, .i .i64, .s, .s, .i .i64, .i .i64, .s, .s, .i .i64, .i .i64, .s, .s, .i .i64, .i .i64, .s, .s, .i .i64, .i .i64]) fun y1 =>
  .lp [.o (.o (.i .i64)), .o (.o (.s)), .o (.o (.s)), .o (.o (.i .i64)), .o (.o (.i .i64))] [.v (.int .i64 ((0 : Int))), .v (.string ({ data := { toList := [] : Array UInt8 } : ByteArray })), .v (.string ({ data := { toList := [] : Array UInt8 } : ByteArray })), .v (.int .i64 ((0 : Int))), .v (.int .i64 ((0 : Int)))] fun y2 =>
  .br (decide (y2.fst < (20 : Int))) (
    .rq ((0 : Int) ≤ y2.fst ∧ y2.fst < (↑(20 : Nat) : Int)) <|
    .xs [.string (y1.fst), .string (y1.2.fst), .int .i64 (y1.2.2.fst), .int .i64 (y1.2.2.2.fst), .string (y1.2.2.2.2.fst), .string (y1.2.2.2.2.2.fst), .int .i64 (y1.2.2.2.2.2.2.fst), .int .i64 (y1.2.2.2.2.2.2.2.fst), .string (y1.2.2.2.2.2.2.2.2.fst), .string (y1.2.2.2.2.2.2.2.2.2.fst), .int .i64 (y1.2.2.2.2.2.2.2.2.2.2.fst), .int .i64 (y1.2.2.2.2.2.2.2.2.2.2.2.fst), .string (y1.2.2.2.2.2.2.2.2.2.2.2.2.fst), .string (y1.2.2.2.2.2.2.2.2.2.2.2.2.2.fst), .int .i64 (y1.2.2.2.2.2.2.2.2.2.2.2.2.2.2.fst), .int .i64 (y1.2.2.2.2.2.2.2.2.2.2.2.2.2.2.2.fst), .string (y1.2.2.2.2.2.2.2.2.2.2.2.2.2.2.2.2.fst), .string (y1.2.2.2.2.2.2.2.2.2.2.2.2.2.2.2.2.2.fst), .int .i64 (y1.2.2.2.2.2.2.2.2.2.2.2.2.2.2.2.2.2.2.fst), .int .i64 (y1.2.2.2.2.2.2.2.2.2.2.2.2.2.2.2.2.2.2.2.fst), .string (y1.2.2.2.2.2.2.2.2.2.2.2.2.2.2.2.2.2.2.2.2.fst), .string (y1.2.2.2.2.2.2.2.2.2.2.2.2.2.2.2.2.2.2.2.2.2.fst), .int .i64 (y1.2.2.2.2.2.2.2.2.2.2.2.2.2.2.2.2.2.2.2.2.2.2.fst), .int .i64 (y1.2.2.2.2.2.2.2.2.2.2.2.2.2.2.2.2.2.2.2.2.2.2.2.fst), .string (y1.2.2.2.2.2.2.2.2.2.2.2.2.2.2.2.2.2.2.2.2.2.2.2.2.fst), .string (y1.2.2.2.2.2.2.2.2.2.2.2.2.2.2.2.2.2.2.2.2.2.2.2.2.2.fst), .int .i64 (y1.2.2.2.2.2.2.2.2.2.2.2.2.2.2.2.2.2.2.2.2.2.2.2.2.2.2.fst), .int .i64 (y1.2.2.2.2.2.2.2.2.2.2.2.2.2.2.2.2.2.2.2.2.2.2.2.2.2.2.2.fst), .string (y1.2.2.2.2.2.2.2.2.2.2.2.2.2.2.2.2.2.2.2.2.2.2.2.2.2.2.2.2.fst), .string (y1.2.2.2.2.2.2.2.2.2.2.2.2.2.2.2.2.2.2.2.2.2.2.2.2.2.2.2.2.2.fst), .int .i64 (y1.2.2.2.2.2.2.2.2.2.2.2.2.2.2.2.2.2.2.2.2.2.2.2.2.2.2.2.2.2.2.fst), .int .i64 (y1.2.2.2.2.2.2.2.2.2.2.2.2.2.2.2.2.2.2.2.2.2.2.2.2.2.2.2.2.2.2.2.fst), .string (y1.2.2.2.2.2.2.2.2.2.2.2.2.2.2.2.2.2.2.2.2.2.2.2.2.2.2.2.2.2.2.2.2.fst), .string (y1.2.2.2.2.2.2.2.2.2.2.2.2.2.2.2.2.2.2.2.2.2.2.2.2.2.2.2.2.2.2.2.2.2.fst), .int .i64 (y1.2.2.2.2.2.2.2.2.2.2.2.2.2.2.2.2.2.2.2.2.2.2.2.2.2.2.2.2.2.2.2.2.2.2.fst), .int .i64 (y1.2.2.2.2.2.2.2.2.2.2.2.2.2.2.2.2.2.2.2.2.2.2.2.2.2.2.2.2.2.2.2.2.2.2.2.fst), .string (y1.2.2.2.2.2.2.2.2.2.2.2.2.2.2.2.2.2.2.2.2.2.2.2.2.2.2.2.2.2.2.2.2.2.2.2.2.fst), .string (y1.2.2.2.2.2.2.2.2.2.2.2.2.2.2.2.2.2.2.2.2.2.2.2.2.2.2.2.2.2.2.2.2.2.2.2.2.2.fst), .int .i64 (y1.2.2.2.2.2.2.2.2.2.2.2.2.2.2.2.2.2.2.2.2.2.2.2.2.2.2.2.2.2.2.2.2.2.2.2.2.2.2.fst), .int .i64 (y1.2.2.2.2.2.2.2.2.2.2.2.2.2.2.2.2.2.2.2.2.2.2.2.2.2.2.2.2.2.2.2.2.2.2.2.2.2.2.2.fst), .string (y1.2.2.2.2.2.2.2.2.2.2.2.2.2.2.2.2.2.2.2.2.2.2.2.2.2.2.2.2.2.2.2.2.2.2.2.2.2.2.2.2.fst), .string (y1.2.2.2.2.2.2.2.2.2.2.2.2.2.2.2.2.2.2.2.2.2.2.2.2.2.2.2.2.2.2.2.2.2.2.2.2.2.2.2.2.2.fst), .int .i64 (y1.2.2.2.2.2.2.2.2.2.2.2.2.2.2.2.2.2.2.2.2.2.2.2.2.2.2.2.2.2.2.2.2.2.2.2.2.2.2.2.2.2.2.fst), .int .i64 (y1.2.2.2.2.2.2.2.2.2.2.2.2.2.2.2.2.2.2.2.2.2.2.2.2.2.2.2.2.2.2.2.2.2.2.2.2.2.2.2.2.2.2.2.fst), .string (y1.2.2.2.2.2.2.2.2.2.2.2.2.2.2.2.2.2.2.2.2.2.2.2.2.2.2.2.2.2.2.2.2.2.2.2.2.2.2.2.2.2.2.2.2.fst), .string (y1.2.2.2.2.2.2.2.2.2.2.2.2.2.2.2.2.2.2.2.2.2.2.2.2.2.2.2.2.2.2.2.2.2.2.2.2.2.2.2.2.2.2.2.2.2.fst), .int .i64 (y1.2.2.2.2.2.2.2.2.2.2.2.2.2.2.2.2.2.2.2.2.2.2.2.2.2.2.2.2.2.2.2.2.2.2.2.2.2.2.2.2.2.2.2.2.2.2.fst), .int .i64 (y1.2.2.2.2.2.2.2.2.2.2.2.2.2.2.2.2.2.2.2.2.2.2.2.2.2.2.2.2.2.2.2.2.2.2.2.2.2.2.2.2.2.2.2.2.2.2.2.fst), .string (y1.2.2.2.2.2.2.2.2.2.2.2.2.2.2.2.2.2.2.2.2.2.2.2.2.2.2.2.2.2.2.2.2.2.2.2.2.2.2.2.2.2.2.2.2.2.2.2.2.fst), .string (y1.2.2.2.2.2.2.2.2.2.2.2.2.2.2.2.2.2.2.2.2.2.2.2.2.2.2.2.2.2.2.2.2.2.2.2.2.2.2.2.2.2.2.2.2.2.2.2.2.2.fst), .int .i64 (y1.2.2.2.2.2.2.2.2.2.2.2.2.2.2.2.2.2.2.2.2.2.2.2.2.2.2.2.2.2.2.2.2.2.2.2.2.2.2.2.2.2.2.2.2.2.2.2.2.2.2.fst), .int .i64 (y1.2.2.2.2.2.2.2.2.2.2.2.2.2.2.2.2.2.2.2.2.2.2.2.2.2.2.2.2.2.2.2.2.2.2.2.2.2.2.2.2.2.2.2.2.2.2.2.2.2.2.2.fst), .string (y1.2.2.2.2.2.2.2.2.2.2.2.2.2.2.2.2.2.2.2.2.2.2.2.2.2.2.2.2.2.2.2.2.2.2.2.2.2.2.2.2.2.2.2.2.2.2.2.2.2.2.2.2.fst), .string (y1.2.2.2.2.2.2.2.2.2.2.2.2.2.2.2.2.2.2.2.2.2.2.2.2.2.2.2.2.2.2.2.2.2.2.2.2.2.2.2.2.2.2.2.2.2.2.2.2.2.2.2.2.2.fst), .int .i64 (y1.2.2.2.2.2.2.2.2.2.2.2.2.2.2.2.2.2.2.2.2.2.2.2.2.2.2.2.2.2.2.2.2.2.2.2.2.2.2.2.2.2.2.2.2.2.2.2.2.2.2.2.2.2.2.fst), .int .i64 (y1.2.2.2.2.2.2.2.2.2.2.2.2.2.2.2.2.2.2.2.2.2.2.2.2.2.2.2.2.2.2.2.2.2.2.2.2.2.2.2.2.2.2.2.2.2.2.2.2.2.2.2.2.2.2.2.fst), .string (y1.2.2.2.2.2.2.2.2.2.2.2.2.2.2.2.2.2.2.2.2.2.2.2.2.2.2.2.2.2.2.2.2.2.2.2.2.2.2.2.2.2.2.2.2.2.2.2.2.2.2.2.2.2.2.2.2.fst), .string (y1.2.2.2.2.2.2.2.2.2.2.2.2.2.2.2.2.2.2.2.2.2.2.2.2.2.2.2.2.2.2.2.2.2.2.2.2.2.2.2.2.2.2.2.2.2.2.2.2.2.2.2.2.2.2.2.2.2.fst), .int .i64 (y1.2.2.2.2.2.2.2.2.2.2.2.2.2.2.2.2.2.2.2.2.2.2.2.2.2.2.2.2.2.2.2.2.2.2.2.2.2.2.2.2.2.2.2.2.2.2.2.2.2.2.2.2.2.2.2.2.2.2.fst), .int .i64 (y1.2.2.2.2.2.2.2.2.2.2.2.2.2.2.2.2.2.2.2.2.2.2.2.2.2.2.2.2.2.2.2.2.2.2.2.2.2.2.2.2.2.2.2.2.2.2.2.2.2.2.2.2.2.2.2.2.2.2.2.fst), .string (y1.2.2.2.2.2.2.2.2.2.2.2.2.2.2.2.2.2.2.2.2.2.2.2.2.2.2.2.2.2.2.2.2.2.2.2.2.2.2.2.2.2.2.2.2.2.2.2.2.2.2.2.2.2.2.2.2.2.2.2.2.fst), .string (y1.2.2.2.2.2.2.2.2.2.2.2.2.2.2.2.2.2.2.2.2.2.2.2.2.2.2.2.2.2.2.2.2.2.2.2.2.2.2.2.2.2.2.2.2.2.2.2.2.2.2.2.2.2.2.2.2.2.2.2.2.2.fst), .int .i64 (y1.2.2.2.2.2.2.2.2.2.2.2.2.2.2.2.2.2.2.2.2.2.2.2.2.2.2.2.2.2.2.2.2.2.2.2.2.2.2.2.2.2.2.2.2.2.2.2.2.2.2.2.2.2.2.2.2.2.2.2.2.2.2.fst), .int .i64 (y1.2.2.2.2.2.2.2.2.2.2.2.2.2.2.2.2.2.2.2.2.2.2.2.2.2.2.2.2.2.2.2.2.2.2.2.2.2.2.2.2.2.2.2.2.2.2.2.2.2.2.2.2.2.2.2.2.2.2.2.2.2.2.2.fst), .string (y1.2.2.2.2.2.2.2.2.2.2.2.2.2.2.2.2.2.2.2.2.2.2.2.2.2.2.2.2.2.2.2.2.2.2.2.2.2.2.2.2.2.2.2.2.2.2.2.2.2.2.2.2.2.2.2.2.2.2.2.2.2.2.2.2.fst), .string (y1.2.2.2.2.2.2.2.2.2.2.2.2.2.2.2.2.2.2.2.2.2.2.2.2.2.2.2.2.2.2.2.2.2.2.2.2.2.2.2.2.2.2.2.2.2.2.2.2.2.2.2.2.2.2.2.2.2.2.2.2.2.2.2.2.2.fst), .int .i64 (y1.2.2.2.2.2.2.2.2.2.2.2.2.2.2.2.2.2.2.2.2.2.2.2.2.2.2.2.2.2.2.2.2.2.2.2.2.2.2.2.2.2.2.2.2.2.2.2.2.2.2.2.2.2.2.2.2.2.2.2.2.2.2.2.2.2.2.fst), .int .i64 (y1.2.2.2.2.2.2.2.2.2.2.2.2.2.2.2.2.2.2.2.2.2.2.2.2.2.2.2.2.2.2.2.2.2.2.2.2.2.2.2.2.2.2.2.2.2.2.2.2.2.2.2.2.2.2.2.2.2.2.2.2.2.2.2.2.2.2.2.fst), .string (y1.2.2.2.2.2.2.2.2.2.2.2.2.2.2.2.2.2.2.2.2.2.2.2.2.2.2.2.2.2.2.2.2.2.2.2.2.2.2.2.2.2.2.2.2.2.2.2.2.2.2.2.2.2.2.2.2.2.2.2.2.2.2.2.2.2.2.2.2.fst), .string (y1.2.2.2.2.2.2.2.2.2.2.2.2.2.2.2.2.2.2.2.2.2.2.2.2.2.2.2.2.2.2.2.2.2.2.2.2.2.2.2.2.2.2.2.2.2.2.2.2.2.2.2.2.2.2.2.2.2.2.2.2.2.2.2.2.2.2.2.2.2.fst), .int .i64 (y1.2.2.2.2.2.2.2.2.2.2.2.2.2.2.2.2.2.2.2.2.2.2.2.2.2.2.2.2.2.2.2.2.2.2.2.2.2.2.2.2.2.2.2.2.2.2.2.2.2.2.2.2.2.2.2.2.2.2.2.2.2.2.2.2.2.2.2.2.2.2.fst), .int .i64 (y1.2.2.2.2.2.2.2.2.2.2.2.2.2.2.2.2.2.2.2.2.2.2.2.2.2.2.2.2.2.2.2.2.2.2.2.2.2.2.2.2.2.2.2.2.2.2.2.2.2.2.2.2.2.2.2.2.2.2.2.2.2.2.2.2.2.2.2.2.2.2.2.fst), .string (y1.2.2.2.2.2.2.2.2.2.2.2.2.2.2.2.2.2.2.2.2.2.2.2.2.2.2.2.2.2.2.2.2.2.2.2.2.2.2.2.2.2.2.2.2.2.2.2.2.2.2.2.2.2.2.2.2.2.2.2.2.2.2.2.2.2.2.2.2.2.2.2.2.fst), .string (y1.2.2.2.2.2.2.2.2.2.2.2.2.2.2.2.2.2.2.2.2.2.2.2.2.2.2.2.2.2.2.2.2.2.2.2.2.2.2.2.2.2.2.2.2.2.2.2.2.2.2.2.2.2.2.2.2.2.2.2.2.2.2.2.2.2.2.2.2.2.2.2.2.2.fst), .int .i64 (y1.2.2.2.2.2.2.2.2.2.2.2.2.2.2.2.2.2.2.2.2.2.2.2.2.2.2.2.2.2.2.2.2.2.2.2.2.2.2.2.2.2.2.2.2.2.2.2.2.2.2.2.2.2.2.2.2.2.2.2.2.2.2.2.2.2.2.2.2.2.2.2.2.2.2.fst), .int .i64 (y1.2.2.2.2.2.2.2.2.2.2.2.2.2.2.2.2.2.2.2.2.2.2.2.2.2.2.2.2.2.2.2.2.2.2.2.2.2.2.2.2.2.2.2.2.2.2.2.2.2.2.2.2.2.2.2.2.2.2.2.2.2.2.2.2.2.2.2.2.2.2.2.2.2.2.2.fst), .string (y1.2.2.2.2.2.2.2.2.2.2.2.2.2.2.2.2.2.2.2.2.2.2.2.2.2.2.2.2.2.2.2.2.2.2.2.2.2.2.2.2.2.2.2.2.2.2.2.2.2.2.2.2.2.2.2.2.2.2.2.2.2.2.2.2.2.2.2.2.2.2.2.2.2.2.2.2.fst), .string (y1.2.2.2.2.2.2.2.2.2.2.2.2.2.2.2.2.2.2.2.2.2.2.2.2.2.2.2.2.2.2.2.2.2.2.2.2.2.2.2.2.2.2.2.2.2.2.2.2.2.2.2.2.2.2.2.2.2.2.2.2.2.2.2.2.2.2.2.2.2.2.2.2.2.2.2.2.2.fst), .int .i64 (y1.2.2.2.2.2.2.2.2.2.2.2.2.2.2.2.2.2.2.2.2.2.2.2.2.2.2.2.2.2.2.2.2.2.2.2.2.2.2.2.2.2.2.2.2.2.2.2.2.2.2.2.2.2.2.2.2.2.2.2.2.2.2.2.2.2.2.2.2.2.2.2.2.2.2.2.2.2.2.fst), .int .i64 (y1.2.2.2.2.2.2.2.2.2.2.2.2.2.2.2.2.2.2.2.2.2.2.2.2.2.2.2.2.2.2.2.2.2.2.2.2.2.2.2.2.2.2.2.2.2.2.2.2.2.2.2.2.2.2.2.2.2.2.2.2.2.2.2.2.2.2.2.2.2.2.2.2.2.2.2.2.2.2.2.fst)] (Int.toNat y2.fst * (4 : Nat)) (.g [.s, .s, .i .i64, .i .i64]) fun y3 =>
    .br (ByteArray.toList y3.fst == x0.toList) (
      .ret [Sh1.val (.g [.s, .s, .i .i64, .i .i64]) (y3), .bool (true)]) <|
    .nx 0 [.v (.int .i64 (Go.IntKind.i64.wrap (y2.fst + (1 : Int)))), .v (.string (y2.2.fst)), .v (.string (y2.2.2.fst)), .v (.int .i64 (y2.2.2.2.fst)), .v (.int .i64 (y2.2.2.2.2.fst))]) <|
  .ret [Sh1.val (.g [.s, .s, .i .i64, .i .i64]) (({ data := { toList := [] : Array UInt8 } : ByteArray }), ({ data := { toList := [] : Array UInt8 } : ByteArray }), (((0 : Int)) : Int), (((0 : Int)) : Int), ()), .bool (false)]
theorem fI_currencyOf (x0 : ByteArray) : fits Tryz.prog aI_currencyOf 129 [.string (x0)] (tI_currencyOf x0) :=
  ⟨Tryz.f129, Tryz.f129.body.getD .skip, by kernel_rfl, by kernel_rfl, by kernel_rfl, by kernel_rfl, by kernel_rfl, by kernel_rfl⟩
/-! loop.example/g00793/impl.NatOk -/
def aI_NatOk : An := ⟨[(4, [.s 24], [.o (.o (.i .i64))])], [], []⟩
noncomputable def tI_NatOk (x0 : SlV) : T :=
  .br (decide ((↑x0.n : Int) > (50 : Int))) (
    .ret [.bool (false)]) <|
  .br (decide ((↑x0.n : Int) > (0 : Int))) (
    .el (x0.a) (x0.n) (Go.IntKind.i64.wrap ((↑x0.n : Int) - (1 : Int))) fun y1 =>
    .ld false (y1.add ((Go.IntKind.i64.wrap ((↑x0.n : Int) - (1 : Int))).toNat * (1 : Nat))) (.o (.i .i64)) fun y2 =>
    .br (y2 == (0 : Int)) (
      .ret [.bool (false)]) <|
    .lp [.o (.o (.i .i64))] [.v (.int .i64 ((0 : Int)))] fun y3 =>
    .br (decide (y3.fst < (↑x0.n : Int))) (
      .el (x0.a) (x0.n) (y3.fst) fun y4 =>
      .ld false (y4.add (Int.toNat y3.fst * (1 : Nat))) (.o (.i .i64)) fun y5 =>
      .br (decide (y5 < (0 : Int))) (
        .ret [.bool (false)]) <|
      .br (decide (y5 ≥ (1000000000 : Int))) (
        .ret [.bool (false)]) <|
      .nx 0 [.v (.int .i64 (Go.IntKind.i64.wrap (y3.fst + (1 : Int))))]) <|
    .ret [.bool (true)]) <|
  .lp [.o (.o (.i .i64))] [.v (.int .i64 ((0 : Int)))] fun y1 =>
  .br (decide (y1.fst < (↑x0.n : Int))) (
    .el (x0.a) (x0.n) (y1.fst) fun y2 =>
    .ld false (y2.add (Int.toNat y1.fst * (1 : Nat))) (.o (.i .i64)) fun y3 =>
    .br (decide (y3 < (0 : Int))) (
      .ret [.bool (false)]) <|
    .br (decide (y3 ≥ (1000000000 : Int))) (
      .ret [.bool (false)]) <|
    .nx 0 [.v (.int .i64 (Go.IntKind.i64.wrap (y1.fst + (1 : Int))))]) <|
  .ret [.bool (true)]
theorem fI_NatOk (x0 : SlV) : fits Tryz.prog aI_NatOk 130 [Sc.val .l (x0)] (tI_NatOk x0) :=
  ⟨Tryz.f130, Tryz.f130.body.getD .skip, by kernel_rfl, by kernel_rfl, by kernel_rfl, by kernel_rfl, by kernel_rfl, by kernel_rfl⟩
/-! loop.example/g00793/impl.natGcd -/
def aI_natGcd : An := ⟨[(1, [.s 0, .s 1], [.o (.o (.l)), .o (.o (.l))])], [], []⟩
noncomputable def tI_natGcd (x0 : SlV) (x1 : SlV) : T :=
  .lp [.o (.o (.l)), .o (.o (.l))] [.v (Sc.val .l (x0)), .v (Sc.val .l (x1))] fun y1 =>
  .br (decide ((↑y1.2.1.n : Int) > (0 : Int))) (
    .call false 140 [Sc.val .l (y1.1), Sc.val .l (y1.2.1)] (.t [(.o (.l)), (.o (.l))]) fun y2 =>
    .nx 0 [.v (Sc.val .l (y1.2.1)), .v (Sc.val .l (y2.2.1))]) <|
  .call false 143 [Sc.val .l (y1.1)] (.v (.o (.l))) fun y2 =>
  .ret [Sc.val .l (y2)]
theorem fI_natGcd (x0 : SlV) (x1 : SlV) : fits Tryz.prog aI_natGcd 131 [Sc.val .l (x0), Sc.val .l (x1)] (tI_natGcd x0 x1) :=
  ⟨Tryz.f131, Tryz.f131.body.getD .skip, by kernel_rfl, by kernel_rfl, by kernel_rfl, by kernel_rfl, by kernel_rfl, by kernel_rfl⟩
/-! loop.example/g00793/impl.intSign -/
def aI_intSign : An := ⟨[], [], []⟩
noncomputable def tI_intSign (x0 : Bool × SlV × PUnit) : T :=
  .br ((↑x0.2.1.n : Int) == (0 : Int)) (
    .ret [.int .i64 ((0 : Int))]) <|
  .br (x0.fst) (
    .ret [.int .i64 ((-1 : Int))]) <|
  .ret [.int .i64 ((1 : Int))]
theorem fI_intSign (x0 : Bool × SlV × PUnit) : fits Tryz.prog aI_intSign 132 [Sh1.val (.g [.b, .l]) (x0)] (tI_intSign x0) :=
  ⟨Tryz.f132, Tryz.f132.body.getD .skip, by kernel_rfl, by kernel_rfl, by kernel_rfl, by kernel_rfl, by kernel_rfl, by kernel_rfl⟩
/-! loop.example/g00793/impl.DecOk -/
def aI_DecOk : An := ⟨[], [], []⟩
noncomputable def tI_DecOk (x0 : Bool × SlV × Int × PUnit) : T :=
  .call false 128 [Sh1.val (.g [.b, .l]) ((x0.fst), x0.2.1, ())] (.v (.o (.b))) fun y1 =>
  .br (y1) (
    .br (decide ((↑x0.2.1.n : Int) ≤ (6 : Int))) (
      .call false 148 [.int .i64 (x0.2.2.fst)] (.v (.o (.b))) fun y2 =>
      .ret [.bool (y2)]) <|
    .ret [.bool (false)]) <|
  .ret [.bool (false)]
theorem fI_DecOk (x0 : Bool × SlV × Int × PUnit) : fits Tryz.prog aI_DecOk 133 [Sh1.val (.g [.b, .l, .i .i64]) (x0)] (tI_DecOk x0) :=
  ⟨Tryz.f133, Tryz.f133.body.getD .skip, by kernel_rfl, by kernel_rfl, by kernel_rfl, by kernel_rfl, by kernel_rfl, by kernel_rfl⟩
/-! loop.example/g00793/impl.intsOk -/
def aI_intsOk : An := ⟨[], [], []⟩
noncomputable def tI_intsOk (x0 : Bool × SlV × PUnit) (x1 : Bool × SlV × PUnit) : T :=
  .call false 128 [Sh1.val (.g [.b, .l]) (x0)] (.v (.o (.b))) fun y1 =>
  .br (y1) (
    .call false 128 [Sh1.val (.g [.b, .l]) (x1)] (.v (.o (.b))) fun y2 =>
    .ret [.bool (y2)]) <|
  .ret [.bool (false)]
theorem fI_intsOk (x0 : Bool × SlV × PUnit) (x1 : Bool × SlV × PUnit) : fits Tryz.prog aI_intsOk 134 [Sh1.val (.g [.b, .l]) (x0), Sh1.val (.g [.b, .l]) (x1)] (tI_intsOk x0 x1) :=
  ⟨Tryz.f134, Tryz.f134.body.getD .skip, by kernel_rfl, by kernel_rfl, by kernel_rfl, by kernel_rfl, by kernel_rfl, by kernel_rfl⟩
/-! loop.example/g00793/impl.signed -/
def aI_signed : An := ⟨[], [], []⟩
noncomputable def tI_signed (x0 : Bool) (x1 : SlV) : T :=
  .br (x0) (
    .ret [Sh1.val (.g [.b, .l]) ((decide ((↑x1.n : Int) > (0 : Int))), x1, ())]) <|
  .ret [Sh1.val (.g [.b, .l]) ((false), x1, ())]
theorem fI_signed (x0 : Bool) (x1 : SlV) : fits Tryz.prog aI_signed 135 [.bool (x0), Sc.val .l (x1)] (tI_signed x0 x1) :=
  ⟨Tryz.f135, Tryz.f135.body.getD .skip, by kernel_rfl, by kernel_rfl, by kernel_rfl, by kernel_rfl, by kernel_rfl, by kernel_rfl⟩
/-! loop.example/g00793/impl.natOf -/
def aI_natOf : An := ⟨[(2, [.s 0, .s 3], [.o (.o (.i .u64)), .a 3])], [], []⟩
noncomputable def tI_natOf (x0 : Int) : T :=
  .lp [.o (.o (.i .u64)), .a 3] [.v (.int .u64 (x0)), .a 3 ((0 : Nat)) []] fun y1 =>
  .br (decide (y1.fst > (0 : Int))) (
    .rq ((1000000000 : Int) ≠ (0 : Int)) <|
    .rq ([Go.Value.int Go.IntKind.i64 (Go.IntKind.i64.wrap (Int.tmod y1.fst (1000000000 : Int)))].length = (1 : Nat) * (1 : Nat)) <|
    .rq (one [Go.Value.int Go.IntKind.i64 (Go.IntKind.i64.wrap (Int.tmod y1.fst (1000000000 : Int)))] = true ∧ (y1.2.1.fst + (1 : Nat)) * (8 : Nat) ≤ (140737488355328 : Nat) ∧ y1.2.1.fst + (1 : Nat) ≤ (9223372036854775807 : Nat)) <|
    .rq ((1000000000 : Int) ≠ (0 : Int)) <|
    .nx 0 [.v (.int .u64 (Go.IntKind.u64.wrap (Int.tdiv y1.fst (1000000000 : Int)))), .a 3 (y1.2.1.fst + (1 : Nat)) (y1.2.1.snd ++ [Go.Value.int Go.IntKind.i64 (Go.IntKind.i64.wrap (Int.tmod y1.fst (1000000000 : Int)))])]) <|
  .fz (y1.2.1.fst) (y1.2.1.snd) 3 fun b2 c2 =>
  .ret [.slice (some { block := b2, off := (0 : Nat) : Go.Addr }) (y1.2.1.fst) (c2)]
theorem fI_natOf (x0 : Int) : fits Tryz.prog aI_natOf 136 [.int .u64 (x0)] (tI_natOf x0) :=
  ⟨Tryz.f136, Tryz.f136.body.getD .skip, by kernel_rfl, by kernel_rfl, by kernel_rfl, by kernel_rfl, by kernel_rfl, by kernel_rfl⟩
/-! loop.example/g00793/impl.natAdd -/
def aI_natAdd : An := ⟨[(4, [.s 5, .s 6, .s 7], [.a 3, .o (.o (.i .i64)), .o (.o (.i .i64))])], [], []⟩
noncomputable def tI_natAdd (x0 : SlV) (x1 : SlV) : T :=
  .rq ((0 : Int) ≤ (0 : Int) ∧ (0 : Int) ≤ Go.IntKind.i64.wrap ((if (↑x1.n : Int) > (↑x0.n : Int) then (↑x1.n : Int) else (↑x0.n : Int)) + (1 : Int)) ∧ (↑(8 : Nat) : Int) * Go.IntKind.i64.wrap ((if (↑x1.n : Int) > (↑x0.n : Int) then (↑x1.n : Int) else (↑x0.n : Int)) + (1 : Int)) ≤ (281474976710656 : Int) ∧ Go.IntKind.i64.wrap ((if (↑x1.n : Int) > (↑x0.n : Int) then (↑x1.n : Int) else (↑x0.n : Int)) + (1 : Int)) ≤ (9223372036854775807 : Int)) <|
  .lp [.a 3, .o (.o (.i .i64)), .o (.o (.i .i64))] [.a 3 (Int.toNat (0 : Int)) [], .v (.int .i64 ((0 : Int))), .v (.int .i64 ((0 : Int)))] fun y1 =>
  .br (decide (y1.2.2.fst < if (↑x1.n : Int) > (↑x0.n : Int) then (↑x1.n : Int) else (↑x0.n : Int))) (
    .br (decide (y1.2.2.fst < (↑x0.n : Int))) (
      .el (x0.a) (x0.n) (y1.2.2.fst) fun y2 =>
      .ld false (y2.add (Int.toNat y1.2.2.fst * (1 : Nat))) (.o (.i .i64)) fun y3 =>
      .br (decide (y1.2.2.fst < (↑x1.n : Int))) (
        .el (x1.a) (x1.n) (y1.2.2.fst) fun y4 =>
        .ld false (y4.add (Int.toNat y1.2.2.fst * (1 : Nat))) (.o (.i .i64)) fun y5 =>
        .rq ((1000000000 : Int) ≠ (0 : Int)) <|
        .rq ([Go.Value.int Go.IntKind.i64 ((Go.IntKind.i64.wrap (Go.IntKind.i64.wrap (y1.2.fst + y3) + y5)).tmod (1000000000 : Int))].length = (1 : Nat) * (1 : Nat)) <|
        .rq (one [Go.Value.int Go.IntKind.i64 ((Go.IntKind.i64.wrap (Go.IntKind.i64.wrap (y1.2.fst + y3) + y5)).tmod (1000000000 : Int))] = true ∧ (y1.1.fst + (1 : Nat)) * (8 : Nat) ≤ (140737488355328 : Nat) ∧ y1.1.fst + (1 : Nat) ≤ (9223372036854775807 : Nat)) <|
        .rq ((1000000000 : Int) ≠ (0 : Int)) <|
        .nx 0 [.a 3 (y1.1.fst + (1 : Nat)) (y1.1.snd ++ [Go.Value.int Go.IntKind.i64 ((Go.IntKind.i64.wrap (Go.IntKind.i64.wrap (y1.2.fst + y3) + y5)).tmod (1000000000 : Int))]), .v (.int .i64 (Go.IntKind.i64.wrap ((Go.IntKind.i64.wrap (Go.IntKind.i64.wrap (y1.2.fst + y3) + y5)).tdiv (1000000000 : Int)))), .v (.int .i64 (Go.IntKind.i64.wrap (y1.2.2.fst + (1 : Int))))]) <|
      .rq ((1000000000 : Int) ≠ (0 : Int)) <|
      .rq ([Go.Value.int Go.IntKind.i64 ((Go.IntKind.i64.wrap (y1.2.fst + y3)).tmod (1000000000 : Int))].length = (1 : Nat) * (1 : Nat)) <|
      .rq (one [Go.Value.int Go.IntKind.i64 ((Go.IntKind.i64.wrap (y1.2.fst + y3)).tmod (1000000000 : Int))] = true ∧ (y1.1.fst + (1 : Nat)) * (8 : Nat) ≤ (140737488355328 : Nat) ∧ y1.1.fst + (1 : Nat) ≤ (9223372036854775807 : Nat)) <|
      .rq ((1000000000 : Int) ≠ (0 : Int)) <|
      .nx 0 [.a 3 (y1.1.fst + (1 : Nat)) (y1.1.snd ++ [Go.Value.int Go.IntKind.i64 ((Go.IntKind.i64.wrap (y1.2.fst + y3)).tmod (1000000000 : Int))]), .v (.int .i64 (Go.IntKind.i64.wrap ((Go.IntKind.i64.wrap (y1.2.fst + y3)).tdiv (1000000000 : Int)))), .v (.int .i64 (Go.IntKind.i64.wrap (y1.2.2.fst + (1 : Int))))]) <|
    .br (decide (y1.2.2.fst < (↑x1.n : Int))) (
      .el (x1.a) (x1.n) (y1.2.2.fst) fun y2 =>
      .ld false (y2.add (Int.toNat y1.2.2.fst * (1 : Nat))) (.o (.i .i64)) fun y3 =>
      .rq ((1000000000 : Int) ≠ (0 : Int)) <|
      .rq ([Go.Value.int Go.IntKind.i64 ((Go.IntKind.i64.wrap (y1.2.fst + y3)).tmod (1000000000 : Int))].length = (1 : Nat) * (1 : Nat)) <|
      .rq (one [Go.Value.int Go.IntKind.i64 ((Go.IntKind.i64.wrap (y1.2.fst + y3)).tmod (1000000000 : Int))] = true ∧ (y1.1.fst + (1 : Nat)) * (8 : Nat) ≤ (140737488355328 : Nat) ∧ y1.1.fst + (1 : Nat) ≤ (9223372036854775807 : Nat)) <|
      .rq ((1000000000 : Int) ≠ (0 : Int)) <|
      .nx 0 [.a 3 (y1.1.fst + (1 : Nat)) (y1.1.snd ++ [Go.Value.int Go.IntKind.i64 ((Go.IntKind.i64.wrap (y1.2.fst + y3)).tmod (1000000000 : Int))]), .v (.int .i64 (Go.IntKind.i64.wrap ((Go.IntKind.i64.wrap (y1.2.fst + y3)).tdiv (1000000000 : Int)))), .v (.int .i64 (Go.IntKind.i64.wrap (y1.2.2.fst + (1 : Int))))]) <|
    .rq ((1000000000 : Int) ≠ (0 : Int)) <|
    .rq ([Go.Value.int Go.IntKind.i64 (Int.tmod y1.2.fst (1000000000 : Int))].length = (1 : Nat) * (1 : Nat)) <|
    .rq (one [Go.Value.int Go.IntKind.i64 (Int.tmod y1.2.fst (1000000000 : Int))] = true ∧ (y1.1.fst + (1 : Nat)) * (8 : Nat) ≤ (140737488355328 : Nat) ∧ y1.1.fst + (1 : Nat) ≤ (9223372036854775807 : Nat)) <|
    .rq ((1000000000 : Int) ≠ (0 : Int)) <|
    .nx 0 [.a 3 (y1.1.fst + (1 : Nat)) (y1.1.snd ++ [Go.Value.int Go.IntKind.i64 (Int.tmod y1.2.fst (1000000000 : Int))]), .v (.int .i64 (Go.IntKind.i64.wrap (Int.tdiv y1.2.fst (1000000000 : Int)))), .v (.int .i64 (Go.IntKind.i64.wrap (y1.2.2.fst + (1 : Int))))]) <|
  .rq ([(Sh1.o (Sc.i Go.IntKind.i64)).val y1.2.fst].length = (1 : Nat) * (1 : Nat)) <|
  .rq (one [(Sh1.o (Sc.i Go.IntKind.i64)).val y1.2.fst] = true ∧ (y1.1.fst + (1 : Nat)) * (8 : Nat) ≤ (140737488355328 : Nat) ∧ y1.1.fst + (1 : Nat) ≤ (9223372036854775807 : Nat)) <|
  .fz (y1.1.fst + (1 : Nat)) (y1.1.snd ++ [(Sh1.o (Sc.i Go.IntKind.i64)).val y1.2.fst]) 3 fun b2 c2 =>
  .call false 141 [.slice (some { block := b2, off := (0 : Nat) : Go.Addr }) (y1.1.fst + (1 : Nat)) (c2)] (.v (.o (.l))) fun y3 =>
  .ret [Sc.val .l (y3)]
theorem fI_natAdd (x0 : SlV) (x1 : SlV) : fits Tryz.prog aI_natAdd 137 [Sc.val .l (x0), Sc.val .l (x1)] (tI_natAdd x0 x1) :=
  ⟨Tryz.f137, Tryz.f137.body.getD .skip, by kernel_rfl, by kernel_rfl, by kernel_rfl, by kernel_rfl, by kernel_rfl, by kernel_rfl⟩
/-! loop.example/g00793/impl.natCmp -/
def aI_natCmp : An := ⟨[(6, [.s 5], [.o (.o (.i .i64))])], [], []⟩
noncomputable def tI_natCmp (x0 : SlV) (x1 : SlV) : T :=
  .br ((↑x0.n : Int) != (↑x1.n : Int)) (
    .br (decide ((↑x0.n : Int) < (↑x1.n : Int))) (
      .ret [.int .i64 ((-1 : Int))]) <|
    .ret [.int .i64 ((1 : Int))]) <|
  .lp [.o (.o (.i .i64))] [.v (.int .i64 (Go.IntKind.i64.wrap ((↑x0.n : Int) - (1 : Int))))] fun y1 =>
  .br (decide (y1.fst ≥ (0 : Int))) (
    .rg <|
    .el (x0.a) (x0.n) (y1.fst) fun y2 =>
    .ld true (y2.add (Int.toNat y1.fst * (1 : Nat))) (.o (.i .i64)) fun y3 =>
    .el (x1.a) (x1.n) (y1.fst) fun y4 =>
    .ld true (y4.add (Int.toNat y1.fst * (1 : Nat))) (.o (.i .i64)) fun y5 =>
    .br (y3 != y5) (
      .rg <|
      .el (x0.a) (x0.n) (y1.fst) fun y6 =>
      .ld true (y6.add (Int.toNat y1.fst * (1 : Nat))) (.o (.i .i64)) fun y7 =>
      .el (x1.a) (x1.n) (y1.fst) fun y8 =>
      .ld true (y8.add (Int.toNat y1.fst * (1 : Nat))) (.o (.i .i64)) fun y9 =>
      .br (decide (y7 < y9)) (
        .ret [.int .i64 ((-1 : Int))]) <|
      .ret [.int .i64 ((1 : Int))]) <|
    .nx 0 [.v (.int .i64 (Go.IntKind.i64.wrap (y1.fst - (1 : Int))))]) <|
  .ret [.int .i64 ((0 : Int))]
theorem fI_natCmp (x0 : SlV) (x1 : SlV) : fits Tryz.prog aI_natCmp 138 [Sc.val .l (x0), Sc.val .l (x1)] (tI_natCmp x0 x1) :=
  ⟨Tryz.f138, Tryz.f138.body.getD .skip, by kernel_rfl, by kernel_rfl, by kernel_rfl, by kernel_rfl, by kernel_rfl, by kernel_rfl⟩
/-! loop.example/g00793/impl.natSub -/
def aI_natSub : An := ⟨[(4, [.s 5, .s 6, .s 14], [.a 3, .o (.o (.i .i64)), .o (.o (.i .i64))])], [], []⟩
noncomputable def tI_natSub (x0 : SlV) (x1 : SlV) : T :=
  .rq ((0 : Int) ≤ (↑x0.n : Int) ∧ (↑x0.n : Int) ≤ (↑x0.n : Int) ∧ (↑(8 : Nat) : Int) * (↑x0.n : Int) ≤ (281474976710656 : Int) ∧ (↑x0.n : Int) ≤ (9223372036854775807 : Int)) <|
  .lp [.a 3, .o (.o (.i .i64)), .o (.o (.i .i64))] [.a 3 ((↑x0.n : Int).toNat) ((Go.madeCells { toList := [Go.Value.int Go.IntKind.i64 (0 : Int)] : Array Go.Value } ((↑x0.n : Int).toNat * (1 : Nat))).toList), .v (.int .i64 ((0 : Int))), .v (.int .i64 ((0 : Int)))] fun y1 =>
  .br (decide (y1.2.2.fst < (↑x0.n : Int))) (
    .el (x0.a) (x0.n) (y1.2.2.fst) fun y2 =>
    .ld false (y2.add (Int.toNat y1.2.2.fst * (1 : Nat))) (.o (.i .i64)) fun y3 =>
    .br (decide (y1.2.2.fst < (↑x1.n : Int))) (
      .el (x1.a) (x1.n) (y1.2.2.fst) fun y4 =>
      .ld false (y4.add (Int.toNat y1.2.2.fst * (1 : Nat))) (.o (.i .i64)) fun y5 =>
      .br (decide (Go.IntKind.i64.wrap (Go.IntKind.i64.wrap (y3 - y1.2.fst) - y5) < (0 : Int))) (
        .rq ((0 : Int) ≤ y1.2.2.fst ∧ y1.2.2.fst < (↑y1.1.fst : Int)) <|
        .rq (Int.toNat y1.2.2.fst * (1 : Nat) + [Go.Value.int Go.IntKind.i64 (Go.IntKind.i64.wrap (Go.IntKind.i64.wrap (Go.IntKind.i64.wrap (y3 - y1.2.fst) - y5) + (1000000000 : Int)))].length ≤ y1.1.snd.length) <|
        .nx 0 [.a 3 (y1.1.fst) (setl y1.1.snd (Int.toNat y1.2.2.fst * (1 : Nat)) [Go.Value.int Go.IntKind.i64 (Go.IntKind.i64.wrap (Go.IntKind.i64.wrap (Go.IntKind.i64.wrap (y3 - y1.2.fst) - y5) + (1000000000 : Int)))]), .v (.int .i64 ((1 : Int))), .v (.int .i64 (Go.IntKind.i64.wrap (y1.2.2.fst + (1 : Int))))]) <|
      .rq ((0 : Int) ≤ y1.2.2.fst ∧ y1.2.2.fst < (↑y1.1.fst : Int)) <|
      .rq (Int.toNat y1.2.2.fst * (1 : Nat) + [Go.Value.int Go.IntKind.i64 (Go.IntKind.i64.wrap (Go.IntKind.i64.wrap (y3 - y1.2.fst) - y5))].length ≤ y1.1.snd.length) <|
      .nx 0 [.a 3 (y1.1.fst) (setl y1.1.snd (Int.toNat y1.2.2.fst * (1 : Nat)) [Go.Value.int Go.IntKind.i64 (Go.IntKind.i64.wrap (Go.IntKind.i64.wrap (y3 - y1.2.fst) - y5))]), .v (.int .i64 ((0 : Int))), .v (.int .i64 (Go.IntKind.i64.wrap (y1.2.2.fst + (1 : Int))))]) <|
    .br (decide (Go.IntKind.i64.wrap (y3 - y1.2.fst) < (0 : Int))) (
      .rq ((0 : Int) ≤ y1.2.2.fst ∧ y1.2.2.fst < (↑y1.1.fst : Int)) <|
      .rq (Int.toNat y1.2.2.fst * (1 : Nat) + [Go.Value.int Go.IntKind.i64 (Go.IntKind.i64.wrap (Go.IntKind.i64.wrap (y3 - y1.2.fst) + (1000000000 : Int)))].length ≤ y1.1.snd.length) <|
      .nx 0 [.a 3 (y1.1.fst) (setl y1.1.snd (Int.toNat y1.2.2.fst * (1 : Nat)) [Go.Value.int Go.IntKind.i64 (Go.IntKind.i64.wrap (Go.IntKind.i64.wrap (y3 - y1.2.fst) + (1000000000 : Int)))]), .v (.int .i64 ((1 : Int))), .v (.int .i64 (Go.IntKind.i64.wrap (y1.2.2.fst + (1 : Int))))]) <|
    .rq ((0 : Int) ≤ y1.2.2.fst ∧ y1.2.2.fst < (↑y1.1.fst : Int)) <|
    .rq (Int.toNat y1.2.2.fst * (1 : Nat) + [Go.Value.int Go.IntKind.i64 (Go.IntKind.i64.wrap (y3 - y1.2.fst))].length ≤ y1.1.snd.length) <|
    .nx 0 [.a 3 (y1.1.fst) (setl y1.1.snd (Int.toNat y1.2.2.fst * (1 : Nat)) [Go.Value.int Go.IntKind.i64 (Go.IntKind.i64.wrap (y3 - y1.2.fst))]), .v (.int .i64 ((0 : Int))), .v (.int .i64 (Go.IntKind.i64.wrap (y1.2.2.fst + (1 : Int))))]) <|
  .fz (y1.1.fst) (y1.1.snd) 3 fun b2 c2 =>
  .call false 141 [.slice (some { block := b2, off := (0 : Nat) : Go.Addr }) (y1.1.fst) (c2)] (.v (.o (.l))) fun y3 =>
  .ret [Sc.val .l (y3)]
theorem fI_natSub (x0 : SlV) (x1 : SlV) : fits Tryz.prog aI_natSub 139 [Sc.val .l (x0), Sc.val .l (x1)] (tI_natSub x0 x1) :=
  ⟨Tryz.f139, Tryz.f139.body.getD .skip, by kernel_rfl, by kernel_rfl, by kernel_rfl, by kernel_rfl, by kernel_rfl, by kernel_rfl⟩
/-! loop.example/g00793/impl.natDiv -/
def aI_natDiv : An := ⟨[(9, [.s 9], [.o (.o (.l))]), (14, [.s 12, .s 13], [.a 3, .o (.o (.i .i64))])], [], []⟩
noncomputable def tI_natDiv (x0 : SlV) (x1 : SlV) : T :=
  .call false 138 [Sc.val .l (x0), Sc.val .l (x1)] (.v (.o (.i .i64))) fun y1 =>
  .br (decide (y1 < (0 : Int))) (
    .call false 143 [Sc.val .l (x0)] (.v (.o (.l))) fun y2 =>
    .fz ((0 : Nat)) [] 3 fun b3 c3 =>
    .ret [.slice (some { block := b3, off := (0 : Nat) : Go.Addr }) ((0 : Nat)) (c3), Sc.val .l (y2)]) <|
  .br ((↑x1.n : Int) == (1 : Int)) (
    .el (x1.a) (x1.n) ((0 : Int)) fun y2 =>
    .ld false (y2.add (Int.toNat (0 : Int) * (1 : Nat))) (.o (.i .i64)) fun y3 =>
    .call false 149 [Sc.val .l (x0), .int .i64 (y3)] (.t [(.o (.l)), (.o (.i .i64))]) fun y4 =>
    .call false 150 [.int .i64 (y4.2.fst)] (.v (.o (.l))) fun y5 =>
    .ret [Sc.val .l (y4.1), Sc.val .l (y5)]) <|
  .el (x1.a) (x1.n) (Go.IntKind.i64.wrap ((↑x1.n : Int) - (1 : Int))) fun y2 =>
  .ld false (y2.add ((Go.IntKind.i64.wrap ((↑x1.n : Int) - (1 : Int))).toNat * (1 : Nat))) (.o (.i .i64)) fun y3 =>
  .rq (Go.IntKind.i64.wrap (y3 + (1 : Int)) ≠ (0 : Int)) <|
  .fz ((1 : Nat)) [.int .i64 (Go.IntKind.i64.wrap (Int.tdiv (1000000000 : Int) (Go.IntKind.i64.wrap (y3 + (1 : Int)))))] 3 fun b4 c4 =>
  .call false 105 [Sc.val .l (x0), .slice (some { block := b4, off := (0 : Nat) : Go.Addr }) ((1 : Nat)) (c4)] (.v (.o (.l))) fun y5 =>
  .fz ((1 : Nat)) [.int .i64 (Go.IntKind.i64.wrap (Int.tdiv (1000000000 : Int) (Go.IntKind.i64.wrap (y3 + (1 : Int)))))] 3 fun b6 c6 =>
  .call false 105 [Sc.val .l (x1), .slice (some { block := b6, off := (0 : Nat) : Go.Addr }) ((1 : Nat)) (c6)] (.v (.o (.l))) fun y7 =>
  .lp [.o (.o (.l))] [.v (Sc.val .l (y5))] fun y8 =>
  .br (decide ((↑y8.1.n : Int) ≤ (↑x0.n : Int))) (
    .rq ([Go.Value.int Go.IntKind.i64 (0 : Int)].length = (1 : Nat) * (1 : Nat)) <|
    .rq (one [Go.Value.int Go.IntKind.i64 (0 : Int)] = true) <|
    .ap ({ a := y8.1.a, n := y8.1.n, c := y8.1.c : SlV }) 1 8 [.int .i64 ((0 : Int))] ((1 : Nat)) 3 fun y9 =>
    .nx 0 [.v (Sc.val .l (y9))]) <|
  .rq ((0 : Int) ≤ Go.IntKind.i64.wrap ((↑y8.1.n : Int) - (↑y7.n : Int)) ∧ Go.IntKind.i64.wrap ((↑y8.1.n : Int) - (↑y7.n : Int)) ≤ Go.IntKind.i64.wrap ((↑y8.1.n : Int) - (↑y7.n : Int)) ∧ (↑(8 : Nat) : Int) * Go.IntKind.i64.wrap ((↑y8.1.n : Int) - (↑y7.n : Int)) ≤ (281474976710656 : Int) ∧ Go.IntKind.i64.wrap ((↑y8.1.n : Int) - (↑y7.n : Int)) ≤ (9223372036854775807 : Int)) <|
  .lp [.a 3, .o (.o (.i .i64))] [.a 3 ((Go.IntKind.i64.wrap ((↑y8.1.n : Int) - (↑y7.n : Int))).toNat) ((Go.madeCells { toList := [Go.Value.int Go.IntKind.i64 (0 : Int)] : Array Go.Value } ((Go.IntKind.i64.wrap ((↑y8.1.n : Int) - (↑y7.n : Int))).toNat * (1 : Nat))).toList), .v (.int .i64 (Go.IntKind.i64.wrap ((↑(Go.IntKind.i64.wrap ((↑y8.1.n : Int) - (↑y7.n : Int))).toNat : Int) - (1 : Int))))] fun y9 =>
  .br (decide (y9.2.fst ≥ (0 : Int))) (
    .rq ((0 : Int) ≤ y9.2.fst ∧ y9.2.fst ≤ Go.IntKind.i64.wrap (Go.IntKind.i64.wrap (y9.2.fst + (↑y7.n : Int)) + (1 : Int)) ∧ Go.IntKind.i64.wrap (Go.IntKind.i64.wrap (y9.2.fst + (↑y7.n : Int)) + (1 : Int)) ≤ (↑y8.1.c : Int) ∧ (↑y8.1.c : Int) ≤ (↑y8.1.c : Int)) <|
    .call false 151 [.slice (if (↑y8.1.c : Int).toNat = Int.toNat y9.2.fst then y8.1.a else Option.map (fun x => x.add (Int.toNat y9.snd.fst * Go.Proofs.Tryz.prog.types[(3 : Nat)].size)) y8.1.a) ((Go.IntKind.i64.wrap (Go.IntKind.i64.wrap (y9.2.fst + (↑y7.n : Int)) + (1 : Int))).toNat - Int.toNat y9.2.fst) ((↑y8.1.c : Int).toNat - Int.toNat y9.2.fst), Sc.val .l (y7)] (.v (.o (.i .i64))) fun y10 =>
    .rq ((0 : Int) ≤ y9.2.fst ∧ y9.2.fst < (↑y9.1.fst : Int)) <|
    .rq (Int.toNat y9.2.fst * (1 : Nat) + [(Sh1.o (Sc.i Go.IntKind.i64)).val y10].length ≤ y9.1.snd.length) <|
    .nx 1 [.a 3 (y9.1.fst) (setl y9.1.snd (Int.toNat y9.2.fst * (1 : Nat)) [(Sh1.o (Sc.i Go.IntKind.i64)).val y10]), .v (.int .i64 (Go.IntKind.i64.wrap (y9.2.fst - (1 : Int))))]) <|
  .call false 141 [Sc.val .l (y8.1)] (.v (.o (.l))) fun y10 =>
  .call false 149 [Sc.val .l (y10), .int .i64 (Go.IntKind.i64.wrap (Int.tdiv (1000000000 : Int) (Go.IntKind.i64.wrap (y3 + (1 : Int)))))] (.t [(.o (.l)), (.o (.i .i64))]) fun y11 =>
  .fz (y9.1.fst) (y9.1.snd) 3 fun b12 c12 =>
  .call false 141 [.slice (some { block := b12, off := (0 : Nat) : Go.Addr }) (y9.1.fst) (c12)] (.v (.o (.l))) fun y13 =>
  .ret [Sc.val .l (y13), Sc.val .l (y11.1)]
theorem fI_natDiv (x0 : SlV) (x1 : SlV) : fits Tryz.prog aI_natDiv 140 [Sc.val .l (x0), Sc.val .l (x1)] (tI_natDiv x0 x1) :=
  ⟨Tryz.f140, Tryz.f140.body.getD .skip, by kernel_rfl, by kernel_rfl, by kernel_rfl, by kernel_rfl, by kernel_rfl, by kernel_rfl⟩
/-! loop.example/g00793/impl.trim -/
def aI_trim : An := ⟨[(1, [.s 0], [.o (.o (.l))])], [], []⟩
noncomputable def tI_trim (x0 : SlV) : T :=
  .lp [.o (.o (.l))] [.v (Sc.val .l (x0))] fun y1 =>
  .br (decide ((↑y1.1.n : Int) > (0 : Int))) (
    .el (y1.1.a) (y1.1.n) (Go.IntKind.i64.wrap ((↑y1.1.n : Int) - (1 : Int))) fun y2 =>
    .ld false (y2.add ((Go.IntKind.i64.wrap ((↑y1.1.n : Int) - (1 : Int))).toNat * (1 : Nat))) (.o (.i .i64)) fun y3 =>
    .br (y3 == (0 : Int)) (
      .rq ((0 : Int) ≤ (0 : Int) ∧ (0 : Int) ≤ Go.IntKind.i64.wrap ((↑y1.1.n : Int) - (1 : Int)) ∧ Go.IntKind.i64.wrap ((↑y1.1.n : Int) - (1 : Int)) ≤ (↑y1.1.c : Int) ∧ (↑y1.1.c : Int) ≤ (↑y1.1.c : Int)) <|
      .nx 0 [.v (.slice (if (↑y1.1.c : Int).toNat = Int.toNat (0 : Int) then y1.1.a else Option.map (fun x => x.add (Int.toNat (0 : Int) * Go.Proofs.Tryz.prog.types[(3 : Nat)].size)) y1.1.a) ((Go.IntKind.i64.wrap ((↑y1.1.n : Int) - (1 : Int))).toNat - Int.toNat (0 : Int)) ((↑y1.1.c : Int).toNat - Int.toNat (0 : Int)))]) <|
    .ret [Sc.val .l (y1.1)]) <|
  .ret [Sc.val .l (y1.1)]
theorem fI_trim (x0 : SlV) : fits Tryz.prog aI_trim 141 [Sc.val .l (x0)] (tI_trim x0) :=
  ⟨Tryz.f141, Tryz.f141.body.getD .skip, by kernel_rfl, by kernel_rfl, by kernel_rfl, by kernel_rfl, by kernel_rfl, by kernel_rfl⟩
/-! loop.example/g00793/impl.intCopy -/
def aI_intCopy : An := ⟨[], [], []⟩
noncomputable def tI_intCopy (x0 : Bool × SlV × PUnit) : T :=
  .rg <|
  .call true 143 [Sc.val .l (x0.2.1)] (.v (.o (.l))) fun y1 =>
  .ret [Sh1.val (.g [.b, .l]) ((x0.fst), y1, ())]
theorem fI_intCopy (x0 : Bool × SlV × PUnit) : fits Tryz.prog aI_intCopy 142 [Sh1.val (.g [.b, .l]) (x0)] (tI_intCopy x0) :=
  ⟨Tryz.f142, Tryz.f142.body.getD .skip, by kernel_rfl, by kernel_rfl, by kernel_rfl, by kernel_rfl, by kernel_rfl, by kernel_rfl⟩
/-! loop.example/g00793/impl.natCopy -/
def aI_natCopy : An := ⟨[], [], []⟩
noncomputable def tI_natCopy (x0 : SlV) : T :=
  .rd ({ a := x0.a, n := x0.n, c := x0.c : SlV }) ((1 : Nat)) fun y1 =>
  .rq (one y1 = true ∧ ((0 : Nat) + x0.n) * (8 : Nat) ≤ (140737488355328 : Nat) ∧ (0 : Nat) + x0.n ≤ (9223372036854775807 : Nat)) <|
  .fz ((0 : Nat) + x0.n) ([] ++ y1) 3 fun b2 c2 =>
  .ret [.slice (some { block := b2, off := (0 : Nat) : Go.Addr }) ((0 : Nat) + x0.n) (c2)]
theorem fI_natCopy (x0 : SlV) : fits Tryz.prog aI_natCopy 143 [Sc.val .l (x0)] (tI_natCopy x0) :=
  ⟨Tryz.f143, Tryz.f143.body.getD .skip, by kernel_rfl, by kernel_rfl, by kernel_rfl, by kernel_rfl, by kernel_rfl, by kernel_rfl⟩
/-! loop.example/g00793/laws.eqMoney -/
def aL_eqMoney : An := ⟨[], [], []⟩
noncomputable def tL_eqMoney (x0 : ByteArray × Bool × SlV × PUnit) (x1 : ByteArray × Bool × SlV × PUnit) : T :=
  .br (!ByteArray.toList x0.fst == ByteArray.toList x1.fst) (
    .ret [.bool (false)]) <|
  .call false 26 [Sh1.val (.g [.b, .l]) (x0.2), Sh1.val (.g [.b, .l]) (x1.2)] (.v (.o (.b))) fun y1 =>
  .br (!y1) (
    .ret [.bool (false)]) <|
  .ret [.bool (true)]
theorem fL_eqMoney (x0 : ByteArray × Bool × SlV × PUnit) (x1 : ByteArray × Bool × SlV × PUnit) : fits Tryz.prog aL_eqMoney 144 [Sh1.val (.g [.s, .b, .l]) (x0), Sh1.val (.g [.s, .b, .l]) (x1)] (tL_eqMoney x0 x1) :=
  ⟨Tryz.f144, Tryz.f144.body.getD .skip, by kernel_rfl, by kernel_rfl, by kernel_rfl, by kernel_rfl, by kernel_rfl, by kernel_rfl⟩
/-! loop.example/g00793/laws.eqDec -/
def aL_eqDec : An := ⟨[], [], []⟩
noncomputable def tL_eqDec (x0 : Bool × SlV × Int × PUnit) (x1 : Bool × SlV × Int × PUnit) : T :=
  .call false 26 [Sh1.val (.g [.b, .l]) ((x0.fst), x0.2.1, ()), Sh1.val (.g [.b, .l]) ((x1.fst), x1.2.1, ())] (.v (.o (.b))) fun y1 =>
  .br (!y1) (
    .ret [.bool (false)]) <|
  .br (x0.2.2.fst != x1.2.2.fst) (
    .ret [.bool (false)]) <|
  .ret [.bool (true)]
theorem fL_eqDec (x0 : Bool × SlV × Int × PUnit) (x1 : Bool × SlV × Int × PUnit) : fits Tryz.prog aL_eqDec 145 [Sh1.val (.g [.b, .l, .i .i64]) (x0), Sh1.val (.g [.b, .l, .i .i64]) (x1)] (tL_eqDec x0 x1) :=
  ⟨Tryz.f145, Tryz.f145.body.getD .skip, by kernel_rfl, by kernel_rfl, by kernel_rfl, by kernel_rfl, by kernel_rfl, by kernel_rfl⟩
/-! loop.example/g00793/spec.l08Table -/
def aS_l08Table : An := ⟨[], [], []⟩
noncomputable def tS_l08Table  : T :=
  .fz ((20 : Nat)) [.string ({ data := { toList := [(65 : UInt8), (85 : UInt8), (68 : UInt8)] : Array UInt8 } : ByteArray }), .string ({ data := { toList := [(48 : UInt8), (51 : UInt8), (54 : UInt8)] : Array UInt8 } : ByteArray }), .int .i64 ((2 : Int)), .int .i64 ((5 : Int)), .string ({ data := { toList := [(66 : UInt8), (72 : UInt8), (68 : UInt8)] : Array UInt8 } : ByteArray }), .string ({ data := { toList := [(48 : UInt8), (52 : UInt8), (56 : UInt8)] : Array UInt8 } : ByteArray }), .int .i64 ((3 : Int)), .int .i64 ((5 : Int)), .string ({ data := { toList := [(67 : UInt8), (65 : UInt8), (68 : UInt8)] : Array UInt8 } : ByteArray }), .string ({ data := { toList := [(49 : UInt8), (50 : UInt8), (52 : UInt8)] : Array UInt8 } : ByteArray }), .int .i64 ((2 : Int)), .int .i64 ((5 : Int)), .string ({ data := { toList := [(67 : UInt8), (72 : UInt8), (70 : UInt8)] : Array UInt8 } : ByteArray }), .string ({ data := { toList := [(55 : UInt8), (53 : UInt8), (54 : UInt8)] : Array UInt8 } : ByteArray }), .int .i64 ((2 : Int)), .int .i64 ((5 : Int)), .string ({ data := { toList := [(67 : UInt8), (76 : UInt8), (70 : UInt8)] : Array UInt8 } : ByteArray }), .string ({ data := { toList := [(57 : UInt8), (57 : UInt8), (48 : UInt8)] : Array UInt8 } : ByteArray }), .int .i64 ((4 : Int)), .int .i64 ((1 : Int)), .string ({ data := { toList := [(67 : UInt8), (90 : UInt8), (75 : UInt8)] : Array UInt8 } : ByteArray }), .string ({ data := { toList := [(50 : UInt8), (48 : UInt8), (51 : UInt8)] : Array UInt8 } : ByteArray }), .int .i64 ((2 : Int)), .int .i64 ((100 : Int)), .string ({ data := { toList := [(68 : UInt8), (75 : UInt8), (75 : UInt8)] : Array UInt8 } : ByteArray }), .string ({ data := { toList := [(50 : UInt8), (48 : UInt8), (56 : UInt8)] : Array UInt8 } : ByteArray }), .int .i64 ((2 : Int)), .int .i64 ((50 : Int)), .string ({ data := { toList := [(69 : UInt8), (85 : UInt8), (82 : UInt8)] : Array UInt8 } : ByteArray }), .string ({ data := { toList := [(57 : UInt8), (55 : UInt8), (56 : UInt8)] : Array UInt8 } : ByteArray }), .int .i64 ((2 : Int)), .int .i64 ((1 : Int)), .string ({ data := { toList := [(71 : UInt8), (66 : UInt8), (80 : UInt8)] : Array UInt8 } : ByteArray }), .string ({ data := { toList := [(56 : UInt8), (50 : UInt8), (54 : UInt8)] : Array UInt8 } : ByteArray }), .int .i64 ((2 : Int)), .int .i64 ((1 : Int)), .string ({ data := { toList := [(72 : UInt8), (85 : UInt8), (70 : UInt8)] : Array UInt8 } : ByteArray }), .string ({ data := { toList := [(51 : UInt8), (52 : UInt8), (56 : UInt8)] : Array UInt8 } : ByteArray }), .int .i64 ((2 : Int)), .int .i64 ((500 : Int)), .string ({ data := { toList := [(73 : UInt8), (83 : UInt8), (75 : UInt8)] : Array UInt8 } : ByteArray }), .string ({ data := { toList := [(51 : UInt8), (53 : UInt8), (50 : UInt8)] : Array UInt8 } : ByteArray }), .int .i64 ((0 : Int)), .int .i64 ((1 : Int)), .string ({ data := { toList := [(74 : UInt8), (80 : UInt8), (89 : UInt8)] : Array UInt8 } : ByteArray }), .string ({ data := { toList := [(51 : UInt8), (57 : UInt8), (50 : UInt8)] : Array UInt8 } : ByteArray }), .int .i64 ((0 : Int)), .int .i64 ((1 : Int)), .string ({ data := { toList := [(75 : UInt8), (82 : UInt8), (87 : UInt8)] : Array UInt8 } : ByteArray }), .string ({ data := { toList := [(52 : UInt8), (49 : UInt8), (48 : UInt8)] : Array UInt8 } : ByteArray }), .int .i64 ((0 : Int)), .int .i64 ((10 : Int)), .string ({ data := { toList := [(75 : UInt8), (87 : UInt8), (68 : UInt8)] : Array UInt8 } : ByteArray }), .string ({ data := { toList := [(52 : UInt8), (49 : UInt8), (52 : UInt8)] : Array UInt8 } : ByteArray }), .int .i64 ((3 : Int)), .int .i64 ((5 : Int)), .string ({ data := { toList := [(78 : UInt8), (79 : UInt8), (75 : UInt8)] : Array UInt8 } : ByteArray }), .string ({ data := { toList := [(53 : UInt8), (55 : UInt8), (56 : UInt8)] : Array UInt8 } : ByteArray }), .int .i64 ((2 : Int)), .int .i64 ((100 : Int)), .string ({ data := { toList := [(78 : UInt8), (90 : UInt8), (68 : UInt8)] : Array UInt8 } : ByteArray }), .string ({ data := { toList := [(53 : UInt8), (53 : UInt8), (52 : UInt8)] : Array UInt8 } : ByteArray }), .int .i64 ((2 : Int)), .int .i64 ((10 : Int)), .string ({ data := { toList := [(80 : UInt8), (76 : UInt8), (78 : UInt8)] : Array UInt8 } : ByteArray }), .string ({ data := { toList := [(57 : UInt8), (56 : UInt8), (53 : UInt8)] : Array UInt8 } : ByteArray }), .int .i64 ((2 : Int)), .int .i64 ((1 : Int)), .string ({ data := { toList := [(83 : UInt8), (69 : UInt8), (75 : UInt8)] : Array UInt8 } : ByteArray }), .string ({ data := { toList := [(55 : UInt8), (53 : UInt8), (50 : UInt8)] : Array UInt8 } : ByteArray }), .int .i64 ((2 : Int)), .int .i64 ((100 : Int)), .string ({ data := { toList := [(84 : UInt8), (78 : UInt8), (68 : UInt8)] : Array UInt8 } : ByteArray }), .string ({ data := { toList := [(55 : UInt8), (56 : UInt8), (56 : UInt8)] : Array UInt8 } : ByteArray }), .int .i64 ((3 : Int)), .int .i64 ((10 : Int)), .string ({ data := { toList := [(85 : UInt8), (83 : UInt8), (68 : UInt8)] : Array UInt8 } : ByteArray }), .string ({ data := { toList := [(56 : UInt8), (52 : UInt8), (48 : UInt8)] : Array UInt8 } : ByteArray }), .int .i64 ((2 : Int)), .int .i64 ((1 : Int))] 153 fun b1 c1 =>
  .ret [.slice (some { block := b1, off := (0 : Nat) : Go.Addr }) ((20 : Nat)) (c1)]
theorem fS_l08Table  : fits Tryz.prog aS_l08Table 146 [] (tS_l08Table ) :=
  ⟨Tryz.f146, Tryz.f146.body.getD .skip, by kernel_rfl, by kernel_rfl, by kernel_rfl, by kernel_rfl, by kernel_rfl, by kernel_rfl⟩
end Go.Proofs.YtikhpnlglkipcaaGreatDoor
