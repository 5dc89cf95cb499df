/-
  What each function of the seat comes to, as a tree; each tree is checked against the code.
-/
import Derived.Test.YtpnjdpomoijaaaaGreatDoorEngD
import Derived.Test.YtpnjdpomoijaaaaGreatDoorChecked
import Derived.KernelRfl
namespace Go.Proofs.YtpnjdpomoijaaaaGreatDoor
open Sx
set_option maxRecDepth 100000
abbrev gL_FnExactScript : Nat := 3
abbrev gL_szLedger : Nat := 4
abbrev gS_Script : Nat := 5
abbrev gL_toLedger : Nat := 6
abbrev gI_Script : Nat := 7
abbrev gL_eqStringS : Nat := 8
abbrev gL_eqLedger : Nat := 9
abbrev gL_markLedger : Nat := 10
abbrev gL_markStringS : Nat := 11
abbrev gL_heldStringS : Nat := 12
abbrev gL_szBook : Nat := 13
abbrev gL_szRestS : Nat := 14
abbrev gL_szRates : Nat := 15
abbrev gS_LedgerOk : Nat := 16
abbrev gS_CmdText : Nat := 17
abbrev gS_IntSign : Nat := 18
abbrev gS_l21Less : Nat := 19
abbrev gL_toBook : Nat := 20
abbrev gL_toRestS : Nat := 21
abbrev gL_toRates : Nat := 22
abbrev gI_LedgerOk : Nat := 23
abbrev gI_CmdText : Nat := 24
abbrev gI_intSign : Nat := 25
abbrev gI_minus : Nat := 26
abbrev gL_eqBook : Nat := 27
abbrev gL_eqRestS : Nat := 28
abbrev gL_eqRates : Nat := 29
abbrev gL_markBook : Nat := 30
abbrev gL_markRestS : Nat := 31
abbrev gL_markRates : Nat := 32
abbrev gL_markText : Nat := 33
abbrev gL_szAcctS : Nat := 34
abbrev gL_szRest : Nat := 35
abbrev gL_szRateS : Nat := 36
abbrev gS_BookOk : Nat := 37
abbrev gS_RestsOk : Nat := 38
abbrev gS_RatesOk : Nat := 39
abbrev gS_CmdOk : Nat := 40
abbrev gS_l22Has : Nat := 41
abbrev gS_OpName : Nat := 42
abbrev gS_RateText : Nat := 43
abbrev gS_MoneyText : Nat := 44
abbrev gS_l22Deal : Nat := 45
abbrev gS_Percent : Nat := 46
abbrev gS_RmName : Nat := 47
abbrev gS_Join : Nat := 48
abbrev gS_IntCmp : Nat := 49
abbrev gS_IntNeg : Nat := 50
abbrev gL_toAcctS : Nat := 51
abbrev gL_toRest : Nat := 52
abbrev gL_toRateS : Nat := 53
abbrev gI_BookOk : Nat := 54
abbrev gI_RestsOk : Nat := 55
abbrev gI_RatesOk : Nat := 56
abbrev gI_CmdOk : Nat := 57
abbrev gI_OpName : Nat := 58
abbrev gI_fieldsOf : Nat := 59
abbrev gI_fieldText : Nat := 60
abbrev gI_Join : Nat := 61
abbrev gI_intNeg : Nat := 62
abbrev gL_eqAcctS : Nat := 63
abbrev gL_eqRest : Nat := 64
abbrev gL_eqRateS : Nat := 65
abbrev gL_markAcctS : Nat := 66
abbrev gL_markIntS : Nat := 67
abbrev gL_markRateS : Nat := 68
abbrev gL_szAcct : Nat := 69
abbrev gL_szRat : Nat := 70
abbrev gL_szRate : Nat := 71
abbrev gS_IsWord : Nat := 72
abbrev gS_MoneyOk : Nat := 73
abbrev gS_CurKnown : Nat := 74
abbrev gS_RatOk : Nat := 75
abbrev gS_RatSign : Nat := 76
abbrev gS_RateOk : Nat := 77
abbrev gS_l10At : Nat := 78
abbrev gS_l22Op : Nat := 79
abbrev gS_IsCode : Nat := 80
abbrev gS_l21Money : Nat := 81
abbrev gS_l06Mode : Nat := 82
abbrev gS_l22Weights : Nat := 83
abbrev gS_TaxRateOk : Nat := 84
abbrev gS_DecText : Nat := 85
abbrev gS_DecLow : Nat := 86
abbrev gS_l22Zero : Nat := 87
abbrev gS_l01In : Nat := 88
abbrev gS_CurPlaces : Nat := 89
abbrev gS_IntText : Nat := 90
abbrev gS_DecMul : Nat := 91
abbrev gS_IntOf : Nat := 92
abbrev gS_IntOk : Nat := 93
abbrev gS_l02Cmp : Nat := 94
abbrev gS_l04Make : Nat := 95
abbrev gL_toAcct : Nat := 96
abbrev gL_toRat : Nat := 97
abbrev gL_toRate : Nat := 98
abbrev gI_IsWord : Nat := 99
abbrev gI_MoneyOk : Nat := 100
abbrev gI_CurKnown : Nat := 101
abbrev gI_RatOk : Nat := 102
abbrev gI_RatSign : Nat := 103
abbrev gI_RateOk : Nat := 104
abbrev gI_fieldZero : Nat := 105
abbrev gX_Contains_int : Nat := 106
abbrev gI_fieldOk : Nat := 107
abbrev gI_nameAt : Nat := 108
abbrev gI_MoneyText : Nat := 109
abbrev gI_dealText : Nat := 110
abbrev gI_Percent : Nat := 111
abbrev gI_RmName : Nat := 112
abbrev gI_RateText : Nat := 113
abbrev gI_signed : Nat := 115
abbrev gI_natCopy : Nat := 116
abbrev gL_eqAcct : Nat := 117
abbrev gL_eqRat : Nat := 118
abbrev gL_eqRate : Nat := 119
abbrev gL_szMoney : Nat := 120
abbrev gL_szSigned : Nat := 121
abbrev gL_szIntS : Nat := 122
abbrev gL_szDec : Nat := 123
abbrev gS_l01All : Nat := 124
abbrev gS_l08Find : Nat := 125
abbrev gS_NatOk : Nat := 126
abbrev gS_NatGcd : Nat := 127
abbrev gS_RatCmp : Nat := 128
abbrev gS_RatZero : Nat := 129
abbrev gS_DecOk : Nat := 130
abbrev gS_l21Names : Nat := 131
abbrev gS_DecCmp : Nat := 132
abbrev gS_Pad : Nat := 133
abbrev gS_NatText : Nat := 134
abbrev gS_DecAt : Nat := 135
abbrev gS_l07Dec : Nat := 136
abbrev gS_IntMul : Nat := 137
abbrev gS_NatOf : Nat := 138
abbrev gS_l02Cap : Nat := 139
abbrev gL_toMoney : Nat := 140
abbrev gL_toSigned : Nat := 141
abbrev gL_toIntS : Nat := 142
abbrev gL_toDec : Nat := 143
abbrev gI_isLower : Nat := 144
abbrev gI_isDigit : Nat := 145
abbrev gI_IntOk : Nat := 146
abbrev gI_currencyOf : Nat := 147
abbrev gI_NatOk : Nat := 148
abbrev gI_natGcd : Nat := 149
abbrev gI_DecOk : Nat := 150
abbrev gI_MoneySame : Nat := 151
abbrev gI_decIsZero : Nat := 152
abbrev gX_Index_int : Nat := 153
abbrev gI_IsCode : Nat := 154
abbrev gI_payable : Nat := 155
abbrev gI_dealOk : Nat := 156
abbrev gI_TaxRateOk : Nat := 157
abbrev gI_decSame : Nat := 158
abbrev gI_DecLow : Nat := 159
abbrev gI_isMode : Nat := 160
abbrev gI_DecText : Nat := 161
abbrev gI_CurPlaces : Nat := 162
abbrev gI_IntText : Nat := 163
abbrev gI_DecMul : Nat := 164
abbrev gI_IntOf : Nat := 165
abbrev gI_roundModes : Nat := 166
abbrev gL_eqMoney : Nat := 170
abbrev gL_eqSigned : Nat := 171
abbrev gL_eqIntS : Nat := 172
abbrev gL_eqDec : Nat := 173
abbrev gS_l08Table : Nat := 174
abbrev gS_l03Div : Nat := 175
abbrev gS_l02Mul : Nat := 176
abbrev gS_l07Both : Nat := 177
abbrev gS_l07Ten : Nat := 178
abbrev gS_NatCut : Nat := 179
abbrev gS_l02Trim : Nat := 180
abbrev gI_natDiv : Nat := 181
abbrev gI_isScale : Nat := 182
abbrev gI_intSame : Nat := 183
abbrev gI_areNames : Nat := 184
abbrev gX_ContainsFunc_int : Nat := 185
abbrev gI_dealOk_1 : Nat := 186
abbrev gI_DecCmp : Nat := 187
abbrev gI_DecAt : Nat := 188
abbrev gI_Pad : Nat := 189
abbrev gI_natText : Nat := 190
abbrev gI_decOf : Nat := 192
abbrev gI_intMul : Nat := 193
abbrev gI_natOf : Nat := 194
abbrev gI_roundModes_1 : Nat := 195
abbrev gI_roundModes_2 : Nat := 196
abbrev gI_roundModes_3 : Nat := 197
abbrev gI_roundModes_4 : Nat := 198
abbrev gI_roundModes_5 : Nat := 199
abbrev gI_roundModes_6 : Nat := 200
abbrev gI_roundModes_7 : Nat := 201
abbrev gS_l03Small : Nat := 204
abbrev gS_l03Digit : Nat := 205
abbrev gS_l02Sub : Nat := 206
abbrev gS_NatTen : Nat := 207
abbrev gS_NatDiv : Nat := 208
abbrev gI_natCmp : Nat := 209
abbrev gI_natSmall : Nat := 210
abbrev gI_NatOf : Nat := 211
abbrev gI_natMul : Nat := 212
abbrev gI_divStep : Nat := 213
abbrev gI_trim : Nat := 214
abbrev gI_sameInts : Nat := 215
abbrev gX_IndexFunc_int : Nat := 216
abbrev gI_scaled : Nat := 217
abbrev gI_intCmp : Nat := 218
abbrev gI_natTen : Nat := 219
abbrev gI_subTimes : Nat := 224
abbrev gI_addBack : Nat := 225
abbrev gI_scaled_1 : Nat := 226
abbrev gI_intAdd : Nat := 227
abbrev gI_natAdd : Nat := 232
abbrev gI_natSub : Nat := 233
/-! loop.example/g00793/laws.FnExactScript -/
def aL_FnExactScript : An := ⟨[], [], []⟩
noncomputable def tL_FnExactScript (x0 : SlV × SlV × ByteArray × SlV × PUnit) : T :=
  .call false 4 [Sh1.val (.g [.l, .l, .s, .l]) (x0), .int .i64 ((1048576 : Int))] (.v (.o (.i .i64))) fun y1 =>
  .br (decide (y1 < (0 : Int))) (
    .ret [.bool (true)]) <|
  .call false 6 [Sh1.val (.g [.l, .l, .s, .l]) (x0)] (.v (.g [.l, .l, .s, .l])) fun y2 =>
  .call false 5 [Sh1.val (.g [.l, .l, .s, .l]) (y2)] (.v (.o (.l))) fun y3 =>
  .call false 6 [Sh1.val (.g [.l, .l, .s, .l]) (x0)] (.v (.g [.l, .l, .s, .l])) fun y4 =>
  .call false 7 [Sh1.val (.g [.l, .l, .s, .l]) (y4)] (.v (.o (.l))) fun y5 =>
  .call false 8 [Sc.val .l (y5), Sc.val .l (y3)] (.v (.o (.b))) fun y6 =>
  .br (!y6) (
    .ret [.bool (false)]) <|
  .rg <|
  .call true 6 [Sh1.val (.g [.l, .l, .s, .l]) (x0)] (.v (.g [.l, .l, .s, .l])) fun y7 =>
  .call true 9 [Sh1.val (.g [.l, .l, .s, .l]) (y4), Sh1.val (.g [.l, .l, .s, .l]) (y7)] (.v (.o (.b))) fun y8 =>
  .br (!y8) (
    .ret [.bool (false)]) <|
  .call false 10 [Sh1.val (.g [.l, .l, .s, .l]) (y4), .int .i64 ((1 : Int))] (.v (.o (.i .i64))) fun y9 =>
  .br (decide (y9 < (0 : Int))) (
    .ret [.bool (false)]) <|
  .call false 8 [Sc.val .l (y5), Sc.val .l (y3)] (.v (.o (.b))) fun y10 =>
  .br (!y10) (
    .ret [.bool (false)]) <|
  .call false 11 [Sc.val .l (y5), .int .i64 ((1 : Int))] (.v (.o (.i .i64))) fun y11 =>
  .call false 12 [Sc.val .l (y5), .int .i64 ((1 : Int))] (.v (.o (.i .i64))) fun y12 =>
  .br (decide (y12 < (0 : Int))) (
    .ret [.bool (false)]) <|
  .br (y12 != y11) (
    .ret [.bool (false)]) <|
  .call false 6 [Sh1.val (.g [.l, .l, .s, .l]) (x0)] (.v (.g [.l, .l, .s, .l])) fun y13 =>
  .call false 7 [Sh1.val (.g [.l, .l, .s, .l]) (y13)] (.v (.o (.l))) fun y14 =>
  .call false 8 [Sc.val .l (y14), Sc.val .l (y3)] (.v (.o (.b))) fun y15 =>
  .br (!y15) (
    .ret [.bool (false)]) <|
  .call false 12 [Sc.val .l (y5), .int .i64 ((1 : Int))] (.v (.o (.i .i64))) fun y16 =>
  .br (decide (y16 < (0 : Int))) (
    .ret [.bool (false)]) <|
  .br (y16 != y11) (
    .ret [.bool (false)]) <|
  .ret [.bool (true)]
theorem fL_FnExactScript (x0 : SlV × SlV × ByteArray × SlV × PUnit) : fits Tryz.prog aL_FnExactScript 3 [Sh1.val (.g [.l, .l, .s, .l]) (x0)] (tL_FnExactScript x0) :=
  ⟨Tryz.f3, Tryz.f3.body.getD .skip, by kernel_rfl, by kernel_rfl, by kernel_rfl, by kernel_rfl, by kernel_rfl, by kernel_rfl⟩
/-! loop.example/g00793/laws.szLedger -/
def aL_szLedger : An := ⟨[], [], []⟩
noncomputable def tL_szLedger (x0 : SlV × SlV × ByteArray × SlV × PUnit) (x1 : Int) : T :=
  .call false 13 [Sh1.val (.g [.l]) (x0.1, ()), .int .i64 (x1)] (.v (.o (.i .i64))) fun y1 =>
  .br (decide (y1 < (0 : Int))) (
    .ret [.int .i64 ((-1 : Int))]) <|
  .call false 14 [Sc.val .l (x0.2.1), .int .i64 (y1)] (.v (.o (.i .i64))) fun y2 =>
  .br (decide (y2 < (0 : Int))) (
    .ret [.int .i64 ((-1 : Int))]) <|
  .call false 15 [Sh1.val (.g [.s, .l]) (x0.2.2), .int .i64 (y2)] (.v (.o (.i .i64))) fun y3 =>
  .br (decide (y3 < (0 : Int))) (
    .ret [.int .i64 ((-1 : Int))]) <|
  .ret [.int .i64 (y3)]
theorem fL_szLedger (x0 : SlV × SlV × ByteArray × SlV × PUnit) (x1 : Int) : fits Tryz.prog aL_szLedger 4 [Sh1.val (.g [.l, .l, .s, .l]) (x0), .int .i64 (x1)] (tL_szLedger x0 x1) :=
  ⟨Tryz.f4, Tryz.f4.body.getD .skip, by kernel_rfl, by kernel_rfl, by kernel_rfl, by kernel_rfl, by kernel_rfl, by kernel_rfl⟩
/-! loop.example/g00793/spec.Script -/
def aS_Script : An := ⟨[(5, [.s 3, .s 17], [.a 9, .o (.o (.i .i64))]), (10, [.s 3, .s 32], [.a 9, .o (.o (.i .i64))])], [], []⟩
noncomputable def tS_Script (x0 : SlV × SlV × ByteArray × SlV × PUnit) : T :=
  .call false 16 [Sh1.val (.g [.l, .l, .s, .l]) (x0)] (.v (.o (.b))) fun y1 =>
  .br (!y1) (
    .fz ((0 : Nat)) [] 9 fun b2 c2 =>
    .ret [.slice (some { block := b2, off := (0 : Nat) : Go.Addr }) ((0 : Nat)) (c2)]) <|
  .lp [.a 9, .o (.o (.i .i64))] [.a 9 ((0 : Nat)) [], .v (.int .i64 ((0 : Int)))] fun y2 =>
  .br (decide (y2.2.fst < (↑x0.2.2.2.1.n : Int))) (
    .el (x0.2.2.2.1.a) (x0.2.2.2.1.n) (y2.2.fst) fun y3 =>
    .ld false (y3.add (Int.toNat y2.2.fst * (5 : Nat))) (.g [.s, .s, .b, .l, .i .i64]) fun y4 =>
    .call false 17 [Sh1.val (.g [.i .i64, .s, .s, .s, .s, .s, .b, .l, .i .i64, .l, .l, .b, .l, .i .i64, .s, .s, .b, .l, .i .i64]) ((((9 : Int)) : Int), ({ data := { toList := [] : Array UInt8 } : ByteArray }), ({ data := { toList := [] : Array UInt8 } : ByteArray }), ({ data := { toList := [] : Array UInt8 } : ByteArray }), ({ data := { toList := [] : Array UInt8 } : ByteArray }), ({ data := { toList := [] : Array UInt8 } : ByteArray }), (false), (⟨(none), ((0 : Nat)), ((0 : Nat))⟩ : SlV), (((0 : Int)) : Int), (⟨(none), ((0 : Nat)), ((0 : Nat))⟩ : SlV), (⟨(none), ((0 : Nat)), ((0 : Nat))⟩ : SlV), (false), (⟨(none), ((0 : Nat)), ((0 : Nat))⟩ : SlV), (((0 : Int)) : Int), (y4.fst), (y4.2.fst), (y4.2.2.fst), y4.2.2.2.1, ((y4.2.2.2.2.fst) : Int), ())] (.v (.o (.s))) fun y5 =>
    .rq ([(Sh1.o Sc.s).val y5].length = (1 : Nat) * (1 : Nat)) <|
    .rq (one [(Sh1.o Sc.s).val y5] = true ∧ (y2.1.fst + (1 : Nat)) * (16 : Nat) ≤ (140737488355328 : Nat) ∧ y2.1.fst + (1 : Nat) ≤ (9223372036854775807 : Nat)) <|
    .nx 0 [.a 9 (y2.1.fst + (1 : Nat)) (y2.1.snd ++ [(Sh1.o Sc.s).val y5]), .v (.int .i64 (Go.IntKind.i64.wrap (y2.2.fst + (1 : Int))))]) <|
  .lp [.a 9, .o (.o (.i .i64))] [.a 9 (y2.1.fst) (y2.1.snd), .v (.int .i64 ((0 : Int)))] fun y3 =>
  .br (decide (y3.2.fst < (↑x0.1.n : Int))) (
    .el (x0.1.a) (x0.1.n) (y3.2.fst) fun y4 =>
    .ld false (y4.add (Int.toNat y3.2.fst * (4 : Nat))) (.g [.s, .s, .b, .l]) fun y5 =>
    .call false 17 [Sh1.val (.g [.i .i64, .s, .s, .s, .s, .s, .b, .l, .i .i64, .l, .l, .b, .l, .i .i64, .s, .s, .b, .l, .i .i64]) ((((1 : Int)) : Int), (y5.fst), ({ data := { toList := [] : Array UInt8 } : ByteArray }), ({ data := { toList := [] : Array UInt8 } : ByteArray }), (y5.2.fst), ({ data := { toList := [] : Array UInt8 } : ByteArray }), (false), (⟨(none), ((0 : Nat)), ((0 : Nat))⟩ : SlV), (((0 : Int)) : Int), (⟨(none), ((0 : Nat)), ((0 : Nat))⟩ : SlV), (⟨(none), ((0 : Nat)), ((0 : Nat))⟩ : SlV), (false), (⟨(none), ((0 : Nat)), ((0 : Nat))⟩ : SlV), (((0 : Int)) : Int), ({ data := { toList := [] : Array UInt8 } : ByteArray }), ({ data := { toList := [] : Array UInt8 } : ByteArray }), (false), (⟨(none), ((0 : Nat)), ((0 : Nat))⟩ : SlV), (((0 : Int)) : Int), ())] (.v (.o (.s))) fun y6 =>
    .rq ([(Sh1.o Sc.s).val y6].length = (1 : Nat) * (1 : Nat)) <|
    .rq (one [(Sh1.o Sc.s).val y6] = true ∧ (y3.1.fst + (1 : Nat)) * (16 : Nat) ≤ (140737488355328 : Nat) ∧ y3.1.fst + (1 : Nat) ≤ (9223372036854775807 : Nat)) <|
    .call false 18 [Sh1.val (.g [.b, .l]) (y5.2.2)] (.v (.o (.i .i64))) fun y7 =>
    .br (y7 == (1 : Int)) (
      .call false 17 [Sh1.val (.g [.i .i64, .s, .s, .s, .s, .s, .b, .l, .i .i64, .l, .l, .b, .l, .i .i64, .s, .s, .b, .l, .i .i64]) ((((2 : Int)) : Int), (y5.fst), ({ data := { toList := [] : Array UInt8 } : ByteArray }), ({ data := { toList := [] : Array UInt8 } : ByteArray }), ({ data := { toList := [] : Array UInt8 } : ByteArray }), (y5.2.fst), (y5.2.2.fst), y5.2.2.2.1, (((0 : Int)) : Int), (⟨(none), ((0 : Nat)), ((0 : Nat))⟩ : SlV), (⟨(none), ((0 : Nat)), ((0 : Nat))⟩ : SlV), (false), (⟨(none), ((0 : Nat)), ((0 : Nat))⟩ : SlV), (((0 : Int)) : Int), ({ data := { toList := [] : Array UInt8 } : ByteArray }), ({ data := { toList := [] : Array UInt8 } : ByteArray }), (false), (⟨(none), ((0 : Nat)), ((0 : Nat))⟩ : SlV), (((0 : Int)) : Int), ())] (.v (.o (.s))) fun y8 =>
      .rq ([(Sh1.o Sc.s).val y8].length = (1 : Nat) * (1 : Nat)) <|
      .rq (one [(Sh1.o Sc.s).val y8] = true ∧ (y3.1.fst + (1 : Nat) + (1 : Nat)) * (16 : Nat) ≤ (140737488355328 : Nat) ∧ y3.1.fst + (1 : Nat) + (1 : Nat) ≤ (9223372036854775807 : Nat)) <|
      .nx 1 [.a 9 (y3.1.fst + (1 : Nat) + (1 : Nat)) (y3.1.snd ++ [(Sh1.o Sc.s).val y6] ++ [(Sh1.o Sc.s).val y8]), .v (.int .i64 (Go.IntKind.i64.wrap (y3.2.fst + (1 : Int))))]) <|
    .br (y7 == (-1 : Int)) (
      .rg <|
      .call true 19 [Sh1.val (.g [.s, .b, .l]) (y5.2)] (.v (.g [.s, .b, .l])) fun y8 =>
      .call true 17 [Sh1.val (.g [.i .i64, .s, .s, .s, .s, .s, .b, .l, .i .i64, .l, .l, .b, .l, .i .i64, .s, .s, .b, .l, .i .i64]) ((((3 : Int)) : Int), (y5.fst), ({ data := { toList := [] : Array UInt8 } : ByteArray }), ({ data := { toList := [] : Array UInt8 } : ByteArray }), ({ data := { toList := [] : Array UInt8 } : ByteArray }), (y8.fst), (y8.2.fst), y8.2.2.1, (((0 : Int)) : Int), (⟨(none), ((0 : Nat)), ((0 : Nat))⟩ : SlV), (⟨(none), ((0 : Nat)), ((0 : Nat))⟩ : SlV), (false), (⟨(none), ((0 : Nat)), ((0 : Nat))⟩ : SlV), (((0 : Int)) : Int), ({ data := { toList := [] : Array UInt8 } : ByteArray }), ({ data := { toList := [] : Array UInt8 } : ByteArray }), (false), (⟨(none), ((0 : Nat)), ((0 : Nat))⟩ : SlV), (((0 : Int)) : Int), ())] (.v (.o (.s))) fun y9 =>
      .rq ([(Sh1.o Sc.s).val y9].length = (1 : Nat) * (1 : Nat)) <|
      .rq (one [(Sh1.o Sc.s).val y9] = true ∧ (y3.1.fst + (1 : Nat) + (1 : Nat)) * (16 : Nat) ≤ (140737488355328 : Nat) ∧ y3.1.fst + (1 : Nat) + (1 : Nat) ≤ (9223372036854775807 : Nat)) <|
      .nx 1 [.a 9 (y3.1.fst + (1 : Nat) + (1 : Nat)) (y3.1.snd ++ [(Sh1.o Sc.s).val y6] ++ [(Sh1.o Sc.s).val y9]), .v (.int .i64 (Go.IntKind.i64.wrap (y3.2.fst + (1 : Int))))]) <|
    .nx 1 [.a 9 (y3.1.fst + (1 : Nat)) (y3.1.snd ++ [(Sh1.o Sc.s).val y6]), .v (.int .i64 (Go.IntKind.i64.wrap (y3.2.fst + (1 : Int))))]) <|
  .fz (y3.1.fst) (y3.1.snd) 9 fun b4 c4 =>
  .ret [.slice (some { block := b4, off := (0 : Nat) : Go.Addr }) (y3.1.fst) (c4)]
theorem fS_Script (x0 : SlV × SlV × ByteArray × SlV × PUnit) : fits Tryz.prog aS_Script 5 [Sh1.val (.g [.l, .l, .s, .l]) (x0)] (tS_Script x0) :=
  ⟨Tryz.f5, Tryz.f5.body.getD .skip, by kernel_rfl, by kernel_rfl, by kernel_rfl, by kernel_rfl, by kernel_rfl, by kernel_rfl⟩
/-! loop.example/g00793/laws.toLedger -/
def aL_toLedger : An := ⟨[], [], []⟩
noncomputable def tL_toLedger (x0 : SlV × SlV × ByteArray × SlV × PUnit) : T :=
  .call false 20 [Sh1.val (.g [.l]) (x0.1, ())] (.v (.g [.l])) fun y1 =>
  .call false 21 [Sc.val .l (x0.2.1)] (.v (.o (.l))) fun y2 =>
  .call false 22 [Sh1.val (.g [.s, .l]) (x0.2.2)] (.v (.g [.s, .l])) fun y3 =>
  .ret [Sh1.val (.g [.l, .l, .s, .l]) (y1.1, y2, (y3.fst), y3.2.1, ())]
theorem fL_toLedger (x0 : SlV × SlV × ByteArray × SlV × PUnit) : fits Tryz.prog aL_toLedger 6 [Sh1.val (.g [.l, .l, .s, .l]) (x0)] (tL_toLedger x0) :=
  ⟨Tryz.f6, Tryz.f6.body.getD .skip, by kernel_rfl, by kernel_rfl, by kernel_rfl, by kernel_rfl, by kernel_rfl, by kernel_rfl⟩
/-! loop.example/g00793/impl.Script -/
def aI_Script : An := ⟨[(5, [.s 3, .s 16], [.a 9, .o (.o (.i .i64))]), (10, [.s 3, .s 31], [.a 9, .o (.o (.i .i64))])], [], []⟩
noncomputable def tI_Script (x0 : SlV × SlV × ByteArray × SlV × PUnit) : T :=
  .call false 23 [Sh1.val (.g [.l, .l, .s, .l]) (x0)] (.v (.o (.b))) fun y1 =>
  .br (!y1) (
    .ret [.slice (none) ((0 : Nat)) ((0 : Nat))]) <|
  .lp [.a 9, .o (.o (.i .i64))] [.a 9 ((0 : Nat)) [], .v (.int .i64 ((0 : Int)))] fun y2 =>
  .br (decide (y2.2.fst < (↑x0.2.2.2.1.n : Int))) (
    .el (x0.2.2.2.1.a) (x0.2.2.2.1.n) (y2.2.fst) fun y3 =>
    .ld false (y3.add (Int.toNat y2.2.fst * (5 : Nat))) (.g [.s, .s, .b, .l, .i .i64]) fun y4 =>
    .call false 24 [Sh1.val (.g [.i .i64, .s, .s, .s, .s, .s, .b, .l, .i .i64, .l, .l, .b, .l, .i .i64, .s, .s, .b, .l, .i .i64]) ((((9 : Int)) : Int), ({ data := { toList := [] : Array UInt8 } : ByteArray }), ({ data := { toList := [] : Array UInt8 } : ByteArray }), ({ data := { toList := [] : Array UInt8 } : ByteArray }), ({ data := { toList := [] : Array UInt8 } : ByteArray }), ({ data := { toList := [] : Array UInt8 } : ByteArray }), (false), (⟨(none), ((0 : Nat)), ((0 : Nat))⟩ : SlV), (((0 : Int)) : Int), (⟨(none), ((0 : Nat)), ((0 : Nat))⟩ : SlV), (⟨(none), ((0 : Nat)), ((0 : Nat))⟩ : SlV), (false), (⟨(none), ((0 : Nat)), ((0 : Nat))⟩ : SlV), (((0 : Int)) : Int), (y4.fst), (y4.2.fst), (y4.2.2.fst), y4.2.2.2.1, ((y4.2.2.2.2.fst) : Int), ())] (.v (.o (.s))) fun y5 =>
    .rq ([(Sh1.o Sc.s).val y5].length = (1 : Nat) * (1 : Nat)) <|
    .rq (one [(Sh1.o Sc.s).val y5] = true ∧ (y2.1.fst + (1 : Nat)) * (16 : Nat) ≤ (140737488355328 : Nat) ∧ y2.1.fst + (1 : Nat) ≤ (9223372036854775807 : Nat)) <|
    .nx 0 [.a 9 (y2.1.fst + (1 : Nat)) (y2.1.snd ++ [(Sh1.o Sc.s).val y5]), .v (.int .i64 (Go.IntKind.i64.wrap (y2.2.fst + (1 : Int))))]) <|
  .lp [.a 9, .o (.o (.i .i64))] [.a 9 (y2.1.fst) (y2.1.snd), .v (.int .i64 ((0 : Int)))] fun y3 =>
  .br (decide (y3.2.fst < (↑x0.1.n : Int))) (
    .el (x0.1.a) (x0.1.n) (y3.2.fst) fun y4 =>
    .ld false (y4.add (Int.toNat y3.2.fst * (4 : Nat))) (.g [.s, .s, .b, .l]) fun y5 =>
    .call false 24 [Sh1.val (.g [.i .i64, .s, .s, .s, .s, .s, .b, .l, .i .i64, .l, .l, .b, .l, .i .i64, .s, .s, .b, .l, .i .i64]) ((((1 : Int)) : Int), (y5.fst), ({ data := { toList := [] : Array UInt8 } : ByteArray }), ({ data := { toList := [] : Array UInt8 } : ByteArray }), (y5.2.fst), ({ data := { toList := [] : Array UInt8 } : ByteArray }), (false), (⟨(none), ((0 : Nat)), ((0 : Nat))⟩ : SlV), (((0 : Int)) : Int), (⟨(none), ((0 : Nat)), ((0 : Nat))⟩ : SlV), (⟨(none), ((0 : Nat)), ((0 : Nat))⟩ : SlV), (false), (⟨(none), ((0 : Nat)), ((0 : Nat))⟩ : SlV), (((0 : Int)) : Int), ({ data := { toList := [] : Array UInt8 } : ByteArray }), ({ data := { toList := [] : Array UInt8 } : ByteArray }), (false), (⟨(none), ((0 : Nat)), ((0 : Nat))⟩ : SlV), (((0 : Int)) : Int), ())] (.v (.o (.s))) fun y6 =>
    .rq ([(Sh1.o Sc.s).val y6].length = (1 : Nat) * (1 : Nat)) <|
    .rq (one [(Sh1.o Sc.s).val y6] = true ∧ (y3.1.fst + (1 : Nat)) * (16 : Nat) ≤ (140737488355328 : Nat) ∧ y3.1.fst + (1 : Nat) ≤ (9223372036854775807 : Nat)) <|
    .call false 25 [Sh1.val (.g [.b, .l]) (y5.2.2)] (.v (.o (.i .i64))) fun y7 =>
    .br (y7 == (1 : Int)) (
      .call false 24 [Sh1.val (.g [.i .i64, .s, .s, .s, .s, .s, .b, .l, .i .i64, .l, .l, .b, .l, .i .i64, .s, .s, .b, .l, .i .i64]) ((((2 : Int)) : Int), (y5.fst), ({ data := { toList := [] : Array UInt8 } : ByteArray }), ({ data := { toList := [] : Array UInt8 } : ByteArray }), ({ data := { toList := [] : Array UInt8 } : ByteArray }), (y5.2.fst), (y5.2.2.fst), y5.2.2.2.1, (((0 : Int)) : Int), (⟨(none), ((0 : Nat)), ((0 : Nat))⟩ : SlV), (⟨(none), ((0 : Nat)), ((0 : Nat))⟩ : SlV), (false), (⟨(none), ((0 : Nat)), ((0 : Nat))⟩ : SlV), (((0 : Int)) : Int), ({ data := { toList := [] : Array UInt8 } : ByteArray }), ({ data := { toList := [] : Array UInt8 } : ByteArray }), (false), (⟨(none), ((0 : Nat)), ((0 : Nat))⟩ : SlV), (((0 : Int)) : Int), ())] (.v (.o (.s))) fun y8 =>
      .rq ([(Sh1.o Sc.s).val y8].length = (1 : Nat) * (1 : Nat)) <|
      .rq (one [(Sh1.o Sc.s).val y8] = true ∧ (y3.1.fst + (1 : Nat) + (1 : Nat)) * (16 : Nat) ≤ (140737488355328 : Nat) ∧ y3.1.fst + (1 : Nat) + (1 : Nat) ≤ (9223372036854775807 : Nat)) <|
      .nx 1 [.a 9 (y3.1.fst + (1 : Nat) + (1 : Nat)) (y3.1.snd ++ [(Sh1.o Sc.s).val y6] ++ [(Sh1.o Sc.s).val y8]), .v (.int .i64 (Go.IntKind.i64.wrap (y3.2.fst + (1 : Int))))]) <|
    .br (y7 == (-1 : Int)) (
      .rg <|
      .call true 26 [Sh1.val (.g [.s, .b, .l]) (y5.2)] (.v (.g [.s, .b, .l])) fun y8 =>
      .call true 24 [Sh1.val (.g [.i .i64, .s, .s, .s, .s, .s, .b, .l, .i .i64, .l, .l, .b, .l, .i .i64, .s, .s, .b, .l, .i .i64]) ((((3 : Int)) : Int), (y5.fst), ({ data := { toList := [] : Array UInt8 } : ByteArray }), ({ data := { toList := [] : Array UInt8 } : ByteArray }), ({ data := { toList := [] : Array UInt8 } : ByteArray }), (y8.fst), (y8.2.fst), y8.2.2.1, (((0 : Int)) : Int), (⟨(none), ((0 : Nat)), ((0 : Nat))⟩ : SlV), (⟨(none), ((0 : Nat)), ((0 : Nat))⟩ : SlV), (false), (⟨(none), ((0 : Nat)), ((0 : Nat))⟩ : SlV), (((0 : Int)) : Int), ({ data := { toList := [] : Array UInt8 } : ByteArray }), ({ data := { toList := [] : Array UInt8 } : ByteArray }), (false), (⟨(none), ((0 : Nat)), ((0 : Nat))⟩ : SlV), (((0 : Int)) : Int), ())] (.v (.o (.s))) fun y9 =>
      .rq ([(Sh1.o Sc.s).val y9].length = (1 : Nat) * (1 : Nat)) <|
      .rq (one [(Sh1.o Sc.s).val y9] = true ∧ (y3.1.fst + (1 : Nat) + (1 : Nat)) * (16 : Nat) ≤ (140737488355328 : Nat) ∧ y3.1.fst + (1 : Nat) + (1 : Nat) ≤ (9223372036854775807 : Nat)) <|
      .nx 1 [.a 9 (y3.1.fst + (1 : Nat) + (1 : Nat)) (y3.1.snd ++ [(Sh1.o Sc.s).val y6] ++ [(Sh1.o Sc.s).val y9]), .v (.int .i64 (Go.IntKind.i64.wrap (y3.2.fst + (1 : Int))))]) <|
    .nx 1 [.a 9 (y3.1.fst + (1 : Nat)) (y3.1.snd ++ [(Sh1.o Sc.s).val y6]), .v (.int .i64 (Go.IntKind.i64.wrap (y3.2.fst + (1 : Int))))]) <|
  .fz (y3.1.fst) (y3.1.snd) 9 fun b4 c4 =>
  .ret [.slice (some { block := b4, off := (0 : Nat) : Go.Addr }) (y3.1.fst) (c4)]
theorem fI_Script (x0 : SlV × SlV × ByteArray × SlV × PUnit) : fits Tryz.prog aI_Script 7 [Sh1.val (.g [.l, .l, .s, .l]) (x0)] (tI_Script x0) :=
  ⟨Tryz.f7, Tryz.f7.body.getD .skip, by kernel_rfl, by kernel_rfl, by kernel_rfl, by kernel_rfl, by kernel_rfl, by kernel_rfl⟩
/-! loop.example/g00793/laws.eqStringS -/
def aL_eqStringS : An := ⟨[(4, [.s 5], [.o (.o (.i .i64))])], [], []⟩
noncomputable def tL_eqStringS (x0 : SlV) (x1 : SlV) : T :=
  .br ((↑x0.n : Int) != (↑x1.n : Int)) (
    .ret [.bool (false)]) <|
  .lp [.o (.o (.i .i64))] [.v (.int .i64 ((0 : Int)))] fun y1 =>
  .br (decide (y1.fst < (↑x0.n : Int))) (
    .rg <|
    .el (x0.a) (x0.n) (y1.fst) fun y2 =>
    .ld true (y2.add (Int.toNat y1.fst * (1 : Nat))) (.o (.s)) fun y3 =>
    .el (x1.a) (x1.n) (y1.fst) fun y4 =>
    .ld true (y4.add (Int.toNat y1.fst * (1 : Nat))) (.o (.s)) fun y5 =>
    .br (!y3.toList == y5.toList) (
      .ret [.bool (false)]) <|
    .nx 0 [.v (.int .i64 (Go.IntKind.i64.wrap (y1.fst + (1 : Int))))]) <|
  .ret [.bool (true)]
theorem fL_eqStringS (x0 : SlV) (x1 : SlV) : fits Tryz.prog aL_eqStringS 8 [Sc.val .l (x0), Sc.val .l (x1)] (tL_eqStringS x0 x1) :=
  ⟨Tryz.f8, Tryz.f8.body.getD .skip, by kernel_rfl, by kernel_rfl, by kernel_rfl, by kernel_rfl, by kernel_rfl, by kernel_rfl⟩
/-! loop.example/g00793/laws.eqLedger -/
def aL_eqLedger : An := ⟨[], [], []⟩
noncomputable def tL_eqLedger (x0 : SlV × SlV × ByteArray × SlV × PUnit) (x1 : SlV × SlV × ByteArray × SlV × PUnit) : T :=
  .call false 27 [Sh1.val (.g [.l]) (x0.1, ()), Sh1.val (.g [.l]) (x1.1, ())] (.v (.o (.b))) fun y1 =>
  .br (!y1) (
    .ret [.bool (false)]) <|
  .call false 28 [Sc.val .l (x0.2.1), Sc.val .l (x1.2.1)] (.v (.o (.b))) fun y2 =>
  .br (!y2) (
    .ret [.bool (false)]) <|
  .call false 29 [Sh1.val (.g [.s, .l]) (x0.2.2), Sh1.val (.g [.s, .l]) (x1.2.2)] (.v (.o (.b))) fun y3 =>
  .br (!y3) (
    .ret [.bool (false)]) <|
  .ret [.bool (true)]
theorem fL_eqLedger (x0 : SlV × SlV × ByteArray × SlV × PUnit) (x1 : SlV × SlV × ByteArray × SlV × PUnit) : fits Tryz.prog aL_eqLedger 9 [Sh1.val (.g [.l, .l, .s, .l]) (x0), Sh1.val (.g [.l, .l, .s, .l]) (x1)] (tL_eqLedger x0 x1) :=
  ⟨Tryz.f9, Tryz.f9.body.getD .skip, by kernel_rfl, by kernel_rfl, by kernel_rfl, by kernel_rfl, by kernel_rfl, by kernel_rfl⟩
/-! loop.example/g00793/laws.markLedger -/
def aL_markLedger : An := ⟨[], [], []⟩
noncomputable def tL_markLedger (x0 : SlV × SlV × ByteArray × SlV × PUnit) (x1 : Int) : T :=
  .call false 30 [Sh1.val (.g [.l]) (x0.1, ()), .int .i64 (x1)] (.v (.o (.i .i64))) fun y1 =>
  .call false 31 [Sc.val .l (x0.2.1), .int .i64 (y1)] (.v (.o (.i .i64))) fun y2 =>
  .call false 32 [Sh1.val (.g [.s, .l]) (x0.2.2), .int .i64 (y2)] (.v (.o (.i .i64))) fun y3 =>
  .ret [.int .i64 (y3)]
theorem fL_markLedger (x0 : SlV × SlV × ByteArray × SlV × PUnit) (x1 : Int) : fits Tryz.prog aL_markLedger 10 [Sh1.val (.g [.l, .l, .s, .l]) (x0), .int .i64 (x1)] (tL_markLedger x0 x1) :=
  ⟨Tryz.f10, Tryz.f10.body.getD .skip, by kernel_rfl, by kernel_rfl, by kernel_rfl, by kernel_rfl, by kernel_rfl, by kernel_rfl⟩
/-! loop.example/g00793/laws.markStringS -/
def aL_markStringS : An := ⟨[(2, [.s 1, .s 5], [.o (.o (.i .i64)), .o (.o (.i .i64))])], [], []⟩
noncomputable def tL_markStringS (x0 : SlV) (x1 : Int) : T :=
  .lp [.o (.o (.i .i64)), .o (.o (.i .i64))] [.v (.int .i64 (x1)), .v (.int .i64 ((0 : Int)))] fun y1 =>
  .br (decide (y1.2.fst < (↑x0.n : Int))) (
    .call false 33 [.int .i64 (y1.fst)] (.v (.o (.s))) fun y2 =>
    .el (x0.a) (x0.n) (y1.2.fst) fun y3 =>
    .st (y3.add (Int.toNat y1.2.fst * (1 : Nat))) [.string (y2)] <|
    .nx 0 [.v (.int .i64 (Go.IntKind.i64.wrap (y1.fst + (1 : Int)))), .v (.int .i64 (Go.IntKind.i64.wrap (y1.2.fst + (1 : Int))))]) <|
  .ret [.int .i64 (y1.fst)]
theorem fL_markStringS (x0 : SlV) (x1 : Int) : fits Tryz.prog aL_markStringS 11 [Sc.val .l (x0), .int .i64 (x1)] (tL_markStringS x0 x1) :=
  ⟨Tryz.f11, Tryz.f11.body.getD .skip, by kernel_rfl, by kernel_rfl, by kernel_rfl, by kernel_rfl, by kernel_rfl, by kernel_rfl⟩
/-! loop.example/g00793/laws.heldStringS -/
def aL_heldStringS : An := ⟨[(2, [.s 1, .s 5], [.o (.o (.i .i64)), .o (.o (.i .i64))])], [], []⟩
noncomputable def tL_heldStringS (x0 : SlV) (x1 : Int) : T :=
  .lp [.o (.o (.i .i64)), .o (.o (.i .i64))] [.v (.int .i64 (x1)), .v (.int .i64 ((0 : Int)))] fun y1 =>
  .br (decide (y1.2.fst < (↑x0.n : Int))) (
    .rg <|
    .el (x0.a) (x0.n) (y1.2.fst) fun y2 =>
    .ld true (y2.add (Int.toNat y1.2.fst * (1 : Nat))) (.o (.s)) fun y3 =>
    .call true 33 [.int .i64 (y1.fst)] (.v (.o (.s))) fun y4 =>
    .br (!y3.toList == y4.toList) (
      .ret [.int .i64 ((-1 : Int))]) <|
    .nx 0 [.v (.int .i64 (Go.IntKind.i64.wrap (y1.fst + (1 : Int)))), .v (.int .i64 (Go.IntKind.i64.wrap (y1.2.fst + (1 : Int))))]) <|
  .ret [.int .i64 (y1.fst)]
theorem fL_heldStringS (x0 : SlV) (x1 : Int) : fits Tryz.prog aL_heldStringS 12 [Sc.val .l (x0), .int .i64 (x1)] (tL_heldStringS x0 x1) :=
  ⟨Tryz.f12, Tryz.f12.body.getD .skip, by kernel_rfl, by kernel_rfl, by kernel_rfl, by kernel_rfl, by kernel_rfl, by kernel_rfl⟩
/-! loop.example/g00793/laws.szBook -/
def aL_szBook : An := ⟨[], [], []⟩
noncomputable def tL_szBook (x0 : SlV × PUnit) (x1 : Int) : T :=
  .call false 34 [Sc.val .l (x0.1), .int .i64 (x1)] (.v (.o (.i .i64))) fun y1 =>
  .br (decide (y1 < (0 : Int))) (
    .ret [.int .i64 ((-1 : Int))]) <|
  .ret [.int .i64 (y1)]
theorem fL_szBook (x0 : SlV × PUnit) (x1 : Int) : fits Tryz.prog aL_szBook 13 [Sh1.val (.g [.l]) (x0), .int .i64 (x1)] (tL_szBook x0 x1) :=
  ⟨Tryz.f13, Tryz.f13.body.getD .skip, by kernel_rfl, by kernel_rfl, by kernel_rfl, by kernel_rfl, by kernel_rfl, by kernel_rfl⟩
/-! loop.example/g00793/laws.szRestS -/
def aL_szRestS : An := ⟨[(5, [.s 1, .s 5], [.o (.o (.i .i64)), .o (.o (.i .i64))])], [], []⟩
noncomputable def tL_szRestS (x0 : SlV) (x1 : Int) : T :=
  .br (decide (Go.IntKind.i64.wrap (x1 - (↑x0.n : Int)) < (0 : Int))) (
    .ret [.int .i64 ((-1 : Int))]) <|
  .lp [.o (.o (.i .i64)), .o (.o (.i .i64))] [.v (.int .i64 (Go.IntKind.i64.wrap (x1 - (↑x0.n : Int)))), .v (.int .i64 ((0 : Int)))] fun y1 =>
  .br (decide (y1.2.fst < (↑x0.n : Int))) (
    .el (x0.a) (x0.n) (y1.2.fst) fun y2 =>
    .ld false (y2.add (Int.toNat y1.2.fst * (4 : Nat))) (.g [.s, .b, .l, .l]) fun y3 =>
    .call false 35 [Sh1.val (.g [.s, .b, .l, .l]) (y3), .int .i64 (y1.fst)] (.v (.o (.i .i64))) fun y4 =>
    .br (decide (y4 < (0 : Int))) (
      .ret [.int .i64 ((-1 : Int))]) <|
    .nx 0 [.v (.int .i64 (y4)), .v (.int .i64 (Go.IntKind.i64.wrap (y1.2.fst + (1 : Int))))]) <|
  .ret [.int .i64 (y1.fst)]
theorem fL_szRestS (x0 : SlV) (x1 : Int) : fits Tryz.prog aL_szRestS 14 [Sc.val .l (x0), .int .i64 (x1)] (tL_szRestS x0 x1) :=
  ⟨Tryz.f14, Tryz.f14.body.getD .skip, by kernel_rfl, by kernel_rfl, by kernel_rfl, by kernel_rfl, by kernel_rfl, by kernel_rfl⟩
/-! loop.example/g00793/laws.szRates -/
def aL_szRates : An := ⟨[], [], []⟩
noncomputable def tL_szRates (x0 : ByteArray × SlV × PUnit) (x1 : Int) : T :=
  .br (decide (Go.IntKind.i64.wrap (x1 - (↑(ByteArray.size x0.fst) : Int)) < (0 : Int))) (
    .ret [.int .i64 ((-1 : Int))]) <|
  .call false 36 [Sc.val .l (x0.2.1), .int .i64 (Go.IntKind.i64.wrap (x1 - (↑(ByteArray.size x0.fst) : Int)))] (.v (.o (.i .i64))) fun y1 =>
  .br (decide (y1 < (0 : Int))) (
    .ret [.int .i64 ((-1 : Int))]) <|
  .ret [.int .i64 (y1)]
theorem fL_szRates (x0 : ByteArray × SlV × PUnit) (x1 : Int) : fits Tryz.prog aL_szRates 15 [Sh1.val (.g [.s, .l]) (x0), .int .i64 (x1)] (tL_szRates x0 x1) :=
  ⟨Tryz.f15, Tryz.f15.body.getD .skip, by kernel_rfl, by kernel_rfl, by kernel_rfl, by kernel_rfl, by kernel_rfl, by kernel_rfl⟩
/-! loop.example/g00793/spec.LedgerOk -/
def aS_LedgerOk : An := ⟨[], [], []⟩
noncomputable def tS_LedgerOk (x0 : SlV × SlV × ByteArray × SlV × PUnit) : T :=
  .call false 37 [Sh1.val (.g [.l]) (x0.1, ())] (.v (.o (.b))) fun y1 =>
  .br (y1) (
    .call false 38 [Sc.val .l (x0.2.1)] (.v (.o (.b))) fun y2 =>
    .br (y2) (
      .call false 39 [Sh1.val (.g [.s, .l]) (x0.2.2)] (.v (.o (.b))) fun y3 =>
      .ret [.bool (y3)]) <|
    .ret [.bool (false)]) <|
  .ret [.bool (false)]
theorem fS_LedgerOk (x0 : SlV × SlV × ByteArray × SlV × PUnit) : fits Tryz.prog aS_LedgerOk 16 [Sh1.val (.g [.l, .l, .s, .l]) (x0)] (tS_LedgerOk x0) :=
  ⟨Tryz.f16, Tryz.f16.body.getD .skip, by kernel_rfl, by kernel_rfl, by kernel_rfl, by kernel_rfl, by kernel_rfl, by kernel_rfl⟩
/-! loop.example/g00793/spec.CmdText -/
def aS_CmdText : An := ⟨[], [(10, [.s 7], [.a 9]), (12, [.s 7], [.a 9]), (14, [.s 7], [.a 9]), (16, [.s 7], [.a 9]), (18, [.s 7], [.a 9]), (20, [.s 7], [.a 9]), (22, [.s 7], [.a 9])], []⟩
noncomputable def tS_CmdText (x0 : Int × ByteArray × ByteArray × ByteArray × ByteArray × ByteArray × Bool × SlV × Int × SlV × SlV × Bool × SlV × Int × ByteArray × ByteArray × Bool × SlV × Int × PUnit) : T :=
  .call false 40 [Sh1.val (.g [.i .i64, .s, .s, .s, .s, .s, .b, .l, .i .i64, .l, .l, .b, .l, .i .i64, .s, .s, .b, .l, .i .i64]) (x0)] (.v (.o (.b))) fun y1 =>
  .br (!y1) (
    .ret [.string ({ data := { toList := [] : Array UInt8 } : ByteArray })]) <|
  .call false 41 [.int .i64 (x0.fst)] (.t [(.o (.b)), (.o (.b)), (.o (.b)), (.o (.b))]) fun y2 =>
  .call false 42 [.int .i64 (x0.fst)] (.v (.o (.s))) fun y3 =>
  .br (x0.fst == (9 : Int)) (
    .rg <|
    .call true 42 [.int .i64 (x0.fst)] (.v (.o (.s))) fun y4 =>
    .rq (y4.size + { data := { toList := [(32 : UInt8)] : Array UInt8 } : ByteArray }.size ≤ (9223372036854775807 : Nat)) <|
    .call true 43 [Sh1.val (.g [.s, .s, .b, .l, .i .i64]) (x0.2.2.2.2.2.2.2.2.2.2.2.2.2.2)] (.v (.o (.s))) fun y5 =>
    .rq ((y4 ++ { data := { toList := [(32 : UInt8)] : Array UInt8 } : ByteArray }).size + y5.size ≤ (9223372036854775807 : Nat)) <|
    .ret [.string (y4 ++ { data := { toList := [(32 : UInt8)] : Array UInt8 } : ByteArray } ++ y5)]) <|
  .rq ([Go.Value.string x0.2.fst].length = (1 : Nat) * (1 : Nat)) <|
  .rq (one [Go.Value.string x0.2.fst] = true ∧ ((1 : Nat) + (1 : Nat)) * (16 : Nat) ≤ (140737488355328 : Nat) ∧ (1 : Nat) + (1 : Nat) ≤ (9223372036854775807 : Nat)) <|
  .jn [.a 9] (fun y4 =>
    .jn [.a 9] (fun y5 =>
      .jn [.a 9] (fun y6 =>
        .jn [.a 9] (fun y7 =>
          .jn [.a 9] (fun y8 =>
            .jn [.a 9] (fun y9 =>
              .jn [.a 9] (fun y10 =>
                .fz (y10.1.fst) (y10.1.snd) 9 fun b11 c11 =>
                .call false 48 [.slice (some { block := b11, off := (0 : Nat) : Go.Addr }) (y10.1.fst) (c11), .string ({ data := { toList := [(32 : UInt8)] : Array UInt8 } : ByteArray })] (.v (.o (.s))) fun y12 =>
                .ret [.string (y12)]) <|
              .br (y2.2.2.2.fst) (
                .call false 47 [.int .i64 (x0.2.2.2.2.2.2.2.2.fst)] (.v (.o (.s))) fun y10 =>
                .rq ([(Sh1.o Sc.s).val y10].length = (1 : Nat) * (1 : Nat)) <|
                .rq (one [(Sh1.o Sc.s).val y10] = true ∧ (y9.1.fst + (1 : Nat)) * (16 : Nat) ≤ (140737488355328 : Nat) ∧ y9.1.fst + (1 : Nat) ≤ (9223372036854775807 : Nat)) <|
                .nx 6 [.a 9 (y9.1.fst + (1 : Nat)) (y9.1.snd ++ [(Sh1.o Sc.s).val y10])]) <|
              .nx 6 [.a 9 (y9.1.fst) (y9.1.snd)]) <|
            .br (y2.2.fst) (
              .call false 46 [Sh1.val (.g [.b, .l, .i .i64]) ((x0.2.2.2.2.2.2.2.2.2.2.2.fst), x0.2.2.2.2.2.2.2.2.2.2.2.2.1, ((x0.2.2.2.2.2.2.2.2.2.2.2.2.2.fst) : Int), ())] (.v (.o (.s))) fun y9 =>
              .rq ([(Sh1.o Sc.s).val y9].length = (1 : Nat) * (1 : Nat)) <|
              .rq (one [(Sh1.o Sc.s).val y9] = true ∧ (y8.1.fst + (1 : Nat)) * (16 : Nat) ≤ (140737488355328 : Nat) ∧ y8.1.fst + (1 : Nat) ≤ (9223372036854775807 : Nat)) <|
              .nx 5 [.a 9 (y8.1.fst + (1 : Nat)) (y8.1.snd ++ [(Sh1.o Sc.s).val y9])]) <|
            .nx 5 [.a 9 (y8.1.fst) (y8.1.snd)]) <|
          .br (x0.fst == (6 : Int)) (
            .call false 45 [Sc.val .l (x0.2.2.2.2.2.2.2.2.2.1), Sc.val .l (x0.2.2.2.2.2.2.2.2.2.2.1)] (.v (.o (.s))) fun y8 =>
            .rq ([(Sh1.o Sc.s).val y8].length = (1 : Nat) * (1 : Nat)) <|
            .rq (one [(Sh1.o Sc.s).val y8] = true ∧ (y7.1.fst + (1 : Nat)) * (16 : Nat) ≤ (140737488355328 : Nat) ∧ y7.1.fst + (1 : Nat) ≤ (9223372036854775807 : Nat)) <|
            .nx 4 [.a 9 (y7.1.fst + (1 : Nat)) (y7.1.snd ++ [(Sh1.o Sc.s).val y8])]) <|
          .nx 4 [.a 9 (y7.1.fst) (y7.1.snd)]) <|
        .br (y2.2.2.fst) (
          .call false 44 [Sh1.val (.g [.s, .b, .l]) ((x0.2.2.2.2.2.fst), (x0.2.2.2.2.2.2.fst), x0.2.2.2.2.2.2.2.1, ())] (.v (.o (.s))) fun y7 =>
          .rq ([(Sh1.o Sc.s).val y7].length = (1 : Nat) * (1 : Nat)) <|
          .rq (one [(Sh1.o Sc.s).val y7] = true ∧ (y6.1.fst + (1 : Nat)) * (16 : Nat) ≤ (140737488355328 : Nat) ∧ y6.1.fst + (1 : Nat) ≤ (9223372036854775807 : Nat)) <|
          .nx 3 [.a 9 (y6.1.fst + (1 : Nat)) (y6.1.snd ++ [(Sh1.o Sc.s).val y7])]) <|
        .nx 3 [.a 9 (y6.1.fst) (y6.1.snd)]) <|
      .br (x0.fst == (1 : Int)) (
        .rq ([Go.Value.string x0.2.2.2.2.fst].length = (1 : Nat) * (1 : Nat)) <|
        .rq (one [Go.Value.string x0.2.2.2.2.fst] = true ∧ (y5.1.fst + (1 : Nat)) * (16 : Nat) ≤ (140737488355328 : Nat) ∧ y5.1.fst + (1 : Nat) ≤ (9223372036854775807 : Nat)) <|
        .nx 2 [.a 9 (y5.1.fst + (1 : Nat)) (y5.1.snd ++ [Go.Value.string x0.2.2.2.2.fst])]) <|
      .nx 2 [.a 9 (y5.1.fst) (y5.1.snd)]) <|
    .br (y2.2.fst) (
      .rq ([Go.Value.string x0.2.2.2.fst].length = (1 : Nat) * (1 : Nat)) <|
      .rq (one [Go.Value.string x0.2.2.2.fst] = true ∧ (y4.1.fst + (1 : Nat)) * (16 : Nat) ≤ (140737488355328 : Nat) ∧ y4.1.fst + (1 : Nat) ≤ (9223372036854775807 : Nat)) <|
      .nx 1 [.a 9 (y4.1.fst + (1 : Nat)) (y4.1.snd ++ [Go.Value.string x0.2.2.2.fst])]) <|
    .nx 1 [.a 9 (y4.1.fst) (y4.1.snd)]) <|
  .br (y2.fst) (
    .rq ([Go.Value.string x0.2.2.fst].length = (1 : Nat) * (1 : Nat)) <|
    .rq (one [Go.Value.string x0.2.2.fst] = true ∧ ((1 : Nat) + (1 : Nat) + (1 : Nat)) * (16 : Nat) ≤ (140737488355328 : Nat) ∧ (1 : Nat) + (1 : Nat) + (1 : Nat) ≤ (9223372036854775807 : Nat)) <|
    .nx 0 [.a 9 ((1 : Nat) + (1 : Nat) + (1 : Nat)) [.string (y3), .string (x0.2.fst), .string (x0.2.2.fst)]]) <|
  .nx 0 [.a 9 ((1 : Nat) + (1 : Nat)) [.string (y3), .string (x0.2.fst)]]
theorem fS_CmdText (x0 : Int × ByteArray × ByteArray × ByteArray × ByteArray × ByteArray × Bool × SlV × Int × SlV × SlV × Bool × SlV × Int × ByteArray × ByteArray × Bool × SlV × Int × PUnit) : fits Tryz.prog aS_CmdText 17 [Sh1.val (.g [.i .i64, .s, .s, .s, .s, .s, .b, .l, .i .i64, .l, .l, .b, .l, .i .i64, .s, .s, .b, .l, .i .i64]) (x0)] (tS_CmdText x0) :=
  ⟨Tryz.f17, Tryz.f17.body.getD .skip, by kernel_rfl, by kernel_rfl, by kernel_rfl, by kernel_rfl, by kernel_rfl, by kernel_rfl⟩
/-! loop.example/g00793/spec.IntSign -/
def aS_IntSign : An := ⟨[], [], []⟩
noncomputable def tS_IntSign (x0 : Bool × SlV × PUnit) : T :=
  .call false 49 [Sh1.val (.g [.b, .l]) (x0), Sh1.val (.g [.b, .l]) ((false), (⟨(none), ((0 : Nat)), ((0 : Nat))⟩ : SlV), ())] (.v (.o (.i .i64))) fun y1 =>
  .ret [.int .i64 (y1)]
theorem fS_IntSign (x0 : Bool × SlV × PUnit) : fits Tryz.prog aS_IntSign 18 [Sh1.val (.g [.b, .l]) (x0)] (tS_IntSign x0) :=
  ⟨Tryz.f18, Tryz.f18.body.getD .skip, by kernel_rfl, by kernel_rfl, by kernel_rfl, by kernel_rfl, by kernel_rfl, by kernel_rfl⟩
/-! loop.example/g00793/spec.l21Less -/
def aS_l21Less : An := ⟨[], [], []⟩
noncomputable def tS_l21Less (x0 : ByteArray × Bool × SlV × PUnit) : T :=
  .rg <|
  .call true 50 [Sh1.val (.g [.b, .l]) (x0.2)] (.v (.g [.b, .l])) fun y1 =>
  .ret [Sh1.val (.g [.s, .b, .l]) ((x0.fst), (y1.fst), y1.2.1, ())]
theorem fS_l21Less (x0 : ByteArray × Bool × SlV × PUnit) : fits Tryz.prog aS_l21Less 19 [Sh1.val (.g [.s, .b, .l]) (x0)] (tS_l21Less x0) :=
  ⟨Tryz.f19, Tryz.f19.body.getD .skip, by kernel_rfl, by kernel_rfl, by kernel_rfl, by kernel_rfl, by kernel_rfl, by kernel_rfl⟩
/-! loop.example/g00793/laws.toBook -/
def aL_toBook : An := ⟨[], [], []⟩
noncomputable def tL_toBook (x0 : SlV × PUnit) : T :=
  .call false 51 [Sc.val .l (x0.1)] (.v (.o (.l))) fun y1 =>
  .ret [Sh1.val (.g [.l]) (y1, ())]
theorem fL_toBook (x0 : SlV × PUnit) : fits Tryz.prog aL_toBook 20 [Sh1.val (.g [.l]) (x0)] (tL_toBook x0) :=
  ⟨Tryz.f20, Tryz.f20.body.getD .skip, by kernel_rfl, by kernel_rfl, by kernel_rfl, by kernel_rfl, by kernel_rfl, by kernel_rfl⟩
/-! loop.example/g00793/laws.toRestS -/
def aL_toRestS : An := ⟨[(3, [.s 3, .s 4], [.a 104, .o (.o (.i .i64))])], [], []⟩
noncomputable def tL_toRestS (x0 : SlV) : T :=
  .rq ((0 : Int) ≤ (↑x0.n : Int) ∧ (↑x0.n : Int) ≤ (↑x0.n : Int) ∧ (↑(72 : Nat) : Int) * (↑x0.n : Int) ≤ (281474976710656 : Int) ∧ (↑x0.n : Int) ≤ (9223372036854775807 : Int)) <|
  .lp [.a 104, .o (.o (.i .i64))] [.a 104 ((↑x0.n : Int).toNat) ((Go.madeCells { toList := [Go.Value.string { data := { toList := [] : Array UInt8 } : ByteArray }, Go.Value.bool false, Go.Value.slice none (0 : Nat) (0 : Nat), Go.Value.slice none (0 : Nat) (0 : Nat)] : Array Go.Value } ((↑x0.n : Int).toNat * (4 : Nat))).toList), .v (.int .i64 ((0 : Int)))] fun y1 =>
  .br (decide (y1.2.fst < (↑x0.n : Int))) (
    .el (x0.a) (x0.n) (y1.2.fst) fun y2 =>
    .ld false (y2.add (Int.toNat y1.2.fst * (4 : Nat))) (.g [.s, .b, .l, .l]) fun y3 =>
    .call false 52 [Sh1.val (.g [.s, .b, .l, .l]) (y3)] (.v (.g [.s, .b, .l, .l])) fun y4 =>
    .rq ((0 : Int) ≤ y1.2.fst ∧ y1.2.fst < (↑y1.1.fst : Int)) <|
    .rq (Int.toNat y1.2.fst * (4 : Nat) + [Go.Value.string y4.fst, Go.Value.bool y4.2.fst, Go.Value.slice y4.2.2.1.a y4.2.2.1.n y4.2.2.1.c, Go.Value.slice y4.2.2.2.1.a y4.2.2.2.1.n y4.2.2.2.1.c].length ≤ y1.1.snd.length) <|
    .nx 0 [.a 104 (y1.1.fst) (setl y1.1.snd (Int.toNat y1.2.fst * (4 : Nat)) [Go.Value.string y4.fst, Go.Value.bool y4.2.fst, Go.Value.slice y4.2.2.1.a y4.2.2.1.n y4.2.2.1.c, Go.Value.slice y4.2.2.2.1.a y4.2.2.2.1.n y4.2.2.2.1.c]), .v (.int .i64 (Go.IntKind.i64.wrap (y1.2.fst + (1 : Int))))]) <|
  .fz (y1.1.fst) (y1.1.snd) 104 fun b2 c2 =>
  .ret [.slice (some { block := b2, off := (0 : Nat) : Go.Addr }) (y1.1.fst) (c2)]
theorem fL_toRestS (x0 : SlV) : fits Tryz.prog aL_toRestS 21 [Sc.val .l (x0)] (tL_toRestS x0) :=
  ⟨Tryz.f21, Tryz.f21.body.getD .skip, by kernel_rfl, by kernel_rfl, by kernel_rfl, by kernel_rfl, by kernel_rfl, by kernel_rfl⟩
/-! loop.example/g00793/laws.toRates -/
def aL_toRates : An := ⟨[], [], []⟩
noncomputable def tL_toRates (x0 : ByteArray × SlV × PUnit) : T :=
  .call false 53 [Sc.val .l (x0.2.1)] (.v (.o (.l))) fun y1 =>
  .ret [Sh1.val (.g [.s, .l]) ((x0.fst), y1, ())]
theorem fL_toRates (x0 : ByteArray × SlV × PUnit) : fits Tryz.prog aL_toRates 22 [Sh1.val (.g [.s, .l]) (x0)] (tL_toRates x0) :=
  ⟨Tryz.f22, Tryz.f22.body.getD .skip, by kernel_rfl, by kernel_rfl, by kernel_rfl, by kernel_rfl, by kernel_rfl, by kernel_rfl⟩
/-! loop.example/g00793/impl.LedgerOk -/
def aI_LedgerOk : An := ⟨[], [], []⟩
noncomputable def tI_LedgerOk (x0 : SlV × SlV × ByteArray × SlV × PUnit) : T :=
  .call false 54 [Sh1.val (.g [.l]) (x0.1, ())] (.v (.o (.b))) fun y1 =>
  .br (y1) (
    .call false 55 [Sc.val .l (x0.2.1)] (.v (.o (.b))) fun y2 =>
    .br (y2) (
      .call false 56 [Sh1.val (.g [.s, .l]) (x0.2.2)] (.v (.o (.b))) fun y3 =>
      .ret [.bool (y3)]) <|
    .ret [.bool (false)]) <|
  .ret [.bool (false)]
theorem fI_LedgerOk (x0 : SlV × SlV × ByteArray × SlV × PUnit) : fits Tryz.prog aI_LedgerOk 23 [Sh1.val (.g [.l, .l, .s, .l]) (x0)] (tI_LedgerOk x0) :=
  ⟨Tryz.f23, Tryz.f23.body.getD .skip, by kernel_rfl, by kernel_rfl, by kernel_rfl, by kernel_rfl, by kernel_rfl, by kernel_rfl⟩
/-! loop.example/g00793/impl.CmdText -/
def aI_CmdText : An := ⟨[(5, [.s 3, .s 17], [.a 9, .o (.o (.i .i64))])], [], [(2000005, [.s 1])]⟩
noncomputable def tI_CmdText (x0 : Int × ByteArray × ByteArray × ByteArray × ByteArray × ByteArray × Bool × SlV × Int × SlV × SlV × Bool × SlV × Int × ByteArray × ByteArray × Bool × SlV × Int × PUnit) : T :=
  .call false 57 [Sh1.val (.g [.i .i64, .s, .s, .s, .s, .s, .b, .l, .i .i64, .l, .l, .b, .l, .i .i64, .s, .s, .b, .l, .i .i64]) (x0)] (.v (.o (.b))) fun y1 =>
  .br (!y1) (
    .ret [.string ({ data := { toList := [] : Array UInt8 } : ByteArray })]) <|
  .call false 58 [.int .i64 (x0.fst)] (.v (.o (.s))) fun y2 =>
  .call false 59 [.int .i64 (x0.fst)] (.v (.o (.l))) fun y3 =>
  .es [.int .i64 (x0.fst), .string (x0.2.fst), .string (x0.2.2.fst), .string (x0.2.2.2.fst), .string (x0.2.2.2.2.fst), .string (x0.2.2.2.2.2.fst), .bool (x0.2.2.2.2.2.2.fst), Sc.val .l (x0.2.2.2.2.2.2.2.1), .int .i64 (x0.2.2.2.2.2.2.2.2.fst), Sc.val .l (x0.2.2.2.2.2.2.2.2.2.1), Sc.val .l (x0.2.2.2.2.2.2.2.2.2.2.1), .bool (x0.2.2.2.2.2.2.2.2.2.2.2.fst), Sc.val .l (x0.2.2.2.2.2.2.2.2.2.2.2.2.1), .int .i64 (x0.2.2.2.2.2.2.2.2.2.2.2.2.2.fst), .string (x0.2.2.2.2.2.2.2.2.2.2.2.2.2.2.fst), .string (x0.2.2.2.2.2.2.2.2.2.2.2.2.2.2.2.fst), .bool (x0.2.2.2.2.2.2.2.2.2.2.2.2.2.2.2.2.fst), Sc.val .l (x0.2.2.2.2.2.2.2.2.2.2.2.2.2.2.2.2.2.1), .int .i64 (x0.2.2.2.2.2.2.2.2.2.2.2.2.2.2.2.2.2.2.fst)] 64 fun b4 =>
  .lp [.a 9, .o (.o (.i .i64))] [.a 9 ((1 : Nat)) [.string (y2)], .v (.int .i64 ((0 : Int)))] fun y5 =>
  .br (decide (y5.2.fst < (↑y3.n : Int))) (
    .el (y3.a) (y3.n) (y5.2.fst) fun y6 =>
    .ld false (y6.add (Int.toNat y5.2.fst * (1 : Nat))) (.o (.i .i64)) fun y7 =>
    .call false 60 [.pointer (some { block := b4, off := (0 : Nat) : Go.Addr }), .int .i64 (y7)] (.v (.o (.s))) fun y8 =>
    .rq ([(Sh1.o Sc.s).val y8].length = (1 : Nat) * (1 : Nat)) <|
    .rq (one [(Sh1.o Sc.s).val y8] = true ∧ (y5.1.fst + (1 : Nat)) * (16 : Nat) ≤ (140737488355328 : Nat) ∧ y5.1.fst + (1 : Nat) ≤ (9223372036854775807 : Nat)) <|
    .nx 0 [.a 9 (y5.1.fst + (1 : Nat)) (y5.1.snd ++ [(Sh1.o Sc.s).val y8]), .v (.int .i64 (Go.IntKind.i64.wrap (y5.2.fst + (1 : Int))))]) <|
  .fz (y5.1.fst) (y5.1.snd) 9 fun b6 c6 =>
  .call false 61 [.slice (some { block := b6, off := (0 : Nat) : Go.Addr }) (y5.1.fst) (c6), .string ({ data := { toList := [(32 : UInt8)] : Array UInt8 } : ByteArray })] (.v (.o (.s))) fun y7 =>
  .ret [.string (y7)]
theorem fI_CmdText (x0 : Int × ByteArray × ByteArray × ByteArray × ByteArray × ByteArray × Bool × SlV × Int × SlV × SlV × Bool × SlV × Int × ByteArray × ByteArray × Bool × SlV × Int × PUnit) : fits Tryz.prog aI_CmdText 24 [Sh1.val (.g [.i .i64, .s, .s, .s, .s, .s, .b, .l, .i .i64, .l, .l, .b, .l, .i .i64, .s, .s, .b, .l, .i .i64]) (x0)] (tI_CmdText x0) :=
  ⟨Tryz.f24, Tryz.f24.body.getD .skip, by kernel_rfl, by kernel_rfl, by kernel_rfl, by kernel_rfl, by kernel_rfl, by kernel_rfl⟩
/-! loop.example/g00793/impl.intSign -/
def aI_intSign : An := ⟨[], [], []⟩
noncomputable def tI_intSign (x0 : Bool × SlV × PUnit) : T :=
  .br ((↑x0.2.1.n : Int) == (0 : Int)) (
    .ret [.int .i64 ((0 : Int))]) <|
  .br (x0.fst) (
    .ret [.int .i64 ((-1 : Int))]) <|
  .ret [.int .i64 ((1 : Int))]
theorem fI_intSign (x0 : Bool × SlV × PUnit) : fits Tryz.prog aI_intSign 25 [Sh1.val (.g [.b, .l]) (x0)] (tI_intSign x0) :=
  ⟨Tryz.f25, Tryz.f25.body.getD .skip, by kernel_rfl, by kernel_rfl, by kernel_rfl, by kernel_rfl, by kernel_rfl, by kernel_rfl⟩
/-! loop.example/g00793/impl.minus -/
def aI_minus : An := ⟨[], [], []⟩
noncomputable def tI_minus (x0 : ByteArray × Bool × SlV × PUnit) : T :=
  .rg <|
  .call true 62 [Sh1.val (.g [.b, .l]) (x0.2)] (.v (.g [.b, .l])) fun y1 =>
  .ret [Sh1.val (.g [.s, .b, .l]) ((x0.fst), (y1.fst), y1.2.1, ())]
theorem fI_minus (x0 : ByteArray × Bool × SlV × PUnit) : fits Tryz.prog aI_minus 26 [Sh1.val (.g [.s, .b, .l]) (x0)] (tI_minus x0) :=
  ⟨Tryz.f26, Tryz.f26.body.getD .skip, by kernel_rfl, by kernel_rfl, by kernel_rfl, by kernel_rfl, by kernel_rfl, by kernel_rfl⟩
/-! loop.example/g00793/laws.eqBook -/
def aL_eqBook : An := ⟨[], [], []⟩
noncomputable def tL_eqBook (x0 : SlV × PUnit) (x1 : SlV × PUnit) : T :=
  .call false 63 [Sc.val .l (x0.1), Sc.val .l (x1.1)] (.v (.o (.b))) fun y1 =>
  .br (!y1) (
    .ret [.bool (false)]) <|
  .ret [.bool (true)]
theorem fL_eqBook (x0 : SlV × PUnit) (x1 : SlV × PUnit) : fits Tryz.prog aL_eqBook 27 [Sh1.val (.g [.l]) (x0), Sh1.val (.g [.l]) (x1)] (tL_eqBook x0 x1) :=
  ⟨Tryz.f27, Tryz.f27.body.getD .skip, by kernel_rfl, by kernel_rfl, by kernel_rfl, by kernel_rfl, by kernel_rfl, by kernel_rfl⟩
/-! loop.example/g00793/laws.eqRestS -/
def aL_eqRestS : An := ⟨[(4, [.s 5], [.o (.o (.i .i64))])], [], []⟩
noncomputable def tL_eqRestS (x0 : SlV) (x1 : SlV) : T :=
  .br ((↑x0.n : Int) != (↑x1.n : Int)) (
    .ret [.bool (false)]) <|
  .lp [.o (.o (.i .i64))] [.v (.int .i64 ((0 : Int)))] fun y1 =>
  .br (decide (y1.fst < (↑x0.n : Int))) (
    .rg <|
    .el (x0.a) (x0.n) (y1.fst) fun y2 =>
    .ld true (y2.add (Int.toNat y1.fst * (4 : Nat))) (.g [.s, .b, .l, .l]) fun y3 =>
    .el (x1.a) (x1.n) (y1.fst) fun y4 =>
    .ld true (y4.add (Int.toNat y1.fst * (4 : Nat))) (.g [.s, .b, .l, .l]) fun y5 =>
    .call true 64 [Sh1.val (.g [.s, .b, .l, .l]) (y3), Sh1.val (.g [.s, .b, .l, .l]) (y5)] (.v (.o (.b))) fun y6 =>
    .br (!y6) (
      .ret [.bool (false)]) <|
    .nx 0 [.v (.int .i64 (Go.IntKind.i64.wrap (y1.fst + (1 : Int))))]) <|
  .ret [.bool (true)]
theorem fL_eqRestS (x0 : SlV) (x1 : SlV) : fits Tryz.prog aL_eqRestS 28 [Sc.val .l (x0), Sc.val .l (x1)] (tL_eqRestS x0 x1) :=
  ⟨Tryz.f28, Tryz.f28.body.getD .skip, by kernel_rfl, by kernel_rfl, by kernel_rfl, by kernel_rfl, by kernel_rfl, by kernel_rfl⟩
/-! loop.example/g00793/laws.eqRates -/
def aL_eqRates : An := ⟨[], [], []⟩
noncomputable def tL_eqRates (x0 : ByteArray × SlV × PUnit) (x1 : ByteArray × SlV × PUnit) : T :=
  .br (!ByteArray.toList x0.fst == ByteArray.toList x1.fst) (
    .ret [.bool (false)]) <|
  .call false 65 [Sc.val .l (x0.2.1), Sc.val .l (x1.2.1)] (.v (.o (.b))) fun y1 =>
  .br (!y1) (
    .ret [.bool (false)]) <|
  .ret [.bool (true)]
theorem fL_eqRates (x0 : ByteArray × SlV × PUnit) (x1 : ByteArray × SlV × PUnit) : fits Tryz.prog aL_eqRates 29 [Sh1.val (.g [.s, .l]) (x0), Sh1.val (.g [.s, .l]) (x1)] (tL_eqRates x0 x1) :=
  ⟨Tryz.f29, Tryz.f29.body.getD .skip, by kernel_rfl, by kernel_rfl, by kernel_rfl, by kernel_rfl, by kernel_rfl, by kernel_rfl⟩
/-! loop.example/g00793/laws.markBook -/
def aL_markBook : An := ⟨[], [], []⟩
noncomputable def tL_markBook (x0 : SlV × PUnit) (x1 : Int) : T :=
  .call false 66 [Sc.val .l (x0.1), .int .i64 (x1)] (.v (.o (.i .i64))) fun y1 =>
  .ret [.int .i64 (y1)]
theorem fL_markBook (x0 : SlV × PUnit) (x1 : Int) : fits Tryz.prog aL_markBook 30 [Sh1.val (.g [.l]) (x0), .int .i64 (x1)] (tL_markBook x0 x1) :=
  ⟨Tryz.f30, Tryz.f30.body.getD .skip, by kernel_rfl, by kernel_rfl, by kernel_rfl, by kernel_rfl, by kernel_rfl, by kernel_rfl⟩
/-! loop.example/g00793/laws.markRestS -/
def aL_markRestS : An := ⟨[(2, [.s 1, .s 5], [.o (.o (.i .i64)), .o (.o (.i .i64))])], [], []⟩
noncomputable def tL_markRestS (x0 : SlV) (x1 : Int) : T :=
  .lp [.o (.o (.i .i64)), .o (.o (.i .i64))] [.v (.int .i64 (x1)), .v (.int .i64 ((0 : Int)))] fun y1 =>
  .br (decide (y1.2.fst < (↑x0.n : Int))) (
    .call false 33 [.int .i64 (y1.fst)] (.v (.o (.s))) fun y2 =>
    .el (x0.a) (x0.n) (y1.2.fst) fun y3 =>
    .st ((y3.add (Int.toNat y1.2.fst * (4 : Nat))).add (0 : Nat)) [.string (y2)] <|
    .rq ((3 : Int) ≠ (0 : Int)) <|
    .el (x0.a) (x0.n) (y1.2.fst) fun y4 =>
    .st ((((y4.add (Int.toNat y1.2.fst * (4 : Nat))).add (1 : Nat)).add (0 : Nat)).add (0 : Nat)) [.bool ((Go.IntKind.i64.wrap (y1.fst + (1 : Int))).tmod (3 : Int) == (0 : Int))] <|
    .el (x0.a) (x0.n) (y1.2.fst) fun y5 =>
    .ld false ((((y5.add (Int.toNat y1.2.fst * (4 : Nat))).add (1 : Nat)).add (0 : Nat)).add (1 : Nat)) (.o (.l)) fun y6 =>
    .call false 67 [Sc.val .l (y6), .int .i64 (Go.IntKind.i64.wrap (Go.IntKind.i64.wrap (y1.fst + (1 : Int)) + (1 : Int)))] (.v (.o (.i .i64))) fun y7 =>
    .el (x0.a) (x0.n) (y1.2.fst) fun y8 =>
    .ld false (((y8.add (Int.toNat y1.2.fst * (4 : Nat))).add (1 : Nat)).add (2 : Nat)) (.o (.l)) fun y9 =>
    .call false 67 [Sc.val .l (y9), .int .i64 (y7)] (.v (.o (.i .i64))) fun y10 =>
    .nx 0 [.v (.int .i64 (y10)), .v (.int .i64 (Go.IntKind.i64.wrap (y1.2.fst + (1 : Int))))]) <|
  .ret [.int .i64 (y1.fst)]
theorem fL_markRestS (x0 : SlV) (x1 : Int) : fits Tryz.prog aL_markRestS 31 [Sc.val .l (x0), .int .i64 (x1)] (tL_markRestS x0 x1) :=
  ⟨Tryz.f31, Tryz.f31.body.getD .skip, by kernel_rfl, by kernel_rfl, by kernel_rfl, by kernel_rfl, by kernel_rfl, by kernel_rfl⟩
/-! loop.example/g00793/laws.markRates -/
def aL_markRates : An := ⟨[], [], []⟩
noncomputable def tL_markRates (x0 : ByteArray × SlV × PUnit) (x1 : Int) : T :=
  .call false 68 [Sc.val .l (x0.2.1), .int .i64 (x1)] (.v (.o (.i .i64))) fun y1 =>
  .ret [.int .i64 (y1)]
theorem fL_markRates (x0 : ByteArray × SlV × PUnit) (x1 : Int) : fits Tryz.prog aL_markRates 32 [Sh1.val (.g [.s, .l]) (x0), .int .i64 (x1)] (tL_markRates x0 x1) :=
  ⟨Tryz.f32, Tryz.f32.body.getD .skip, by kernel_rfl, by kernel_rfl, by kernel_rfl, by kernel_rfl, by kernel_rfl, by kernel_rfl⟩
/-! loop.example/g00793/laws.markText -/
def aL_markText : An := ⟨[(4, [.s 0, .s 3], [.o (.o (.i .i64)), .o (.o (.s))])], [], []⟩
noncomputable def tL_markText (x0 : Int) : T :=
  .br (decide (x0 ≤ (0 : Int))) (
    .ret [.string ({ data := { toList := [(109 : UInt8), (48 : UInt8)] : Array UInt8 } : ByteArray })]) <|
  .lp [.o (.o (.i .i64)), .o (.o (.s))] [.v (.int .i64 (x0)), .v (.string ({ data := { toList := [] : Array UInt8 } : ByteArray }))] fun y1 =>
  .br (decide (y1.fst > (0 : Int))) (
    .rq ((10 : Int) ≠ (0 : Int)) <|
    .fz ((1 : Nat)) [.int .u8 (Go.IntKind.u8.wrap (Go.IntKind.i64.wrap ((48 : Int) + Int.tmod y1.fst (10 : Int))))] 5 fun b2 c2 =>
    .rd ({ a := some { block := b2, off := (0 : Nat) : Go.Addr }, n := (1 : Nat), c := c2 : SlV }) ((1 : Nat)) fun y3 =>
    .rq (bytesOf y3 ≠ none) <|
    .rq ((bytesD y3).size + ByteArray.size y1.2.fst ≤ (9223372036854775807 : Nat)) <|
    .rq ((10 : Int) ≠ (0 : Int)) <|
    .nx 0 [.v (.int .i64 (Go.IntKind.i64.wrap (Int.tdiv y1.fst (10 : Int)))), .v (.string (bytesD y3 ++ y1.2.fst))]) <|
  .rq ({ data := { toList := [(109 : UInt8)] : Array UInt8 } : ByteArray }.size + ByteArray.size y1.2.fst ≤ (9223372036854775807 : Nat)) <|
  .ret [.string ({ data := { toList := [(109 : UInt8)] : Array UInt8 } : ByteArray } ++ y1.2.fst)]
theorem fL_markText (x0 : Int) : fits Tryz.prog aL_markText 33 [.int .i64 (x0)] (tL_markText x0) :=
  ⟨Tryz.f33, Tryz.f33.body.getD .skip, by kernel_rfl, by kernel_rfl, by kernel_rfl, by kernel_rfl, by kernel_rfl, by kernel_rfl⟩
/-! loop.example/g00793/laws.szAcctS -/
def aL_szAcctS : An := ⟨[(5, [.s 1, .s 5], [.o (.o (.i .i64)), .o (.o (.i .i64))])], [], []⟩
noncomputable def tL_szAcctS (x0 : SlV) (x1 : Int) : T :=
  .br (decide (Go.IntKind.i64.wrap (x1 - (↑x0.n : Int)) < (0 : Int))) (
    .ret [.int .i64 ((-1 : Int))]) <|
  .lp [.o (.o (.i .i64)), .o (.o (.i .i64))] [.v (.int .i64 (Go.IntKind.i64.wrap (x1 - (↑x0.n : Int)))), .v (.int .i64 ((0 : Int)))] fun y1 =>
  .br (decide (y1.2.fst < (↑x0.n : Int))) (
    .el (x0.a) (x0.n) (y1.2.fst) fun y2 =>
    .ld false (y2.add (Int.toNat y1.2.fst * (4 : Nat))) (.g [.s, .s, .b, .l]) fun y3 =>
    .call false 69 [Sh1.val (.g [.s, .s, .b, .l]) (y3), .int .i64 (y1.fst)] (.v (.o (.i .i64))) fun y4 =>
    .br (decide (y4 < (0 : Int))) (
      .ret [.int .i64 ((-1 : Int))]) <|
    .nx 0 [.v (.int .i64 (y4)), .v (.int .i64 (Go.IntKind.i64.wrap (y1.2.fst + (1 : Int))))]) <|
  .ret [.int .i64 (y1.fst)]
theorem fL_szAcctS (x0 : SlV) (x1 : Int) : fits Tryz.prog aL_szAcctS 34 [Sc.val .l (x0), .int .i64 (x1)] (tL_szAcctS x0 x1) :=
  ⟨Tryz.f34, Tryz.f34.body.getD .skip, by kernel_rfl, by kernel_rfl, by kernel_rfl, by kernel_rfl, by kernel_rfl, by kernel_rfl⟩
/-! loop.example/g00793/laws.szRest -/
def aL_szRest : An := ⟨[], [], []⟩
noncomputable def tL_szRest (x0 : ByteArray × Bool × SlV × SlV × PUnit) (x1 : Int) : T :=
  .br (decide (Go.IntKind.i64.wrap (x1 - (↑(ByteArray.size x0.fst) : Int)) < (0 : Int))) (
    .ret [.int .i64 ((-1 : Int))]) <|
  .call false 70 [Sh1.val (.g [.b, .l, .l]) (x0.2), .int .i64 (Go.IntKind.i64.wrap (x1 - (↑(ByteArray.size x0.fst) : Int)))] (.v (.o (.i .i64))) fun y1 =>
  .br (decide (y1 < (0 : Int))) (
    .ret [.int .i64 ((-1 : Int))]) <|
  .ret [.int .i64 (y1)]
theorem fL_szRest (x0 : ByteArray × Bool × SlV × SlV × PUnit) (x1 : Int) : fits Tryz.prog aL_szRest 35 [Sh1.val (.g [.s, .b, .l, .l]) (x0), .int .i64 (x1)] (tL_szRest x0 x1) :=
  ⟨Tryz.f35, Tryz.f35.body.getD .skip, by kernel_rfl, by kernel_rfl, by kernel_rfl, by kernel_rfl, by kernel_rfl, by kernel_rfl⟩
/-! loop.example/g00793/laws.szRateS -/
def aL_szRateS : An := ⟨[(5, [.s 1, .s 5], [.o (.o (.i .i64)), .o (.o (.i .i64))])], [], []⟩
noncomputable def tL_szRateS (x0 : SlV) (x1 : Int) : T :=
  .br (decide (Go.IntKind.i64.wrap (x1 - (↑x0.n : Int)) < (0 : Int))) (
    .ret [.int .i64 ((-1 : Int))]) <|
  .lp [.o (.o (.i .i64)), .o (.o (.i .i64))] [.v (.int .i64 (Go.IntKind.i64.wrap (x1 - (↑x0.n : Int)))), .v (.int .i64 ((0 : Int)))] fun y1 =>
  .br (decide (y1.2.fst < (↑x0.n : Int))) (
    .el (x0.a) (x0.n) (y1.2.fst) fun y2 =>
    .ld false (y2.add (Int.toNat y1.2.fst * (5 : Nat))) (.g [.s, .s, .b, .l, .i .i64]) fun y3 =>
    .call false 71 [Sh1.val (.g [.s, .s, .b, .l, .i .i64]) (y3), .int .i64 (y1.fst)] (.v (.o (.i .i64))) fun y4 =>
    .br (decide (y4 < (0 : Int))) (
      .ret [.int .i64 ((-1 : Int))]) <|
    .nx 0 [.v (.int .i64 (y4)), .v (.int .i64 (Go.IntKind.i64.wrap (y1.2.fst + (1 : Int))))]) <|
  .ret [.int .i64 (y1.fst)]
theorem fL_szRateS (x0 : SlV) (x1 : Int) : fits Tryz.prog aL_szRateS 36 [Sc.val .l (x0), .int .i64 (x1)] (tL_szRateS x0 x1) :=
  ⟨Tryz.f36, Tryz.f36.body.getD .skip, by kernel_rfl, by kernel_rfl, by kernel_rfl, by kernel_rfl, by kernel_rfl, by kernel_rfl⟩
/-! loop.example/g00793/spec.BookOk -/
def aS_BookOk : An := ⟨[(2, [.s 8], [.o (.o (.i .i64))])], [], []⟩
noncomputable def tS_BookOk (x0 : SlV × PUnit) : T :=
  .lp [.o (.o (.i .i64))] [.v (.int .i64 ((0 : Int)))] fun y1 =>
  .br (decide (y1.fst < (↑x0.1.n : Int))) (
    .el (x0.1.a) (x0.1.n) (y1.fst) fun y2 =>
    .ld false (y2.add (Int.toNat y1.fst * (4 : Nat))) (.g [.s, .s, .b, .l]) fun y3 =>
    .rg <|
    .call true 72 [.string (y3.fst)] (.v (.o (.b))) fun y4 =>
    .br (!y4) (
      .ret [.bool (false)]) <|
    .call true 73 [Sh1.val (.g [.s, .b, .l]) (y3.2)] (.v (.o (.b))) fun y5 =>
    .br (!y5) (
      .ret [.bool (false)]) <|
    .br (decide (y1.fst > (0 : Int))) (
      .el (x0.1.a) (x0.1.n) (Go.IntKind.i64.wrap (y1.fst - (1 : Int))) fun y6 =>
      .ld true ((y6.add ((Go.IntKind.i64.wrap (y1.fst - (1 : Int))).toNat * (4 : Nat))).add (0 : Nat)) (.o (.s)) fun y7 =>
      .br (!Go.Op.bytesLess y7.toList (ByteArray.toList y3.fst)) (
        .ret [.bool (false)]) <|
      .nx 0 [.v (.int .i64 (Go.IntKind.i64.wrap (y1.fst + (1 : Int))))]) <|
    .nx 0 [.v (.int .i64 (Go.IntKind.i64.wrap (y1.fst + (1 : Int))))]) <|
  .ret [.bool (decide ((↑x0.1.n : Int) ≤ (12 : Int)))]
theorem fS_BookOk (x0 : SlV × PUnit) : fits Tryz.prog aS_BookOk 37 [Sh1.val (.g [.l]) (x0)] (tS_BookOk x0) :=
  ⟨Tryz.f37, Tryz.f37.body.getD .skip, by kernel_rfl, by kernel_rfl, by kernel_rfl, by kernel_rfl, by kernel_rfl, by kernel_rfl⟩
/-! loop.example/g00793/spec.RestsOk -/
def aS_RestsOk : An := ⟨[(2, [.s 7], [.o (.o (.i .i64))])], [], []⟩
noncomputable def tS_RestsOk (x0 : SlV) : T :=
  .lp [.o (.o (.i .i64))] [.v (.int .i64 ((0 : Int)))] fun y1 =>
  .br (decide (y1.fst < (↑x0.n : Int))) (
    .el (x0.a) (x0.n) (y1.fst) fun y2 =>
    .ld false (y2.add (Int.toNat y1.fst * (4 : Nat))) (.g [.s, .b, .l, .l]) fun y3 =>
    .rg <|
    .call true 74 [.string (y3.fst)] (.v (.o (.b))) fun y4 =>
    .br (!y4) (
      .ret [.bool (false)]) <|
    .call true 75 [Sh1.val (.g [.b, .l, .l]) (y3.2)] (.v (.o (.b))) fun y5 =>
    .br (!y5) (
      .ret [.bool (false)]) <|
    .call true 76 [Sh1.val (.g [.b, .l, .l]) (y3.2)] (.v (.o (.i .i64))) fun y6 =>
    .br (y6 == (0 : Int)) (
      .ret [.bool (false)]) <|
    .br (decide (y1.fst > (0 : Int))) (
      .el (x0.a) (x0.n) (Go.IntKind.i64.wrap (y1.fst - (1 : Int))) fun y7 =>
      .ld true ((y7.add ((Go.IntKind.i64.wrap (y1.fst - (1 : Int))).toNat * (4 : Nat))).add (0 : Nat)) (.o (.s)) fun y8 =>
      .br (!Go.Op.bytesLess y8.toList (ByteArray.toList y3.fst)) (
        .ret [.bool (false)]) <|
      .nx 0 [.v (.int .i64 (Go.IntKind.i64.wrap (y1.fst + (1 : Int))))]) <|
    .nx 0 [.v (.int .i64 (Go.IntKind.i64.wrap (y1.fst + (1 : Int))))]) <|
  .ret [.bool (true)]
theorem fS_RestsOk (x0 : SlV) : fits Tryz.prog aS_RestsOk 38 [Sc.val .l (x0)] (tS_RestsOk x0) :=
  ⟨Tryz.f38, Tryz.f38.body.getD .skip, by kernel_rfl, by kernel_rfl, by kernel_rfl, by kernel_rfl, by kernel_rfl, by kernel_rfl⟩
/-! loop.example/g00793/spec.RatesOk -/
def aS_RatesOk : An := ⟨[(4, [.s 18], [.o (.o (.i .i64))])], [], []⟩
noncomputable def tS_RatesOk (x0 : ByteArray × SlV × PUnit) : T :=
  .call false 74 [.string (x0.fst)] (.v (.o (.b))) fun y1 =>
  .br (!y1) (
    .ret [.bool (false)]) <|
  .br (decide ((↑x0.2.1.n : Int) > (12 : Int))) (
    .ret [.bool (false)]) <|
  .lp [.o (.o (.i .i64))] [.v (.int .i64 ((0 : Int)))] fun y2 =>
  .br (decide (y2.fst < (↑x0.2.1.n : Int))) (
    .el (x0.2.1.a) (x0.2.1.n) (y2.fst) fun y3 =>
    .ld false (y3.add (Int.toNat y2.fst * (5 : Nat))) (.g [.s, .s, .b, .l, .i .i64]) fun y4 =>
    .call false 77 [Sh1.val (.g [.s, .s, .b, .l, .i .i64]) (y4)] (.v (.o (.b))) fun y5 =>
    .br (!y5) (
      .ret [.bool (false)]) <|
    .call false 78 [Sc.val .l (x0.2.1), .string (y4.fst), .string (y4.2.fst)] (.v (.o (.i .i64))) fun y6 =>
    .br (y6 != y2.fst) (
      .ret [.bool (false)]) <|
    .nx 0 [.v (.int .i64 (Go.IntKind.i64.wrap (y2.fst + (1 : Int))))]) <|
  .ret [.bool (true)]
theorem fS_RatesOk (x0 : ByteArray × SlV × PUnit) : fits Tryz.prog aS_RatesOk 39 [Sh1.val (.g [.s, .l]) (x0)] (tS_RatesOk x0) :=
  ⟨Tryz.f39, Tryz.f39.body.getD .skip, by kernel_rfl, by kernel_rfl, by kernel_rfl, by kernel_rfl, by kernel_rfl, by kernel_rfl⟩
/-! loop.example/g00793/spec.CmdOk -/
def aS_CmdOk : An := ⟨[], [(4, [], []), (6, [], []), (8, [], []), (10, [], []), (12, [], []), (14, [], []), (16, [], []), (18, [], [])], []⟩
noncomputable def tS_CmdOk (x0 : Int × ByteArray × ByteArray × ByteArray × ByteArray × ByteArray × Bool × SlV × Int × SlV × SlV × Bool × SlV × Int × ByteArray × ByteArray × Bool × SlV × Int × PUnit) : T :=
  .call false 41 [.int .i64 (x0.fst)] (.t [(.o (.b)), (.o (.b)), (.o (.b)), (.o (.b))]) fun y1 =>
  .jn [] (fun _ =>
    .jn [] (fun _ =>
      .jn [] (fun _ =>
        .jn [] (fun _ =>
          .jn [] (fun _ =>
            .jn [] (fun _ =>
              .jn [] (fun _ =>
                .jn [] (fun _ =>
                  .br (ByteArray.toList x0.2.2.2.2.2.2.2.2.2.2.2.2.2.2.fst == { data := { toList := [] : Array UInt8 } : ByteArray }.toList) (
                    .br (ByteArray.toList x0.2.2.2.2.2.2.2.2.2.2.2.2.2.2.2.fst == { data := { toList := [] : Array UInt8 } : ByteArray }.toList) (
                      .call false 87 [Sh1.val (.g [.b, .l, .i .i64]) (x0.2.2.2.2.2.2.2.2.2.2.2.2.2.2.2.2)] (.v (.o (.b))) fun y10 =>
                      .ret [.bool (y10)]) <|
                    .ret [.bool (false)]) <|
                  .ret [.bool (false)]) <|
                .br (x0.fst == (9 : Int)) (
                  .call false 77 [Sh1.val (.g [.s, .s, .b, .l, .i .i64]) (x0.2.2.2.2.2.2.2.2.2.2.2.2.2.2)] (.v (.o (.b))) fun y9 =>
                  .ret [.bool (y9)]) <|
                .nx 7 []) <|
              .rg <|
              .br (y1.2.fst) (
                .call true 84 [Sh1.val (.g [.b, .l, .i .i64]) ((x0.2.2.2.2.2.2.2.2.2.2.2.fst), x0.2.2.2.2.2.2.2.2.2.2.2.2.1, ((x0.2.2.2.2.2.2.2.2.2.2.2.2.2.fst) : Int), ())] (.v (.o (.b))) fun y8 =>
                .br (!y8) (
                  .ret [.bool (false)]) <|
                .call true 86 [Sh1.val (.g [.b, .l, .i .i64]) ((x0.2.2.2.2.2.2.2.2.2.2.2.fst), x0.2.2.2.2.2.2.2.2.2.2.2.2.1, ((x0.2.2.2.2.2.2.2.2.2.2.2.2.2.fst) : Int), ())] (.v (.g [.b, .l, .i .i64])) fun y9 =>
                .call true 85 [Sh1.val (.g [.b, .l, .i .i64]) (y9)] (.v (.o (.s))) fun y10 =>
                .call true 85 [Sh1.val (.g [.b, .l, .i .i64]) ((x0.2.2.2.2.2.2.2.2.2.2.2.fst), x0.2.2.2.2.2.2.2.2.2.2.2.2.1, ((x0.2.2.2.2.2.2.2.2.2.2.2.2.2.fst) : Int), ())] (.v (.o (.s))) fun y11 =>
                .br (!y10.toList == y11.toList) (
                  .ret [.bool (false)]) <|
                .br (!y1.2.fst) (
                  .call true 87 [Sh1.val (.g [.b, .l, .i .i64]) ((x0.2.2.2.2.2.2.2.2.2.2.2.fst), x0.2.2.2.2.2.2.2.2.2.2.2.2.1, ((x0.2.2.2.2.2.2.2.2.2.2.2.2.2.fst) : Int), ())] (.v (.o (.b))) fun y12 =>
                  .br (!y12) (
                    .ret [.bool (false)]) <|
                  .nx 6 []) <|
                .nx 6 []) <|
              .br (!y1.2.fst) (
                .call true 87 [Sh1.val (.g [.b, .l, .i .i64]) ((x0.2.2.2.2.2.2.2.2.2.2.2.fst), x0.2.2.2.2.2.2.2.2.2.2.2.2.1, ((x0.2.2.2.2.2.2.2.2.2.2.2.2.2.fst) : Int), ())] (.v (.o (.b))) fun y8 =>
                .br (!y8) (
                  .ret [.bool (false)]) <|
                .nx 6 []) <|
              .nx 6 []) <|
            .br (x0.fst == (6 : Int)) (
              .call false 83 [Sc.val .l (x0.2.2.2.2.2.2.2.2.2.1), Sc.val .l (x0.2.2.2.2.2.2.2.2.2.2.1)] (.v (.o (.b))) fun y7 =>
              .br (!y7) (
                .ret [.bool (false)]) <|
              .br (x0.fst != (6 : Int)) (
                .br (decide (Go.IntKind.i64.wrap ((↑x0.2.2.2.2.2.2.2.2.2.1.n : Int) + (↑x0.2.2.2.2.2.2.2.2.2.2.1.n : Int)) > (0 : Int))) (
                  .ret [.bool (false)]) <|
                .nx 5 []) <|
              .nx 5 []) <|
            .br (x0.fst != (6 : Int)) (
              .br (decide (Go.IntKind.i64.wrap ((↑x0.2.2.2.2.2.2.2.2.2.1.n : Int) + (↑x0.2.2.2.2.2.2.2.2.2.2.1.n : Int)) > (0 : Int))) (
                .ret [.bool (false)]) <|
              .nx 5 []) <|
            .nx 5 []) <|
          .br (y1.2.2.2.fst) (
            .call false 82 [.int .i64 (x0.2.2.2.2.2.2.2.2.fst)] (.v (.o (.b))) fun y6 =>
            .br (!y6) (
              .ret [.bool (false)]) <|
            .br (!y1.2.2.2.fst) (
              .br (x0.2.2.2.2.2.2.2.2.fst != (0 : Int)) (
                .ret [.bool (false)]) <|
              .nx 4 []) <|
            .nx 4 []) <|
          .br (!y1.2.2.2.fst) (
            .br (x0.2.2.2.2.2.2.2.2.fst != (0 : Int)) (
              .ret [.bool (false)]) <|
            .nx 4 []) <|
          .nx 4 []) <|
        .br (y1.2.2.fst) (
          .call false 81 [Sh1.val (.g [.s, .b, .l]) ((x0.2.2.2.2.2.fst), (x0.2.2.2.2.2.2.fst), x0.2.2.2.2.2.2.2.1, ())] (.v (.o (.b))) fun y5 =>
          .br (!y5) (
            .ret [.bool (false)]) <|
          .br (!y1.2.2.fst) (
            .br (!ByteArray.toList x0.2.2.2.2.2.fst == { data := { toList := [] : Array UInt8 } : ByteArray }.toList) (
              .ret [.bool (false)]) <|
            .br (x0.2.2.2.2.2.2.fst) (
              .ret [.bool (false)]) <|
            .br (decide ((↑x0.2.2.2.2.2.2.2.1.n : Int) > (0 : Int))) (
              .ret [.bool (false)]) <|
            .nx 3 []) <|
          .nx 3 []) <|
        .br (!y1.2.2.fst) (
          .br (!ByteArray.toList x0.2.2.2.2.2.fst == { data := { toList := [] : Array UInt8 } : ByteArray }.toList) (
            .ret [.bool (false)]) <|
          .br (x0.2.2.2.2.2.2.fst) (
            .ret [.bool (false)]) <|
          .br (decide ((↑x0.2.2.2.2.2.2.2.1.n : Int) > (0 : Int))) (
            .ret [.bool (false)]) <|
          .nx 3 []) <|
        .nx 3 []) <|
      .rg <|
      .call true 80 [.string (x0.2.2.2.2.fst)] (.v (.o (.b))) fun y4 =>
      .br (!(x0.fst == (1 : Int)) == y4) (
        .ret [.bool (false)]) <|
      .br (x0.fst != (1 : Int)) (
        .br (!ByteArray.toList x0.2.2.2.2.fst == { data := { toList := [] : Array UInt8 } : ByteArray }.toList) (
          .ret [.bool (false)]) <|
        .nx 2 []) <|
      .nx 2 []) <|
    .call false 72 [.string (x0.2.2.fst)] (.v (.o (.b))) fun y3 =>
    .br (!y1.fst == y3) (
      .ret [.bool (false)]) <|
    .br (!y1.fst) (
      .br (!ByteArray.toList x0.2.2.fst == { data := { toList := [] : Array UInt8 } : ByteArray }.toList) (
        .ret [.bool (false)]) <|
      .call false 72 [.string (x0.2.2.2.fst)] (.v (.o (.b))) fun y4 =>
      .br (!y1.2.fst == y4) (
        .ret [.bool (false)]) <|
      .br (!y1.2.fst) (
        .br (!ByteArray.toList x0.2.2.2.fst == { data := { toList := [] : Array UInt8 } : ByteArray }.toList) (
          .ret [.bool (false)]) <|
        .nx 1 []) <|
      .nx 1 []) <|
    .call false 72 [.string (x0.2.2.2.fst)] (.v (.o (.b))) fun y4 =>
    .br (!y1.2.fst == y4) (
      .ret [.bool (false)]) <|
    .br (!y1.2.fst) (
      .br (!ByteArray.toList x0.2.2.2.fst == { data := { toList := [] : Array UInt8 } : ByteArray }.toList) (
        .ret [.bool (false)]) <|
      .nx 1 []) <|
    .nx 1 []) <|
  .rg <|
  .call true 79 [.int .i64 (x0.fst)] (.v (.o (.b))) fun y2 =>
  .br (!y2) (
    .ret [.bool (false)]) <|
  .call true 72 [.string (x0.2.fst)] (.v (.o (.b))) fun y3 =>
  .br ((x0.fst == (9 : Int)) == y3) (
    .ret [.bool (false)]) <|
  .br (x0.fst == (9 : Int)) (
    .br (!ByteArray.toList x0.2.fst == { data := { toList := [] : Array UInt8 } : ByteArray }.toList) (
      .ret [.bool (false)]) <|
    .nx 0 []) <|
  .nx 0 []
theorem fS_CmdOk (x0 : Int × ByteArray × ByteArray × ByteArray × ByteArray × ByteArray × Bool × SlV × Int × SlV × SlV × Bool × SlV × Int × ByteArray × ByteArray × Bool × SlV × Int × PUnit) : fits Tryz.prog aS_CmdOk 40 [Sh1.val (.g [.i .i64, .s, .s, .s, .s, .s, .b, .l, .i .i64, .l, .l, .b, .l, .i .i64, .s, .s, .b, .l, .i .i64]) (x0)] (tS_CmdOk x0) :=
  ⟨Tryz.f40, Tryz.f40.body.getD .skip, by kernel_rfl, by kernel_rfl, by kernel_rfl, by kernel_rfl, by kernel_rfl, by kernel_rfl⟩
/-! loop.example/g00793/spec.l22Has -/
def aS_l22Has : An := ⟨[], [], []⟩
noncomputable def tS_l22Has (x0 : Int) : T :=
  .br (x0 == (4 : Int)) (
    .call false 88 [.int .i64 (x0), .int .i64 ((2 : Int)), .int .i64 ((7 : Int))] (.v (.o (.b))) fun y1 =>
    .br (x0 == (5 : Int)) (
      .ret [.bool (true), .bool (x0 == (7 : Int)), .bool (y1), .bool (true)]) <|
    .br (x0 == (7 : Int)) (
      .ret [.bool (true), .bool (x0 == (7 : Int)), .bool (y1), .bool (true)]) <|
    .ret [.bool (true), .bool (x0 == (7 : Int)), .bool (y1), .bool (x0 == (8 : Int))]) <|
  .br (x0 == (5 : Int)) (
    .call false 88 [.int .i64 (x0), .int .i64 ((2 : Int)), .int .i64 ((7 : Int))] (.v (.o (.b))) fun y1 =>
    .br (x0 == (5 : Int)) (
      .ret [.bool (true), .bool (x0 == (7 : Int)), .bool (y1), .bool (true)]) <|
    .br (x0 == (7 : Int)) (
      .ret [.bool (true), .bool (x0 == (7 : Int)), .bool (y1), .bool (true)]) <|
    .ret [.bool (true), .bool (x0 == (7 : Int)), .bool (y1), .bool (x0 == (8 : Int))]) <|
  .call false 88 [.int .i64 (x0), .int .i64 ((2 : Int)), .int .i64 ((7 : Int))] (.v (.o (.b))) fun y1 =>
  .br (x0 == (5 : Int)) (
    .ret [.bool (x0 == (7 : Int)), .bool (x0 == (7 : Int)), .bool (y1), .bool (true)]) <|
  .br (x0 == (7 : Int)) (
    .ret [.bool (x0 == (7 : Int)), .bool (x0 == (7 : Int)), .bool (y1), .bool (true)]) <|
  .ret [.bool (x0 == (7 : Int)), .bool (x0 == (7 : Int)), .bool (y1), .bool (x0 == (8 : Int))]
theorem fS_l22Has (x0 : Int) : fits Tryz.prog aS_l22Has 41 [.int .i64 (x0)] (tS_l22Has x0) :=
  ⟨Tryz.f41, Tryz.f41.body.getD .skip, by kernel_rfl, by kernel_rfl, by kernel_rfl, by kernel_rfl, by kernel_rfl, by kernel_rfl⟩
/-! loop.example/g00793/spec.OpName -/
def aS_OpName : An := ⟨[], [], []⟩
noncomputable def tS_OpName (x0 : Int) : T :=
  .call false 79 [.int .i64 (x0)] (.v (.o (.b))) fun y1 =>
  .br (!y1) (
    .ret [.string ({ data := { toList := [] : Array UInt8 } : ByteArray })]) <|
  .rq ((0 : Int) ≤ x0 ∧ x0 < (↑(10 : Nat) : Int)) <|
  .xs [.string ({ data := { toList := [] : Array UInt8 } : ByteArray }), .string ({ data := { toList := [(111 : UInt8), (112 : UInt8), (101 : UInt8), (110 : UInt8)] : Array UInt8 } : ByteArray }), .string ({ data := { toList := [(112 : UInt8), (117 : UInt8), (116 : UInt8)] : Array UInt8 } : ByteArray }), .string ({ data := { toList := [(116 : UInt8), (97 : UInt8), (107 : UInt8), (101 : UInt8)] : Array UInt8 } : ByteArray }), .string ({ data := { toList := [(109 : UInt8), (111 : UInt8), (118 : UInt8), (101 : UInt8)] : Array UInt8 } : ByteArray }), .string ({ data := { toList := [(115 : UInt8), (119 : UInt8), (97 : UInt8), (112 : UInt8)] : Array UInt8 } : ByteArray }), .string ({ data := { toList := [(100 : UInt8), (101 : UInt8), (97 : UInt8), (108 : UInt8)] : Array UInt8 } : ByteArray }), .string ({ data := { toList := [(116 : UInt8), (97 : UInt8), (120 : UInt8)] : Array UInt8 } : ByteArray }), .string ({ data := { toList := [(99 : UInt8), (97 : UInt8), (115 : UInt8), (104 : UInt8)] : Array UInt8 } : ByteArray }), .string ({ data := { toList := [(114 : UInt8), (97 : UInt8), (116 : UInt8), (101 : UInt8)] : Array UInt8 } : ByteArray })] (x0.toNat * (1 : Nat)) (.o (.s)) fun y2 =>
  .ret [.string (y2)]
theorem fS_OpName (x0 : Int) : fits Tryz.prog aS_OpName 42 [.int .i64 (x0)] (tS_OpName x0) :=
  ⟨Tryz.f42, Tryz.f42.body.getD .skip, by kernel_rfl, by kernel_rfl, by kernel_rfl, by kernel_rfl, by kernel_rfl, by kernel_rfl⟩
/-! loop.example/g00793/spec.RateText -/
def aS_RateText : An := ⟨[], [], []⟩
noncomputable def tS_RateText (x0 : ByteArray × ByteArray × Bool × SlV × Int × PUnit) : T :=
  .call false 77 [Sh1.val (.g [.s, .s, .b, .l, .i .i64]) (x0)] (.v (.o (.b))) fun y1 =>
  .br (!y1) (
    .ret [.string ({ data := { toList := [] : Array UInt8 } : ByteArray })]) <|
  .rg <|
  .rq (ByteArray.size x0.fst + { data := { toList := [(32 : UInt8)] : Array UInt8 } : ByteArray }.size ≤ (9223372036854775807 : Nat)) <|
  .rq ((x0.fst ++ { data := { toList := [(32 : UInt8)] : Array UInt8 } : ByteArray }).size + ByteArray.size x0.2.fst ≤ (9223372036854775807 : Nat)) <|
  .rq ((x0.fst ++ { data := { toList := [(32 : UInt8)] : Array UInt8 } : ByteArray } ++ x0.2.fst).size + { data := { toList := [(32 : UInt8)] : Array UInt8 } : ByteArray }.size ≤ (9223372036854775807 : Nat)) <|
  .call true 85 [Sh1.val (.g [.b, .l, .i .i64]) (x0.2.2)] (.v (.o (.s))) fun y2 =>
  .rq ((x0.fst ++ { data := { toList := [(32 : UInt8)] : Array UInt8 } : ByteArray } ++ x0.2.fst ++ { data := { toList := [(32 : UInt8)] : Array UInt8 } : ByteArray }).size + y2.size ≤ (9223372036854775807 : Nat)) <|
  .ret [.string (x0.fst ++ { data := { toList := [(32 : UInt8)] : Array UInt8 } : ByteArray } ++ x0.2.fst ++ { data := { toList := [(32 : UInt8)] : Array UInt8 } : ByteArray } ++ y2)]
theorem fS_RateText (x0 : ByteArray × ByteArray × Bool × SlV × Int × PUnit) : fits Tryz.prog aS_RateText 43 [Sh1.val (.g [.s, .s, .b, .l, .i .i64]) (x0)] (tS_RateText x0) :=
  ⟨Tryz.f43, Tryz.f43.body.getD .skip, by kernel_rfl, by kernel_rfl, by kernel_rfl, by kernel_rfl, by kernel_rfl, by kernel_rfl⟩
/-! loop.example/g00793/spec.MoneyText -/
def aS_MoneyText : An := ⟨[], [], []⟩
noncomputable def tS_MoneyText (x0 : ByteArray × Bool × SlV × PUnit) : T :=
  .call false 73 [Sh1.val (.g [.s, .b, .l]) (x0)] (.v (.o (.b))) fun y1 =>
  .br (!y1) (
    .ret [.string ({ data := { toList := [] : Array UInt8 } : ByteArray })]) <|
  .rg <|
  .rq (ByteArray.size x0.fst + { data := { toList := [(32 : UInt8)] : Array UInt8 } : ByteArray }.size ≤ (9223372036854775807 : Nat)) <|
  .call true 89 [.string (x0.fst)] (.v (.o (.i .i64))) fun y2 =>
  .call true 85 [Sh1.val (.g [.b, .l, .i .i64]) ((x0.2.fst), x0.2.2.1, ((y2) : Int), ())] (.v (.o (.s))) fun y3 =>
  .rq ((x0.fst ++ { data := { toList := [(32 : UInt8)] : Array UInt8 } : ByteArray }).size + y3.size ≤ (9223372036854775807 : Nat)) <|
  .ret [.string (x0.fst ++ { data := { toList := [(32 : UInt8)] : Array UInt8 } : ByteArray } ++ y3)]
theorem fS_MoneyText (x0 : ByteArray × Bool × SlV × PUnit) : fits Tryz.prog aS_MoneyText 44 [Sh1.val (.g [.s, .b, .l]) (x0)] (tS_MoneyText x0) :=
  ⟨Tryz.f44, Tryz.f44.body.getD .skip, by kernel_rfl, by kernel_rfl, by kernel_rfl, by kernel_rfl, by kernel_rfl, by kernel_rfl⟩
/-! loop.example/g00793/spec.l22Deal -/
def aS_l22Deal : An := ⟨[(3, [.s 5, .s 11], [.a 9, .o (.o (.i .i64))])], [], []⟩
noncomputable def tS_l22Deal (x0 : SlV) (x1 : SlV) : T :=
  .lp [.a 9, .o (.o (.i .i64))] [.a 9 ((0 : Nat)) [], .v (.int .i64 ((0 : Int)))] fun y1 =>
  .br (decide (y1.2.fst < (↑x0.n : Int))) (
    .el (x0.a) (x0.n) (y1.2.fst) fun y2 =>
    .ld false (y2.add (Int.toNat y1.2.fst * (1 : Nat))) (.o (.s)) fun y3 =>
    .rq (y3.size + { data := { toList := [(58 : UInt8)] : Array UInt8 } : ByteArray }.size ≤ (9223372036854775807 : Nat)) <|
    .el (x1.a) (x1.n) (y1.2.fst) fun y4 =>
    .ld false (y4.add (Int.toNat y1.2.fst * (1 : Nat))) (.o (.i .i64)) fun y5 =>
    .call false 90 [.int .i64 (y5)] (.v (.o (.s))) fun y6 =>
    .rq ((y3 ++ { data := { toList := [(58 : UInt8)] : Array UInt8 } : ByteArray }).size + y6.size ≤ (9223372036854775807 : Nat)) <|
    .rq ([Go.Value.string (y3 ++ { data := { toList := [(58 : UInt8)] : Array UInt8 } : ByteArray } ++ y6)].length = (1 : Nat) * (1 : Nat)) <|
    .rq (one [Go.Value.string (y3 ++ { data := { toList := [(58 : UInt8)] : Array UInt8 } : ByteArray } ++ y6)] = true ∧ (y1.1.fst + (1 : Nat)) * (16 : Nat) ≤ (140737488355328 : Nat) ∧ y1.1.fst + (1 : Nat) ≤ (9223372036854775807 : Nat)) <|
    .nx 0 [.a 9 (y1.1.fst + (1 : Nat)) (y1.1.snd ++ [Go.Value.string (y3 ++ { data := { toList := [(58 : UInt8)] : Array UInt8 } : ByteArray } ++ y6)]), .v (.int .i64 (Go.IntKind.i64.wrap (y1.2.fst + (1 : Int))))]) <|
  .fz (y1.1.fst) (y1.1.snd) 9 fun b2 c2 =>
  .call false 48 [.slice (some { block := b2, off := (0 : Nat) : Go.Addr }) (y1.1.fst) (c2), .string ({ data := { toList := [(44 : UInt8)] : Array UInt8 } : ByteArray })] (.v (.o (.s))) fun y3 =>
  .ret [.string (y3)]
theorem fS_l22Deal (x0 : SlV) (x1 : SlV) : fits Tryz.prog aS_l22Deal 45 [Sc.val .l (x0), Sc.val .l (x1)] (tS_l22Deal x0 x1) :=
  ⟨Tryz.f45, Tryz.f45.body.getD .skip, by kernel_rfl, by kernel_rfl, by kernel_rfl, by kernel_rfl, by kernel_rfl, by kernel_rfl⟩
/-! loop.example/g00793/spec.Percent -/
def aS_Percent : An := ⟨[], [], []⟩
noncomputable def tS_Percent (x0 : Bool × SlV × Int × PUnit) : T :=
  .call false 84 [Sh1.val (.g [.b, .l, .i .i64]) (x0)] (.v (.o (.b))) fun y1 =>
  .br (!y1) (
    .ret [.string ({ data := { toList := [] : Array UInt8 } : ByteArray })]) <|
  .call false 86 [Sh1.val (.g [.b, .l, .i .i64]) (x0)] (.v (.g [.b, .l, .i .i64])) fun y2 =>
  .call false 92 [.int .i64 ((100 : Int))] (.v (.g [.b, .l])) fun y3 =>
  .call false 91 [Sh1.val (.g [.b, .l, .i .i64]) (y2), Sh1.val (.g [.b, .l, .i .i64]) ((y3.fst), y3.2.1, (((0 : Int)) : Int), ())] (.t [(.g [.b, .l, .i .i64]), (.o (.b))]) fun y4 =>
  .br (!y4.2.fst) (
    .ret [.string ({ data := { toList := [] : Array UInt8 } : ByteArray })]) <|
  .call false 86 [Sh1.val (.g [.b, .l, .i .i64]) (y4.1)] (.v (.g [.b, .l, .i .i64])) fun y5 =>
  .call false 85 [Sh1.val (.g [.b, .l, .i .i64]) (y5)] (.v (.o (.s))) fun y6 =>
  .rq (y6.size + { data := { toList := [(37 : UInt8)] : Array UInt8 } : ByteArray }.size ≤ (9223372036854775807 : Nat)) <|
  .ret [.string (y6 ++ { data := { toList := [(37 : UInt8)] : Array UInt8 } : ByteArray })]
theorem fS_Percent (x0 : Bool × SlV × Int × PUnit) : fits Tryz.prog aS_Percent 46 [Sh1.val (.g [.b, .l, .i .i64]) (x0)] (tS_Percent x0) :=
  ⟨Tryz.f46, Tryz.f46.body.getD .skip, by kernel_rfl, by kernel_rfl, by kernel_rfl, by kernel_rfl, by kernel_rfl, by kernel_rfl⟩
/-! loop.example/g00793/spec.RmName -/
def aS_RmName : An := ⟨[], [], []⟩
noncomputable def tS_RmName (x0 : Int) : T :=
  .call false 82 [.int .i64 (x0)] (.v (.o (.b))) fun y1 =>
  .br (!y1) (
    .ret [.string ({ data := { toList := [] : Array UInt8 } : ByteArray })]) <|
  .rq ((0 : Int) ≤ x0 ∧ x0 < (↑(7 : Nat) : Int)) <|
  .xs [.string ({ data := { toList := [(100 : UInt8), (111 : UInt8), (119 : UInt8), (110 : UInt8)] : Array UInt8 } : ByteArray }), .string ({ data := { toList := [(117 : UInt8), (112 : UInt8)] : Array UInt8 } : ByteArray }), .string ({ data := { toList := [(102 : UInt8), (108 : UInt8), (111 : UInt8), (111 : UInt8), (114 : UInt8)] : Array UInt8 } : ByteArray }), .string ({ data := { toList := [(99 : UInt8), (101 : UInt8), (105 : UInt8), (108 : UInt8)] : Array UInt8 } : ByteArray }), .string ({ data := { toList := [(104 : UInt8), (97 : UInt8), (108 : UInt8), (102 : UInt8), (100 : UInt8), (111 : UInt8), (119 : UInt8), (110 : UInt8)] : Array UInt8 } : ByteArray }), .string ({ data := { toList := [(104 : UInt8), (97 : UInt8), (108 : UInt8), (102 : UInt8), (117 : UInt8), (112 : UInt8)] : Array UInt8 } : ByteArray }), .string ({ data := { toList := [(104 : UInt8), (97 : UInt8), (108 : UInt8), (102 : UInt8), (101 : UInt8), (118 : UInt8), (101 : UInt8), (110 : UInt8)] : Array UInt8 } : ByteArray })] (x0.toNat * (1 : Nat)) (.o (.s)) fun y2 =>
  .ret [.string (y2)]
theorem fS_RmName (x0 : Int) : fits Tryz.prog aS_RmName 47 [.int .i64 (x0)] (tS_RmName x0) :=
  ⟨Tryz.f47, Tryz.f47.body.getD .skip, by kernel_rfl, by kernel_rfl, by kernel_rfl, by kernel_rfl, by kernel_rfl, by kernel_rfl⟩
/-! loop.example/g00793/spec.Join -/
def aS_Join : An := ⟨[(3, [.s 5, .s 10], [.o (.o (.s)), .o (.o (.i .i64))])], [], []⟩
noncomputable def tS_Join (x0 : SlV) (x1 : ByteArray) : T :=
  .lp [.o (.o (.s)), .o (.o (.i .i64))] [.v (.string ({ data := { toList := [] : Array UInt8 } : ByteArray })), .v (.int .i64 ((0 : Int)))] fun y1 =>
  .br (decide (y1.2.fst < (↑x0.n : Int))) (
    .el (x0.a) (x0.n) (y1.2.fst) fun y2 =>
    .ld false (y2.add (Int.toNat y1.2.fst * (1 : Nat))) (.o (.s)) fun y3 =>
    .br (decide (y1.2.fst > (0 : Int))) (
      .rq (ByteArray.size y1.fst + x1.size ≤ (9223372036854775807 : Nat)) <|
      .rq ((y1.fst ++ x1).size + y3.size ≤ (9223372036854775807 : Nat)) <|
      .nx 0 [.v (.string (y1.fst ++ x1 ++ y3)), .v (.int .i64 (Go.IntKind.i64.wrap (y1.2.fst + (1 : Int))))]) <|
    .rq (ByteArray.size y1.fst + y3.size ≤ (9223372036854775807 : Nat)) <|
    .nx 0 [.v (.string (y1.fst ++ y3)), .v (.int .i64 (Go.IntKind.i64.wrap (y1.2.fst + (1 : Int))))]) <|
  .ret [.string (y1.fst)]
theorem fS_Join (x0 : SlV) (x1 : ByteArray) : fits Tryz.prog aS_Join 48 [Sc.val .l (x0), .string (x1)] (tS_Join x0 x1) :=
  ⟨Tryz.f48, Tryz.f48.body.getD .skip, by kernel_rfl, by kernel_rfl, by kernel_rfl, by kernel_rfl, by kernel_rfl, by kernel_rfl⟩
/-! loop.example/g00793/spec.IntCmp -/
def aS_IntCmp : An := ⟨[], [], []⟩
noncomputable def tS_IntCmp (x0 : Bool × SlV × PUnit) (x1 : Bool × SlV × PUnit) : T :=
  .call false 93 [Sh1.val (.g [.b, .l]) (x0)] (.v (.o (.b))) fun y1 =>
  .br (!y1) (
    .ret [.int .i64 ((0 : Int))]) <|
  .call false 93 [Sh1.val (.g [.b, .l]) (x1)] (.v (.o (.b))) fun y2 =>
  .br (!y2) (
    .ret [.int .i64 ((0 : Int))]) <|
  .br (x0.fst) (
    .br (!x1.fst) (
      .ret [.int .i64 ((-1 : Int))]) <|
    .br (!x0.fst) (
      .br (x1.fst) (
        .ret [.int .i64 ((1 : Int))]) <|
      .br (x0.fst) (
        .call false 94 [Sc.val .l (x1.2.1), Sc.val .l (x0.2.1)] (.v (.o (.i .i64))) fun y3 =>
        .ret [.int .i64 (y3)]) <|
      .call false 94 [Sc.val .l (x0.2.1), Sc.val .l (x1.2.1)] (.v (.o (.i .i64))) fun y3 =>
      .ret [.int .i64 (y3)]) <|
    .br (x0.fst) (
      .call false 94 [Sc.val .l (x1.2.1), Sc.val .l (x0.2.1)] (.v (.o (.i .i64))) fun y3 =>
      .ret [.int .i64 (y3)]) <|
    .call false 94 [Sc.val .l (x0.2.1), Sc.val .l (x1.2.1)] (.v (.o (.i .i64))) fun y3 =>
    .ret [.int .i64 (y3)]) <|
  .br (!x0.fst) (
    .br (x1.fst) (
      .ret [.int .i64 ((1 : Int))]) <|
    .br (x0.fst) (
      .call false 94 [Sc.val .l (x1.2.1), Sc.val .l (x0.2.1)] (.v (.o (.i .i64))) fun y3 =>
      .ret [.int .i64 (y3)]) <|
    .call false 94 [Sc.val .l (x0.2.1), Sc.val .l (x1.2.1)] (.v (.o (.i .i64))) fun y3 =>
    .ret [.int .i64 (y3)]) <|
  .br (x0.fst) (
    .call false 94 [Sc.val .l (x1.2.1), Sc.val .l (x0.2.1)] (.v (.o (.i .i64))) fun y3 =>
    .ret [.int .i64 (y3)]) <|
  .call false 94 [Sc.val .l (x0.2.1), Sc.val .l (x1.2.1)] (.v (.o (.i .i64))) fun y3 =>
  .ret [.int .i64 (y3)]
theorem fS_IntCmp (x0 : Bool × SlV × PUnit) (x1 : Bool × SlV × PUnit) : fits Tryz.prog aS_IntCmp 49 [Sh1.val (.g [.b, .l]) (x0), Sh1.val (.g [.b, .l]) (x1)] (tS_IntCmp x0 x1) :=
  ⟨Tryz.f49, Tryz.f49.body.getD .skip, by kernel_rfl, by kernel_rfl, by kernel_rfl, by kernel_rfl, by kernel_rfl, by kernel_rfl⟩
/-! loop.example/g00793/spec.IntNeg -/
def aS_IntNeg : An := ⟨[], [], []⟩
noncomputable def tS_IntNeg (x0 : Bool × SlV × PUnit) : T :=
  .call false 93 [Sh1.val (.g [.b, .l]) (x0)] (.v (.o (.b))) fun y1 =>
  .br (!y1) (
    .ret [Sh1.val (.g [.b, .l]) ((false), (⟨(none), ((0 : Nat)), ((0 : Nat))⟩ : SlV), ())]) <|
  .call false 95 [.bool (!x0.fst), Sc.val .l (x0.2.1)] (.v (.g [.b, .l])) fun y2 =>
  .ret [Sh1.val (.g [.b, .l]) (y2)]
theorem fS_IntNeg (x0 : Bool × SlV × PUnit) : fits Tryz.prog aS_IntNeg 50 [Sh1.val (.g [.b, .l]) (x0)] (tS_IntNeg x0) :=
  ⟨Tryz.f50, Tryz.f50.body.getD .skip, by kernel_rfl, by kernel_rfl, by kernel_rfl, by kernel_rfl, by kernel_rfl, by kernel_rfl⟩
/-! loop.example/g00793/laws.toAcctS -/
def aL_toAcctS : An := ⟨[(3, [.s 3, .s 4], [.a 66, .o (.o (.i .i64))])], [], []⟩
noncomputable def tL_toAcctS (x0 : SlV) : T :=
  .rq ((0 : Int) ≤ (↑x0.n : Int) ∧ (↑x0.n : Int) ≤ (↑x0.n : Int) ∧ (↑(64 : Nat) : Int) * (↑x0.n : Int) ≤ (281474976710656 : Int) ∧ (↑x0.n : Int) ≤ (9223372036854775807 : Int)) <|
  .lp [.a 66, .o (.o (.i .i64))] [.a 66 ((↑x0.n : Int).toNat) ((Go.madeCells { toList := [Go.Value.string { data := { toList := [] : Array UInt8 } : ByteArray }, Go.Value.string { data := { toList := [] : Array UInt8 } : ByteArray }, Go.Value.bool false, Go.Value.slice none (0 : Nat) (0 : Nat)] : Array Go.Value } ((↑x0.n : Int).toNat * (4 : Nat))).toList), .v (.int .i64 ((0 : Int)))] fun y1 =>
  .br (decide (y1.2.fst < (↑x0.n : Int))) (
    .el (x0.a) (x0.n) (y1.2.fst) fun y2 =>
    .ld false (y2.add (Int.toNat y1.2.fst * (4 : Nat))) (.g [.s, .s, .b, .l]) fun y3 =>
    .call false 96 [Sh1.val (.g [.s, .s, .b, .l]) (y3)] (.v (.g [.s, .s, .b, .l])) fun y4 =>
    .rq ((0 : Int) ≤ y1.2.fst ∧ y1.2.fst < (↑y1.1.fst : Int)) <|
    .rq (Int.toNat y1.2.fst * (4 : Nat) + [Go.Value.string y4.fst, Go.Value.string y4.2.fst, Go.Value.bool y4.2.2.fst, Go.Value.slice y4.2.2.2.1.a y4.2.2.2.1.n y4.2.2.2.1.c].length ≤ y1.1.snd.length) <|
    .nx 0 [.a 66 (y1.1.fst) (setl y1.1.snd (Int.toNat y1.2.fst * (4 : Nat)) [Go.Value.string y4.fst, Go.Value.string y4.2.fst, Go.Value.bool y4.2.2.fst, Go.Value.slice y4.2.2.2.1.a y4.2.2.2.1.n y4.2.2.2.1.c]), .v (.int .i64 (Go.IntKind.i64.wrap (y1.2.fst + (1 : Int))))]) <|
  .fz (y1.1.fst) (y1.1.snd) 66 fun b2 c2 =>
  .ret [.slice (some { block := b2, off := (0 : Nat) : Go.Addr }) (y1.1.fst) (c2)]
theorem fL_toAcctS (x0 : SlV) : fits Tryz.prog aL_toAcctS 51 [Sc.val .l (x0)] (tL_toAcctS x0) :=
  ⟨Tryz.f51, Tryz.f51.body.getD .skip, by kernel_rfl, by kernel_rfl, by kernel_rfl, by kernel_rfl, by kernel_rfl, by kernel_rfl⟩
/-! loop.example/g00793/laws.toRest -/
def aL_toRest : An := ⟨[], [], []⟩
noncomputable def tL_toRest (x0 : ByteArray × Bool × SlV × SlV × PUnit) : T :=
  .call false 97 [Sh1.val (.g [.b, .l, .l]) (x0.2)] (.v (.g [.b, .l, .l])) fun y1 =>
  .ret [Sh1.val (.g [.s, .b, .l, .l]) ((x0.fst), (y1.fst), y1.2.1, y1.2.2.1, ())]
theorem fL_toRest (x0 : ByteArray × Bool × SlV × SlV × PUnit) : fits Tryz.prog aL_toRest 52 [Sh1.val (.g [.s, .b, .l, .l]) (x0)] (tL_toRest x0) :=
  ⟨Tryz.f52, Tryz.f52.body.getD .skip, by kernel_rfl, by kernel_rfl, by kernel_rfl, by kernel_rfl, by kernel_rfl, by kernel_rfl⟩
/-! loop.example/g00793/laws.toRateS -/
def aL_toRateS : An := ⟨[(3, [.s 3, .s 4], [.a 59, .o (.o (.i .i64))])], [], []⟩
noncomputable def tL_toRateS (x0 : SlV) : T :=
  .rq ((0 : Int) ≤ (↑x0.n : Int) ∧ (↑x0.n : Int) ≤ (↑x0.n : Int) ∧ (↑(72 : Nat) : Int) * (↑x0.n : Int) ≤ (281474976710656 : Int) ∧ (↑x0.n : Int) ≤ (9223372036854775807 : Int)) <|
  .lp [.a 59, .o (.o (.i .i64))] [.a 59 ((↑x0.n : Int).toNat) ((Go.madeCells { toList := [Go.Value.string { data := { toList := [] : Array UInt8 } : ByteArray }, Go.Value.string { data := { toList := [] : Array UInt8 } : ByteArray }, Go.Value.bool false, Go.Value.slice none (0 : Nat) (0 : Nat), Go.Value.int Go.IntKind.i64 (0 : Int)] : Array Go.Value } ((↑x0.n : Int).toNat * (5 : Nat))).toList), .v (.int .i64 ((0 : Int)))] fun y1 =>
  .br (decide (y1.2.fst < (↑x0.n : Int))) (
    .el (x0.a) (x0.n) (y1.2.fst) fun y2 =>
    .ld false (y2.add (Int.toNat y1.2.fst * (5 : Nat))) (.g [.s, .s, .b, .l, .i .i64]) fun y3 =>
    .call false 98 [Sh1.val (.g [.s, .s, .b, .l, .i .i64]) (y3)] (.v (.g [.s, .s, .b, .l, .i .i64])) fun y4 =>
    .rq ((0 : Int) ≤ y1.2.fst ∧ y1.2.fst < (↑y1.1.fst : Int)) <|
    .rq (Int.toNat y1.2.fst * (5 : Nat) + [Go.Value.string y4.fst, Go.Value.string y4.2.fst, Go.Value.bool y4.2.2.fst, Go.Value.slice y4.2.2.2.1.a y4.2.2.2.1.n y4.2.2.2.1.c, Go.Value.int Go.IntKind.i64 y4.2.2.2.2.fst].length ≤ y1.1.snd.length) <|
    .nx 0 [.a 59 (y1.1.fst) (setl y1.1.snd (Int.toNat y1.2.fst * (5 : Nat)) [Go.Value.string y4.fst, Go.Value.string y4.2.fst, Go.Value.bool y4.2.2.fst, Go.Value.slice y4.2.2.2.1.a y4.2.2.2.1.n y4.2.2.2.1.c, Go.Value.int Go.IntKind.i64 y4.2.2.2.2.fst]), .v (.int .i64 (Go.IntKind.i64.wrap (y1.2.fst + (1 : Int))))]) <|
  .fz (y1.1.fst) (y1.1.snd) 59 fun b2 c2 =>
  .ret [.slice (some { block := b2, off := (0 : Nat) : Go.Addr }) (y1.1.fst) (c2)]
theorem fL_toRateS (x0 : SlV) : fits Tryz.prog aL_toRateS 53 [Sc.val .l (x0)] (tL_toRateS x0) :=
  ⟨Tryz.f53, Tryz.f53.body.getD .skip, by kernel_rfl, by kernel_rfl, by kernel_rfl, by kernel_rfl, by kernel_rfl, by kernel_rfl⟩
/-! loop.example/g00793/impl.BookOk -/
def aI_BookOk : An := ⟨[(4, [.s 12], [.o (.o (.i .i64))])], [], []⟩
noncomputable def tI_BookOk (x0 : SlV × PUnit) : T :=
  .br (decide ((↑x0.1.n : Int) > (12 : Int))) (
    .ret [.bool (false)]) <|
  .lp [.o (.o (.i .i64))] [.v (.int .i64 ((0 : Int)))] fun y1 =>
  .br (decide (y1.fst < (↑x0.1.n : Int))) (
    .el (x0.1.a) (x0.1.n) (y1.fst) fun y2 =>
    .ld false (y2.add (Int.toNat y1.fst * (4 : Nat))) (.g [.s, .s, .b, .l]) fun y3 =>
    .rg <|
    .call true 99 [.string (y3.fst)] (.v (.o (.b))) fun y4 =>
    .br (!y4) (
      .ret [.bool (false)]) <|
    .call true 100 [Sh1.val (.g [.s, .b, .l]) (y3.2)] (.v (.o (.b))) fun y5 =>
    .br (!y5) (
      .ret [.bool (false)]) <|
    .br (decide (y1.fst > (0 : Int))) (
      .el (x0.1.a) (x0.1.n) (Go.IntKind.i64.wrap (y1.fst - (1 : Int))) fun y6 =>
      .ld true ((y6.add ((Go.IntKind.i64.wrap (y1.fst - (1 : Int))).toNat * (4 : Nat))).add (0 : Nat)) (.o (.s)) fun y7 =>
      .br (!Go.Op.bytesLess y7.toList (ByteArray.toList y3.fst)) (
        .ret [.bool (false)]) <|
      .nx 0 [.v (.int .i64 (Go.IntKind.i64.wrap (y1.fst + (1 : Int))))]) <|
    .nx 0 [.v (.int .i64 (Go.IntKind.i64.wrap (y1.fst + (1 : Int))))]) <|
  .ret [.bool (true)]
theorem fI_BookOk (x0 : SlV × PUnit) : fits Tryz.prog aI_BookOk 54 [Sh1.val (.g [.l]) (x0)] (tI_BookOk x0) :=
  ⟨Tryz.f54, Tryz.f54.body.getD .skip, by kernel_rfl, by kernel_rfl, by kernel_rfl, by kernel_rfl, by kernel_rfl, by kernel_rfl⟩
/-! loop.example/g00793/impl.RestsOk -/
def aI_RestsOk : An := ⟨[(2, [.s 7], [.o (.o (.i .i64))])], [], []⟩
noncomputable def tI_RestsOk (x0 : SlV) : T :=
  .lp [.o (.o (.i .i64))] [.v (.int .i64 ((0 : Int)))] fun y1 =>
  .br (decide (y1.fst < (↑x0.n : Int))) (
    .el (x0.a) (x0.n) (y1.fst) fun y2 =>
    .ld false (y2.add (Int.toNat y1.fst * (4 : Nat))) (.g [.s, .b, .l, .l]) fun y3 =>
    .rg <|
    .call true 101 [.string (y3.fst)] (.v (.o (.b))) fun y4 =>
    .br (!y4) (
      .ret [.bool (false)]) <|
    .call true 102 [Sh1.val (.g [.b, .l, .l]) (y3.2)] (.v (.o (.b))) fun y5 =>
    .br (!y5) (
      .ret [.bool (false)]) <|
    .call true 103 [Sh1.val (.g [.b, .l, .l]) (y3.2)] (.v (.o (.i .i64))) fun y6 =>
    .br (y6 == (0 : Int)) (
      .ret [.bool (false)]) <|
    .br (decide (y1.fst > (0 : Int))) (
      .el (x0.a) (x0.n) (Go.IntKind.i64.wrap (y1.fst - (1 : Int))) fun y7 =>
      .ld true ((y7.add ((Go.IntKind.i64.wrap (y1.fst - (1 : Int))).toNat * (4 : Nat))).add (0 : Nat)) (.o (.s)) fun y8 =>
      .br (!Go.Op.bytesLess y8.toList (ByteArray.toList y3.fst)) (
        .ret [.bool (false)]) <|
      .nx 0 [.v (.int .i64 (Go.IntKind.i64.wrap (y1.fst + (1 : Int))))]) <|
    .nx 0 [.v (.int .i64 (Go.IntKind.i64.wrap (y1.fst + (1 : Int))))]) <|
  .ret [.bool (true)]
theorem fI_RestsOk (x0 : SlV) : fits Tryz.prog aI_RestsOk 55 [Sc.val .l (x0)] (tI_RestsOk x0) :=
  ⟨Tryz.f55, Tryz.f55.body.getD .skip, by kernel_rfl, by kernel_rfl, by kernel_rfl, by kernel_rfl, by kernel_rfl, by kernel_rfl⟩
/-! loop.example/g00793/impl.RatesOk -/
def aI_RatesOk : An := ⟨[(5, [.s 21], [.o (.o (.i .i64))])], [], []⟩
noncomputable def tI_RatesOk (x0 : ByteArray × SlV × PUnit) : T :=
  .call false 101 [.string (x0.fst)] (.v (.o (.b))) fun y1 =>
  .br (!y1) (
    .ret [.bool (false)]) <|
  .br (decide ((↑x0.2.1.n : Int) > (12 : Int))) (
    .ret [.bool (false)]) <|
  .mo (.mk 149) (.v (.o (.x))) fun y2 =>
  .lp [.o (.o (.i .i64))] [.v (.int .i64 ((0 : Int)))] fun y3 =>
  .br (decide (y3.fst < (↑x0.2.1.n : Int))) (
    .el (x0.2.1.a) (x0.2.1.n) (y3.fst) fun y4 =>
    .ld false (y4.add (Int.toNat y3.fst * (5 : Nat))) (.g [.s, .s, .b, .l, .i .i64]) fun y5 =>
    .call false 104 [Sh1.val (.g [.s, .s, .b, .l, .i .i64]) (y5)] (.v (.o (.b))) fun y6 =>
    .br (!y6) (
      .ret [.bool (false)]) <|
    .mo (.lk 149 ((y2.1)) (Sh1.val (.g [.s, .s]) ((y5.fst), (y5.2.fst), ())) false) (.v (.o (.b))) fun y7 =>
    .br (y7) (
      .ret [.bool (false)]) <|
    .mo (.up 149 ((y2.1)) (Sh1.val (.g [.s, .s]) ((y5.fst), (y5.2.fst), ())) (.bool (true))) (.t []) fun _ =>
    .nx 0 [.v (.int .i64 (Go.IntKind.i64.wrap (y3.fst + (1 : Int))))]) <|
  .ret [.bool (true)]
theorem fI_RatesOk (x0 : ByteArray × SlV × PUnit) : fits Tryz.prog aI_RatesOk 56 [Sh1.val (.g [.s, .l]) (x0)] (tI_RatesOk x0) :=
  ⟨Tryz.f56, Tryz.f56.body.getD .skip, by kernel_rfl, by kernel_rfl, by kernel_rfl, by kernel_rfl, by kernel_rfl, by kernel_rfl⟩
/-! loop.example/g00793/impl.CmdOk -/
def aI_CmdOk : An := ⟨[(3, [.s 4], [.o (.o (.i .i64))])], [], [(2000003, [.s 1])]⟩
noncomputable def tI_CmdOk (x0 : Int × ByteArray × ByteArray × ByteArray × ByteArray × ByteArray × Bool × SlV × Int × SlV × SlV × Bool × SlV × Int × ByteArray × ByteArray × Bool × SlV × Int × PUnit) : T :=
  .call false 59 [.int .i64 (x0.fst)] (.v (.o (.l))) fun y1 =>
  .es [.int .i64 (x0.fst), .string (x0.2.fst), .string (x0.2.2.fst), .string (x0.2.2.2.fst), .string (x0.2.2.2.2.fst), .string (x0.2.2.2.2.2.fst), .bool (x0.2.2.2.2.2.2.fst), Sc.val .l (x0.2.2.2.2.2.2.2.1), .int .i64 (x0.2.2.2.2.2.2.2.2.fst), Sc.val .l (x0.2.2.2.2.2.2.2.2.2.1), Sc.val .l (x0.2.2.2.2.2.2.2.2.2.2.1), .bool (x0.2.2.2.2.2.2.2.2.2.2.2.fst), Sc.val .l (x0.2.2.2.2.2.2.2.2.2.2.2.2.1), .int .i64 (x0.2.2.2.2.2.2.2.2.2.2.2.2.2.fst), .string (x0.2.2.2.2.2.2.2.2.2.2.2.2.2.2.fst), .string (x0.2.2.2.2.2.2.2.2.2.2.2.2.2.2.2.fst), .bool (x0.2.2.2.2.2.2.2.2.2.2.2.2.2.2.2.2.fst), Sc.val .l (x0.2.2.2.2.2.2.2.2.2.2.2.2.2.2.2.2.2.1), .int .i64 (x0.2.2.2.2.2.2.2.2.2.2.2.2.2.2.2.2.2.2.fst)] 64 fun b2 =>
  .lp [.o (.o (.i .i64))] [.v (.int .i64 ((0 : Int)))] fun y3 =>
  .br (decide (y3.fst ≤ (8 : Int))) (
    .call false 106 [Sc.val .l (y1), .int .i64 (y3.fst)] (.v (.o (.b))) fun y4 =>
    .br (y4) (
      .call false 107 [.pointer (some { block := b2, off := (0 : Nat) : Go.Addr }), .int .i64 (y3.fst)] (.v (.o (.b))) fun y5 =>
      .br (!y5) (
        .ret [.bool (false)]) <|
      .nx 0 [.v (.int .i64 (Go.IntKind.i64.wrap (y3.fst + (1 : Int))))]) <|
    .call false 105 [.pointer (some { block := b2, off := (0 : Nat) : Go.Addr }), .int .i64 (y3.fst)] (.v (.o (.b))) fun y5 =>
    .br (!y5) (
      .ret [.bool (false)]) <|
    .nx 0 [.v (.int .i64 (Go.IntKind.i64.wrap (y3.fst + (1 : Int))))]) <|
  .ret [.bool (decide ((↑y1.n : Int) > (0 : Int)))]
theorem fI_CmdOk (x0 : Int × ByteArray × ByteArray × ByteArray × ByteArray × ByteArray × Bool × SlV × Int × SlV × SlV × Bool × SlV × Int × ByteArray × ByteArray × Bool × SlV × Int × PUnit) : fits Tryz.prog aI_CmdOk 57 [Sh1.val (.g [.i .i64, .s, .s, .s, .s, .s, .b, .l, .i .i64, .l, .l, .b, .l, .i .i64, .s, .s, .b, .l, .i .i64]) (x0)] (tI_CmdOk x0) :=
  ⟨Tryz.f57, Tryz.f57.body.getD .skip, by kernel_rfl, by kernel_rfl, by kernel_rfl, by kernel_rfl, by kernel_rfl, by kernel_rfl⟩
/-! loop.example/g00793/impl.OpName -/
def aI_OpName : An := ⟨[], [], []⟩
noncomputable def tI_OpName (x0 : Int) : T :=
  .fz ((10 : Nat)) [.string ({ data := { toList := [] : Array UInt8 } : ByteArray }), .string ({ data := { toList := [(111 : UInt8), (112 : UInt8), (101 : UInt8), (110 : UInt8)] : Array UInt8 } : ByteArray }), .string ({ data := { toList := [(112 : UInt8), (117 : UInt8), (116 : UInt8)] : Array UInt8 } : ByteArray }), .string ({ data := { toList := [(116 : UInt8), (97 : UInt8), (107 : UInt8), (101 : UInt8)] : Array UInt8 } : ByteArray }), .string ({ data := { toList := [(109 : UInt8), (111 : UInt8), (118 : UInt8), (101 : UInt8)] : Array UInt8 } : ByteArray }), .string ({ data := { toList := [(115 : UInt8), (119 : UInt8), (97 : UInt8), (112 : UInt8)] : Array UInt8 } : ByteArray }), .string ({ data := { toList := [(100 : UInt8), (101 : UInt8), (97 : UInt8), (108 : UInt8)] : Array UInt8 } : ByteArray }), .string ({ data := { toList := [(116 : UInt8), (97 : UInt8), (120 : UInt8)] : Array UInt8 } : ByteArray }), .string ({ data := { toList := [(99 : UInt8), (97 : UInt8), (115 : UInt8), (104 : UInt8)] : Array UInt8 } : ByteArray }), .string ({ data := { toList := [(114 : UInt8), (97 : UInt8), (116 : UInt8), (101 : UInt8)] : Array UInt8 } : ByteArray })] 9 fun b1 c1 =>
  .call false 108 [.int .i64 (x0), .slice (some { block := b1, off := (0 : Nat) : Go.Addr }) ((10 : Nat)) (c1)] (.v (.o (.s))) fun y2 =>
  .ret [.string (y2)]
theorem fI_OpName (x0 : Int) : fits Tryz.prog aI_OpName 58 [.int .i64 (x0)] (tI_OpName x0) :=
  ⟨Tryz.f58, Tryz.f58.body.getD .skip, by kernel_rfl, by kernel_rfl, by kernel_rfl, by kernel_rfl, by kernel_rfl, by kernel_rfl⟩
/-! loop.example/g00793/impl.fieldsOf -/
def aI_fieldsOf : An := ⟨[], [], []⟩
noncomputable def tI_fieldsOf (x0 : Int) : T :=
  .br (x0 == (1 : Int)) (
    .fz ((2 : Nat)) [.int .i64 ((0 : Int)), .int .i64 ((3 : Int))] 3 fun b1 c1 =>
    .ret [.slice (some { block := b1, off := (0 : Nat) : Go.Addr }) ((2 : Nat)) (c1)]) <|
  .br (x0 == (2 : Int)) (
    .fz ((2 : Nat)) [.int .i64 ((0 : Int)), .int .i64 ((4 : Int))] 3 fun b1 c1 =>
    .ret [.slice (some { block := b1, off := (0 : Nat) : Go.Addr }) ((2 : Nat)) (c1)]) <|
  .br (x0 == (3 : Int)) (
    .fz ((2 : Nat)) [.int .i64 ((0 : Int)), .int .i64 ((4 : Int))] 3 fun b1 c1 =>
    .ret [.slice (some { block := b1, off := (0 : Nat) : Go.Addr }) ((2 : Nat)) (c1)]) <|
  .br (x0 == (4 : Int)) (
    .fz ((3 : Nat)) [.int .i64 ((0 : Int)), .int .i64 ((1 : Int)), .int .i64 ((4 : Int))] 3 fun b1 c1 =>
    .ret [.slice (some { block := b1, off := (0 : Nat) : Go.Addr }) ((3 : Nat)) (c1)]) <|
  .br (x0 == (5 : Int)) (
    .fz ((4 : Nat)) [.int .i64 ((0 : Int)), .int .i64 ((1 : Int)), .int .i64 ((4 : Int)), .int .i64 ((7 : Int))] 3 fun b1 c1 =>
    .ret [.slice (some { block := b1, off := (0 : Nat) : Go.Addr }) ((4 : Nat)) (c1)]) <|
  .br (x0 == (6 : Int)) (
    .fz ((3 : Nat)) [.int .i64 ((0 : Int)), .int .i64 ((4 : Int)), .int .i64 ((5 : Int))] 3 fun b1 c1 =>
    .ret [.slice (some { block := b1, off := (0 : Nat) : Go.Addr }) ((3 : Nat)) (c1)]) <|
  .br (x0 == (7 : Int)) (
    .fz ((6 : Nat)) [.int .i64 ((0 : Int)), .int .i64 ((1 : Int)), .int .i64 ((2 : Int)), .int .i64 ((4 : Int)), .int .i64 ((6 : Int)), .int .i64 ((7 : Int))] 3 fun b1 c1 =>
    .ret [.slice (some { block := b1, off := (0 : Nat) : Go.Addr }) ((6 : Nat)) (c1)]) <|
  .br (x0 == (8 : Int)) (
    .fz ((2 : Nat)) [.int .i64 ((0 : Int)), .int .i64 ((7 : Int))] 3 fun b1 c1 =>
    .ret [.slice (some { block := b1, off := (0 : Nat) : Go.Addr }) ((2 : Nat)) (c1)]) <|
  .br (x0 == (9 : Int)) (
    .fz ((1 : Nat)) [.int .i64 ((8 : Int))] 3 fun b1 c1 =>
    .ret [.slice (some { block := b1, off := (0 : Nat) : Go.Addr }) ((1 : Nat)) (c1)]) <|
  .ret [.slice (none) ((0 : Nat)) ((0 : Nat))]
theorem fI_fieldsOf (x0 : Int) : fits Tryz.prog aI_fieldsOf 59 [.int .i64 (x0)] (tI_fieldsOf x0) :=
  ⟨Tryz.f59, Tryz.f59.body.getD .skip, by kernel_rfl, by kernel_rfl, by kernel_rfl, by kernel_rfl, by kernel_rfl, by kernel_rfl⟩
/-! loop.example/g00793/impl.fieldText -/
def aI_fieldText : An := ⟨[], [], []⟩
noncomputable def tI_fieldText (x0 : Go.Addr) (x1 : Int) : T :=
  .br (x1 == (0 : Int)) (
    .ld false (x0.add (1 : Nat)) (.o (.s)) fun y1 =>
    .ret [.string (y1)]) <|
  .br (x1 == (1 : Int)) (
    .ld false (x0.add (2 : Nat)) (.o (.s)) fun y1 =>
    .ret [.string (y1)]) <|
  .br (x1 == (2 : Int)) (
    .ld false (x0.add (3 : Nat)) (.o (.s)) fun y1 =>
    .ret [.string (y1)]) <|
  .br (x1 == (3 : Int)) (
    .ld false (x0.add (4 : Nat)) (.o (.s)) fun y1 =>
    .ret [.string (y1)]) <|
  .br (x1 == (4 : Int)) (
    .ld false (x0.add (5 : Nat)) (.g [.s, .b, .l]) fun y1 =>
    .call false 109 [Sh1.val (.g [.s, .b, .l]) (y1)] (.v (.o (.s))) fun y2 =>
    .ret [.string (y2)]) <|
  .br (x1 == (5 : Int)) (
    .rg <|
    .ld true (x0.add (9 : Nat)) (.o (.l)) fun y1 =>
    .ld true (x0.add (10 : Nat)) (.o (.l)) fun y2 =>
    .call true 110 [Sc.val .l (y1), Sc.val .l (y2)] (.v (.o (.s))) fun y3 =>
    .ret [.string (y3)]) <|
  .br (x1 == (6 : Int)) (
    .ld false (x0.add (11 : Nat)) (.g [.b, .l, .i .i64]) fun y1 =>
    .call false 111 [Sh1.val (.g [.b, .l, .i .i64]) (y1)] (.v (.o (.s))) fun y2 =>
    .ret [.string (y2)]) <|
  .br (x1 == (7 : Int)) (
    .ld false (x0.add (8 : Nat)) (.o (.i .i64)) fun y1 =>
    .call false 112 [.int .i64 (y1)] (.v (.o (.s))) fun y2 =>
    .ret [.string (y2)]) <|
  .ld false (x0.add (14 : Nat)) (.g [.s, .s, .b, .l, .i .i64]) fun y1 =>
  .call false 113 [Sh1.val (.g [.s, .s, .b, .l, .i .i64]) (y1)] (.v (.o (.s))) fun y2 =>
  .ret [.string (y2)]
theorem fI_fieldText (x0 : Go.Addr) (x1 : Int) : fits Tryz.prog aI_fieldText 60 [.pointer (some x0), .int .i64 (x1)] (tI_fieldText x0 x1) :=
  ⟨Tryz.f60, Tryz.f60.body.getD .skip, by kernel_rfl, by kernel_rfl, by kernel_rfl, by kernel_rfl, by kernel_rfl, by kernel_rfl⟩
/-! loop.example/g00793/impl.Join -/
def aI_Join : An := ⟨[], [], []⟩
noncomputable def tI_Join (x0 : SlV) (x1 : ByteArray) : T :=
  .call false 114 [Sc.val .l (x0), .string (x1)] (.v (.o (.s))) fun y1 =>
  .ret [.string (y1)]
theorem fI_Join (x0 : SlV) (x1 : ByteArray) : fits Tryz.prog aI_Join 61 [Sc.val .l (x0), .string (x1)] (tI_Join x0 x1) :=
  ⟨Tryz.f61, Tryz.f61.body.getD .skip, by kernel_rfl, by kernel_rfl, by kernel_rfl, by kernel_rfl, by kernel_rfl, by kernel_rfl⟩
/-! loop.example/g00793/impl.intNeg -/
def aI_intNeg : An := ⟨[], [], []⟩
noncomputable def tI_intNeg (x0 : Bool × SlV × PUnit) : T :=
  .rg <|
  .call true 116 [Sc.val .l (x0.2.1)] (.v (.o (.l))) fun y1 =>
  .call true 115 [.bool (!x0.fst), Sc.val .l (y1)] (.v (.g [.b, .l])) fun y2 =>
  .ret [Sh1.val (.g [.b, .l]) (y2)]
theorem fI_intNeg (x0 : Bool × SlV × PUnit) : fits Tryz.prog aI_intNeg 62 [Sh1.val (.g [.b, .l]) (x0)] (tI_intNeg x0) :=
  ⟨Tryz.f62, Tryz.f62.body.getD .skip, by kernel_rfl, by kernel_rfl, by kernel_rfl, by kernel_rfl, by kernel_rfl, by kernel_rfl⟩
/-! loop.example/g00793/laws.eqAcctS -/
def aL_eqAcctS : An := ⟨[(4, [.s 5], [.o (.o (.i .i64))])], [], []⟩
noncomputable def tL_eqAcctS (x0 : SlV) (x1 : SlV) : T :=
  .br ((↑x0.n : Int) != (↑x1.n : Int)) (
    .ret [.bool (false)]) <|
  .lp [.o (.o (.i .i64))] [.v (.int .i64 ((0 : Int)))] fun y1 =>
  .br (decide (y1.fst < (↑x0.n : Int))) (
    .rg <|
    .el (x0.a) (x0.n) (y1.fst) fun y2 =>
    .ld true (y2.add (Int.toNat y1.fst * (4 : Nat))) (.g [.s, .s, .b, .l]) fun y3 =>
    .el (x1.a) (x1.n) (y1.fst) fun y4 =>
    .ld true (y4.add (Int.toNat y1.fst * (4 : Nat))) (.g [.s, .s, .b, .l]) fun y5 =>
    .call true 117 [Sh1.val (.g [.s, .s, .b, .l]) (y3), Sh1.val (.g [.s, .s, .b, .l]) (y5)] (.v (.o (.b))) fun y6 =>
    .br (!y6) (
      .ret [.bool (false)]) <|
    .nx 0 [.v (.int .i64 (Go.IntKind.i64.wrap (y1.fst + (1 : Int))))]) <|
  .ret [.bool (true)]
theorem fL_eqAcctS (x0 : SlV) (x1 : SlV) : fits Tryz.prog aL_eqAcctS 63 [Sc.val .l (x0), Sc.val .l (x1)] (tL_eqAcctS x0 x1) :=
  ⟨Tryz.f63, Tryz.f63.body.getD .skip, by kernel_rfl, by kernel_rfl, by kernel_rfl, by kernel_rfl, by kernel_rfl, by kernel_rfl⟩
/-! loop.example/g00793/laws.eqRest -/
def aL_eqRest : An := ⟨[], [], []⟩
noncomputable def tL_eqRest (x0 : ByteArray × Bool × SlV × SlV × PUnit) (x1 : ByteArray × Bool × SlV × SlV × PUnit) : T :=
  .br (!ByteArray.toList x0.fst == ByteArray.toList x1.fst) (
    .ret [.bool (false)]) <|
  .call false 118 [Sh1.val (.g [.b, .l, .l]) (x0.2), Sh1.val (.g [.b, .l, .l]) (x1.2)] (.v (.o (.b))) fun y1 =>
  .br (!y1) (
    .ret [.bool (false)]) <|
  .ret [.bool (true)]
theorem fL_eqRest (x0 : ByteArray × Bool × SlV × SlV × PUnit) (x1 : ByteArray × Bool × SlV × SlV × PUnit) : fits Tryz.prog aL_eqRest 64 [Sh1.val (.g [.s, .b, .l, .l]) (x0), Sh1.val (.g [.s, .b, .l, .l]) (x1)] (tL_eqRest x0 x1) :=
  ⟨Tryz.f64, Tryz.f64.body.getD .skip, by kernel_rfl, by kernel_rfl, by kernel_rfl, by kernel_rfl, by kernel_rfl, by kernel_rfl⟩
/-! loop.example/g00793/laws.eqRateS -/
def aL_eqRateS : An := ⟨[(4, [.s 5], [.o (.o (.i .i64))])], [], []⟩
noncomputable def tL_eqRateS (x0 : SlV) (x1 : SlV) : T :=
  .br ((↑x0.n : Int) != (↑x1.n : Int)) (
    .ret [.bool (false)]) <|
  .lp [.o (.o (.i .i64))] [.v (.int .i64 ((0 : Int)))] fun y1 =>
  .br (decide (y1.fst < (↑x0.n : Int))) (
    .rg <|
    .el (x0.a) (x0.n) (y1.fst) fun y2 =>
    .ld true (y2.add (Int.toNat y1.fst * (5 : Nat))) (.g [.s, .s, .b, .l, .i .i64]) fun y3 =>
    .el (x1.a) (x1.n) (y1.fst) fun y4 =>
    .ld true (y4.add (Int.toNat y1.fst * (5 : Nat))) (.g [.s, .s, .b, .l, .i .i64]) fun y5 =>
    .call true 119 [Sh1.val (.g [.s, .s, .b, .l, .i .i64]) (y3), Sh1.val (.g [.s, .s, .b, .l, .i .i64]) (y5)] (.v (.o (.b))) fun y6 =>
    .br (!y6) (
      .ret [.bool (false)]) <|
    .nx 0 [.v (.int .i64 (Go.IntKind.i64.wrap (y1.fst + (1 : Int))))]) <|
  .ret [.bool (true)]
theorem fL_eqRateS (x0 : SlV) (x1 : SlV) : fits Tryz.prog aL_eqRateS 65 [Sc.val .l (x0), Sc.val .l (x1)] (tL_eqRateS x0 x1) :=
  ⟨Tryz.f65, Tryz.f65.body.getD .skip, by kernel_rfl, by kernel_rfl, by kernel_rfl, by kernel_rfl, by kernel_rfl, by kernel_rfl⟩
/-! loop.example/g00793/laws.markAcctS -/
def aL_markAcctS : An := ⟨[(2, [.s 1, .s 5], [.o (.o (.i .i64)), .o (.o (.i .i64))])], [], []⟩
noncomputable def tL_markAcctS (x0 : SlV) (x1 : Int) : T :=
  .lp [.o (.o (.i .i64)), .o (.o (.i .i64))] [.v (.int .i64 (x1)), .v (.int .i64 ((0 : Int)))] fun y1 =>
  .br (decide (y1.2.fst < (↑x0.n : Int))) (
    .call false 33 [.int .i64 (y1.fst)] (.v (.o (.s))) fun y2 =>
    .el (x0.a) (x0.n) (y1.2.fst) fun y3 =>
    .st ((y3.add (Int.toNat y1.2.fst * (4 : Nat))).add (0 : Nat)) [.string (y2)] <|
    .call false 33 [.int .i64 (Go.IntKind.i64.wrap (y1.fst + (1 : Int)))] (.v (.o (.s))) fun y4 =>
    .el (x0.a) (x0.n) (y1.2.fst) fun y5 =>
    .st (((y5.add (Int.toNat y1.2.fst * (4 : Nat))).add (1 : Nat)).add (0 : Nat)) [.string (y4)] <|
    .rq ((3 : Int) ≠ (0 : Int)) <|
    .el (x0.a) (x0.n) (y1.2.fst) fun y6 =>
    .st ((((y6.add (Int.toNat y1.2.fst * (4 : Nat))).add (1 : Nat)).add (1 : Nat)).add (0 : Nat)) [.bool ((Go.IntKind.i64.wrap (Go.IntKind.i64.wrap (y1.fst + (1 : Int)) + (1 : Int))).tmod (3 : Int) == (0 : Int))] <|
    .el (x0.a) (x0.n) (y1.2.fst) fun y7 =>
    .ld false ((((y7.add (Int.toNat y1.2.fst * (4 : Nat))).add (1 : Nat)).add (1 : Nat)).add (1 : Nat)) (.o (.l)) fun y8 =>
    .call false 67 [Sc.val .l (y8), .int .i64 (Go.IntKind.i64.wrap (Go.IntKind.i64.wrap (Go.IntKind.i64.wrap (y1.fst + (1 : Int)) + (1 : Int)) + (1 : Int)))] (.v (.o (.i .i64))) fun y9 =>
    .nx 0 [.v (.int .i64 (y9)), .v (.int .i64 (Go.IntKind.i64.wrap (y1.2.fst + (1 : Int))))]) <|
  .ret [.int .i64 (y1.fst)]
theorem fL_markAcctS (x0 : SlV) (x1 : Int) : fits Tryz.prog aL_markAcctS 66 [Sc.val .l (x0), .int .i64 (x1)] (tL_markAcctS x0 x1) :=
  ⟨Tryz.f66, Tryz.f66.body.getD .skip, by kernel_rfl, by kernel_rfl, by kernel_rfl, by kernel_rfl, by kernel_rfl, by kernel_rfl⟩
/-! loop.example/g00793/laws.markIntS -/
def aL_markIntS : An := ⟨[(2, [.s 1, .s 5], [.o (.o (.i .i64)), .o (.o (.i .i64))])], [], []⟩
noncomputable def tL_markIntS (x0 : SlV) (x1 : Int) : T :=
  .lp [.o (.o (.i .i64)), .o (.o (.i .i64))] [.v (.int .i64 (x1)), .v (.int .i64 ((0 : Int)))] fun y1 =>
  .br (decide (y1.2.fst < (↑x0.n : Int))) (
    .el (x0.a) (x0.n) (y1.2.fst) fun y2 =>
    .st (y2.add (Int.toNat y1.2.fst * (1 : Nat))) [.int .i64 (y1.fst)] <|
    .nx 0 [.v (.int .i64 (Go.IntKind.i64.wrap (y1.fst + (1 : Int)))), .v (.int .i64 (Go.IntKind.i64.wrap (y1.2.fst + (1 : Int))))]) <|
  .ret [.int .i64 (y1.fst)]
theorem fL_markIntS (x0 : SlV) (x1 : Int) : fits Tryz.prog aL_markIntS 67 [Sc.val .l (x0), .int .i64 (x1)] (tL_markIntS x0 x1) :=
  ⟨Tryz.f67, Tryz.f67.body.getD .skip, by kernel_rfl, by kernel_rfl, by kernel_rfl, by kernel_rfl, by kernel_rfl, by kernel_rfl⟩
/-! loop.example/g00793/laws.markRateS -/
def aL_markRateS : An := ⟨[(2, [.s 1, .s 5], [.o (.o (.i .i64)), .o (.o (.i .i64))])], [], []⟩
noncomputable def tL_markRateS (x0 : SlV) (x1 : Int) : T :=
  .lp [.o (.o (.i .i64)), .o (.o (.i .i64))] [.v (.int .i64 (x1)), .v (.int .i64 ((0 : Int)))] fun y1 =>
  .br (decide (y1.2.fst < (↑x0.n : Int))) (
    .call false 33 [.int .i64 (y1.fst)] (.v (.o (.s))) fun y2 =>
    .el (x0.a) (x0.n) (y1.2.fst) fun y3 =>
    .st ((y3.add (Int.toNat y1.2.fst * (5 : Nat))).add (0 : Nat)) [.string (y2)] <|
    .call false 33 [.int .i64 (Go.IntKind.i64.wrap (y1.fst + (1 : Int)))] (.v (.o (.s))) fun y4 =>
    .el (x0.a) (x0.n) (y1.2.fst) fun y5 =>
    .st ((y5.add (Int.toNat y1.2.fst * (5 : Nat))).add (1 : Nat)) [.string (y4)] <|
    .rq ((3 : Int) ≠ (0 : Int)) <|
    .el (x0.a) (x0.n) (y1.2.fst) fun y6 =>
    .st ((((y6.add (Int.toNat y1.2.fst * (5 : Nat))).add (2 : Nat)).add (0 : Nat)).add (0 : Nat)) [.bool ((Go.IntKind.i64.wrap (Go.IntKind.i64.wrap (y1.fst + (1 : Int)) + (1 : Int))).tmod (3 : Int) == (0 : Int))] <|
    .el (x0.a) (x0.n) (y1.2.fst) fun y7 =>
    .ld false ((((y7.add (Int.toNat y1.2.fst * (5 : Nat))).add (2 : Nat)).add (0 : Nat)).add (1 : Nat)) (.o (.l)) fun y8 =>
    .call false 67 [Sc.val .l (y8), .int .i64 (Go.IntKind.i64.wrap (Go.IntKind.i64.wrap (Go.IntKind.i64.wrap (y1.fst + (1 : Int)) + (1 : Int)) + (1 : Int)))] (.v (.o (.i .i64))) fun y9 =>
    .el (x0.a) (x0.n) (y1.2.fst) fun y10 =>
    .st (((y10.add (Int.toNat y1.2.fst * (5 : Nat))).add (2 : Nat)).add (2 : Nat)) [.int .i64 (y9)] <|
    .nx 0 [.v (.int .i64 (Go.IntKind.i64.wrap (y9 + (1 : Int)))), .v (.int .i64 (Go.IntKind.i64.wrap (y1.2.fst + (1 : Int))))]) <|
  .ret [.int .i64 (y1.fst)]
theorem fL_markRateS (x0 : SlV) (x1 : Int) : fits Tryz.prog aL_markRateS 68 [Sc.val .l (x0), .int .i64 (x1)] (tL_markRateS x0 x1) :=
  ⟨Tryz.f68, Tryz.f68.body.getD .skip, by kernel_rfl, by kernel_rfl, by kernel_rfl, by kernel_rfl, by kernel_rfl, by kernel_rfl⟩
/-! loop.example/g00793/laws.szAcct -/
def aL_szAcct : An := ⟨[], [], []⟩
noncomputable def tL_szAcct (x0 : ByteArray × ByteArray × Bool × SlV × PUnit) (x1 : Int) : T :=
  .br (decide (Go.IntKind.i64.wrap (x1 - (↑(ByteArray.size x0.fst) : Int)) < (0 : Int))) (
    .ret [.int .i64 ((-1 : Int))]) <|
  .call false 120 [Sh1.val (.g [.s, .b, .l]) (x0.2), .int .i64 (Go.IntKind.i64.wrap (x1 - (↑(ByteArray.size x0.fst) : Int)))] (.v (.o (.i .i64))) fun y1 =>
  .br (decide (y1 < (0 : Int))) (
    .ret [.int .i64 ((-1 : Int))]) <|
  .ret [.int .i64 (y1)]
theorem fL_szAcct (x0 : ByteArray × ByteArray × Bool × SlV × PUnit) (x1 : Int) : fits Tryz.prog aL_szAcct 69 [Sh1.val (.g [.s, .s, .b, .l]) (x0), .int .i64 (x1)] (tL_szAcct x0 x1) :=
  ⟨Tryz.f69, Tryz.f69.body.getD .skip, by kernel_rfl, by kernel_rfl, by kernel_rfl, by kernel_rfl, by kernel_rfl, by kernel_rfl⟩
/-! loop.example/g00793/laws.szRat -/
def aL_szRat : An := ⟨[], [], []⟩
noncomputable def tL_szRat (x0 : Bool × SlV × SlV × PUnit) (x1 : Int) : T :=
  .call false 121 [Sh1.val (.g [.b, .l]) ((x0.fst), x0.2.1, ()), .int .i64 (x1)] (.v (.o (.i .i64))) fun y1 =>
  .br (decide (y1 < (0 : Int))) (
    .ret [.int .i64 ((-1 : Int))]) <|
  .call false 122 [Sc.val .l (x0.2.2.1), .int .i64 (y1)] (.v (.o (.i .i64))) fun y2 =>
  .br (decide (y2 < (0 : Int))) (
    .ret [.int .i64 ((-1 : Int))]) <|
  .ret [.int .i64 (y2)]
theorem fL_szRat (x0 : Bool × SlV × SlV × PUnit) (x1 : Int) : fits Tryz.prog aL_szRat 70 [Sh1.val (.g [.b, .l, .l]) (x0), .int .i64 (x1)] (tL_szRat x0 x1) :=
  ⟨Tryz.f70, Tryz.f70.body.getD .skip, by kernel_rfl, by kernel_rfl, by kernel_rfl, by kernel_rfl, by kernel_rfl, by kernel_rfl⟩
/-! loop.example/g00793/laws.szRate -/
def aL_szRate : An := ⟨[], [], []⟩
noncomputable def tL_szRate (x0 : ByteArray × ByteArray × Bool × SlV × Int × PUnit) (x1 : Int) : T :=
  .br (decide (Go.IntKind.i64.wrap (x1 - (↑(ByteArray.size x0.fst) : Int)) < (0 : Int))) (
    .ret [.int .i64 ((-1 : Int))]) <|
  .br (decide (Go.IntKind.i64.wrap (Go.IntKind.i64.wrap (x1 - (↑(ByteArray.size x0.fst) : Int)) - (↑(ByteArray.size x0.2.fst) : Int)) < (0 : Int))) (
    .ret [.int .i64 ((-1 : Int))]) <|
  .call false 123 [Sh1.val (.g [.b, .l, .i .i64]) (x0.2.2), .int .i64 (Go.IntKind.i64.wrap (Go.IntKind.i64.wrap (x1 - (↑(ByteArray.size x0.fst) : Int)) - (↑(ByteArray.size x0.2.fst) : Int)))] (.v (.o (.i .i64))) fun y1 =>
  .br (decide (y1 < (0 : Int))) (
    .ret [.int .i64 ((-1 : Int))]) <|
  .ret [.int .i64 (y1)]
theorem fL_szRate (x0 : ByteArray × ByteArray × Bool × SlV × Int × PUnit) (x1 : Int) : fits Tryz.prog aL_szRate 71 [Sh1.val (.g [.s, .s, .b, .l, .i .i64]) (x0), .int .i64 (x1)] (tL_szRate x0 x1) :=
  ⟨Tryz.f71, Tryz.f71.body.getD .skip, by kernel_rfl, by kernel_rfl, by kernel_rfl, by kernel_rfl, by kernel_rfl, by kernel_rfl⟩
/-! loop.example/g00793/spec.IsWord -/
def aS_IsWord : An := ⟨[], [], []⟩
noncomputable def tS_IsWord (x0 : ByteArray) : T :=
  .call false 124 [.string (x0), .int .u8 ((97 : Int)), .int .u8 ((122 : Int)), .int .u8 ((48 : Int)), .int .u8 ((57 : Int))] (.v (.o (.b))) fun y1 =>
  .br (y1) (
    .br (decide ((↑x0.size : Int) ≤ (12 : Int))) (
      .rq ((0 : Int) ≤ (0 : Int) ∧ (0 : Int) < (↑x0.size : Int)) <|
      .ret [.bool (decide (at0 x0 (Int.toNat (0 : Int)) ≥ (97 : Int)))]) <|
    .ret [.bool (false)]) <|
  .ret [.bool (false)]
theorem fS_IsWord (x0 : ByteArray) : fits Tryz.prog aS_IsWord 72 [.string (x0)] (tS_IsWord x0) :=
  ⟨Tryz.f72, Tryz.f72.body.getD .skip, by kernel_rfl, by kernel_rfl, by kernel_rfl, by kernel_rfl, by kernel_rfl, by kernel_rfl⟩
/-! loop.example/g00793/spec.MoneyOk -/
def aS_MoneyOk : An := ⟨[], [], []⟩
noncomputable def tS_MoneyOk (x0 : ByteArray × Bool × SlV × PUnit) : T :=
  .call false 74 [.string (x0.fst)] (.v (.o (.b))) fun y1 =>
  .br (y1) (
    .call false 93 [Sh1.val (.g [.b, .l]) (x0.2)] (.v (.o (.b))) fun y2 =>
    .br (y2) (
      .ret [.bool (decide ((↑x0.2.2.1.n : Int) ≤ (4 : Int)))]) <|
    .ret [.bool (false)]) <|
  .ret [.bool (false)]
theorem fS_MoneyOk (x0 : ByteArray × Bool × SlV × PUnit) : fits Tryz.prog aS_MoneyOk 73 [Sh1.val (.g [.s, .b, .l]) (x0)] (tS_MoneyOk x0) :=
  ⟨Tryz.f73, Tryz.f73.body.getD .skip, by kernel_rfl, by kernel_rfl, by kernel_rfl, by kernel_rfl, by kernel_rfl, by kernel_rfl⟩
/-! loop.example/g00793/spec.CurKnown -/
def aS_CurKnown : An := ⟨[], [], []⟩
noncomputable def tS_CurKnown (x0 : ByteArray) : T :=
  .call false 125 [.string (x0)] (.v (.g [.s, .s, .i .i64, .i .i64])) fun y1 =>
  .ret [.bool (!ByteArray.toList y1.fst == { data := { toList := [] : Array UInt8 } : ByteArray }.toList)]
theorem fS_CurKnown (x0 : ByteArray) : fits Tryz.prog aS_CurKnown 74 [.string (x0)] (tS_CurKnown x0) :=
  ⟨Tryz.f74, Tryz.f74.body.getD .skip, by kernel_rfl, by kernel_rfl, by kernel_rfl, by kernel_rfl, by kernel_rfl, by kernel_rfl⟩
/-! loop.example/g00793/spec.RatOk -/
def aS_RatOk : An := ⟨[], [], []⟩
noncomputable def tS_RatOk (x0 : Bool × SlV × SlV × PUnit) : T :=
  .call false 93 [Sh1.val (.g [.b, .l]) ((x0.fst), x0.2.1, ())] (.v (.o (.b))) fun y1 =>
  .br (!y1) (
    .ret [.bool (false)]) <|
  .call false 126 [Sc.val .l (x0.2.2.1)] (.v (.o (.b))) fun y2 =>
  .br (!y2) (
    .ret [.bool (false)]) <|
  .br ((↑x0.2.2.1.n : Int) == (0 : Int)) (
    .ret [.bool (false)]) <|
  .br (decide ((↑x0.2.2.1.n : Int) > (18 : Int))) (
    .ret [.bool (false)]) <|
  .br (decide ((↑x0.2.1.n : Int) > (18 : Int))) (
    .ret [.bool (false)]) <|
  .call false 127 [Sc.val .l (x0.2.1), Sc.val .l (x0.2.2.1)] (.v (.o (.l))) fun y3 =>
  .fz ((1 : Nat)) [.int .i64 ((1 : Int))] 3 fun b4 c4 =>
  .call false 94 [Sc.val .l (y3), .slice (some { block := b4, off := (0 : Nat) : Go.Addr }) ((1 : Nat)) (c4)] (.v (.o (.i .i64))) fun y5 =>
  .ret [.bool (y5 == (0 : Int))]
theorem fS_RatOk (x0 : Bool × SlV × SlV × PUnit) : fits Tryz.prog aS_RatOk 75 [Sh1.val (.g [.b, .l, .l]) (x0)] (tS_RatOk x0) :=
  ⟨Tryz.f75, Tryz.f75.body.getD .skip, by kernel_rfl, by kernel_rfl, by kernel_rfl, by kernel_rfl, by kernel_rfl, by kernel_rfl⟩
/-! loop.example/g00793/spec.RatSign -/
def aS_RatSign : An := ⟨[], [], []⟩
noncomputable def tS_RatSign (x0 : Bool × SlV × SlV × PUnit) : T :=
  .rg <|
  .call true 129 [] (.v (.g [.b, .l, .l])) fun y1 =>
  .call true 128 [Sh1.val (.g [.b, .l, .l]) (x0), Sh1.val (.g [.b, .l, .l]) (y1)] (.v (.o (.i .i64))) fun y2 =>
  .ret [.int .i64 (y2)]
theorem fS_RatSign (x0 : Bool × SlV × SlV × PUnit) : fits Tryz.prog aS_RatSign 76 [Sh1.val (.g [.b, .l, .l]) (x0)] (tS_RatSign x0) :=
  ⟨Tryz.f76, Tryz.f76.body.getD .skip, by kernel_rfl, by kernel_rfl, by kernel_rfl, by kernel_rfl, by kernel_rfl, by kernel_rfl⟩
/-! loop.example/g00793/spec.RateOk -/
def aS_RateOk : An := ⟨[], [], []⟩
noncomputable def tS_RateOk (x0 : ByteArray × ByteArray × Bool × SlV × Int × PUnit) : T :=
  .call false 74 [.string (x0.fst)] (.v (.o (.b))) fun y1 =>
  .br (y1) (
    .call false 74 [.string (x0.2.fst)] (.v (.o (.b))) fun y2 =>
    .br (y2) (
      .br (!ByteArray.toList x0.fst == ByteArray.toList x0.2.fst) (
        .call false 130 [Sh1.val (.g [.b, .l, .i .i64]) (x0.2.2)] (.v (.o (.b))) fun y3 =>
        .br (y3) (
          .call false 18 [Sh1.val (.g [.b, .l]) ((x0.2.2.fst), x0.2.2.2.1, ())] (.v (.o (.i .i64))) fun y4 =>
          .br (decide (y4 > (0 : Int))) (
            .ret [.bool (decide ((↑x0.2.2.2.1.n : Int) ≤ (2 : Int)))]) <|
          .ret [.bool (false)]) <|
        .ret [.bool (false)]) <|
      .ret [.bool (false)]) <|
    .ret [.bool (false)]) <|
  .ret [.bool (false)]
theorem fS_RateOk (x0 : ByteArray × ByteArray × Bool × SlV × Int × PUnit) : fits Tryz.prog aS_RateOk 77 [Sh1.val (.g [.s, .s, .b, .l, .i .i64]) (x0)] (tS_RateOk x0) :=
  ⟨Tryz.f77, Tryz.f77.body.getD .skip, by kernel_rfl, by kernel_rfl, by kernel_rfl, by kernel_rfl, by kernel_rfl, by kernel_rfl⟩
/-! loop.example/g00793/spec.l10At -/
def aS_l10At : An := ⟨[(2, [.s 11], [.o (.o (.i .i64))])], [], []⟩
noncomputable def tS_l10At (x0 : SlV) (x1 : ByteArray) (x2 : ByteArray) : T :=
  .lp [.o (.o (.i .i64))] [.v (.int .i64 ((0 : Int)))] fun y1 =>
  .br (decide (y1.fst < (↑x0.n : Int))) (
    .el (x0.a) (x0.n) (y1.fst) fun y2 =>
    .ld false (y2.add (Int.toNat y1.fst * (5 : Nat))) (.g [.s, .s, .b, .l, .i .i64]) fun y3 =>
    .br (ByteArray.toList y3.fst == x1.toList) (
      .br (ByteArray.toList y3.2.fst == x2.toList) (
        .ret [.int .i64 (y1.fst)]) <|
      .nx 0 [.v (.int .i64 (Go.IntKind.i64.wrap (y1.fst + (1 : Int))))]) <|
    .nx 0 [.v (.int .i64 (Go.IntKind.i64.wrap (y1.fst + (1 : Int))))]) <|
  .ret [.int .i64 ((-1 : Int))]
theorem fS_l10At (x0 : SlV) (x1 : ByteArray) (x2 : ByteArray) : fits Tryz.prog aS_l10At 78 [Sc.val .l (x0), .string (x1), .string (x2)] (tS_l10At x0 x1 x2) :=
  ⟨Tryz.f78, Tryz.f78.body.getD .skip, by kernel_rfl, by kernel_rfl, by kernel_rfl, by kernel_rfl, by kernel_rfl, by kernel_rfl⟩
/-! loop.example/g00793/spec.l22Op -/
def aS_l22Op : An := ⟨[], [], []⟩
noncomputable def tS_l22Op (x0 : Int) : T :=
  .call false 88 [.int .i64 (x0), .int .i64 ((1 : Int)), .int .i64 ((9 : Int))] (.v (.o (.b))) fun y1 =>
  .ret [.bool (y1)]
theorem fS_l22Op (x0 : Int) : fits Tryz.prog aS_l22Op 79 [.int .i64 (x0)] (tS_l22Op x0) :=
  ⟨Tryz.f79, Tryz.f79.body.getD .skip, by kernel_rfl, by kernel_rfl, by kernel_rfl, by kernel_rfl, by kernel_rfl, by kernel_rfl⟩
/-! loop.example/g00793/spec.IsCode -/
def aS_IsCode : An := ⟨[], [], []⟩
noncomputable def tS_IsCode (x0 : ByteArray) : T :=
  .call false 124 [.string (x0), .int .u8 ((65 : Int)), .int .u8 ((90 : Int)), .int .u8 ((65 : Int)), .int .u8 ((90 : Int))] (.v (.o (.b))) fun y1 =>
  .br (y1) (
    .ret [.bool ((↑x0.size : Int) == (3 : Int))]) <|
  .ret [.bool (false)]
theorem fS_IsCode (x0 : ByteArray) : fits Tryz.prog aS_IsCode 80 [.string (x0)] (tS_IsCode x0) :=
  ⟨Tryz.f80, Tryz.f80.body.getD .skip, by kernel_rfl, by kernel_rfl, by kernel_rfl, by kernel_rfl, by kernel_rfl, by kernel_rfl⟩
/-! loop.example/g00793/spec.l21Money -/
def aS_l21Money : An := ⟨[], [], []⟩
noncomputable def tS_l21Money (x0 : ByteArray × Bool × SlV × PUnit) : T :=
  .call false 73 [Sh1.val (.g [.s, .b, .l]) (x0)] (.v (.o (.b))) fun y1 =>
  .br (y1) (
    .ret [.bool (!x0.2.fst)]) <|
  .ret [.bool (false)]
theorem fS_l21Money (x0 : ByteArray × Bool × SlV × PUnit) : fits Tryz.prog aS_l21Money 81 [Sh1.val (.g [.s, .b, .l]) (x0)] (tS_l21Money x0) :=
  ⟨Tryz.f81, Tryz.f81.body.getD .skip, by kernel_rfl, by kernel_rfl, by kernel_rfl, by kernel_rfl, by kernel_rfl, by kernel_rfl⟩
/-! loop.example/g00793/spec.l06Mode -/
def aS_l06Mode : An := ⟨[], [], []⟩
noncomputable def tS_l06Mode (x0 : Int) : T :=
  .call false 88 [.int .i64 (x0), .int .i64 ((0 : Int)), .int .i64 ((6 : Int))] (.v (.o (.b))) fun y1 =>
  .ret [.bool (y1)]
theorem fS_l06Mode (x0 : Int) : fits Tryz.prog aS_l06Mode 82 [.int .i64 (x0)] (tS_l06Mode x0) :=
  ⟨Tryz.f82, Tryz.f82.body.getD .skip, by kernel_rfl, by kernel_rfl, by kernel_rfl, by kernel_rfl, by kernel_rfl, by kernel_rfl⟩
/-! loop.example/g00793/spec.l22Weights -/
def aS_l22Weights : An := ⟨[(2, [.s 9], [.o (.o (.i .i64))])], [], []⟩
noncomputable def tS_l22Weights (x0 : SlV) (x1 : SlV) : T :=
  .lp [.o (.o (.i .i64))] [.v (.int .i64 ((0 : Int)))] fun y1 =>
  .br (decide (y1.fst < (↑x1.n : Int))) (
    .el (x1.a) (x1.n) (y1.fst) fun y2 =>
    .ld false (y2.add (Int.toNat y1.fst * (1 : Nat))) (.o (.i .i64)) fun y3 =>
    .call false 88 [.int .i64 (y3), .int .i64 ((0 : Int)), .int .i64 ((1000000000 : Int))] (.v (.o (.b))) fun y4 =>
    .br (!y4) (
      .ret [.bool (false)]) <|
    .nx 0 [.v (.int .i64 (Go.IntKind.i64.wrap (y1.fst + (1 : Int))))]) <|
  .br ((↑x0.n : Int) == (↑x1.n : Int)) (
    .call false 88 [.int .i64 ((↑x1.n : Int)), .int .i64 ((1 : Int)), .int .i64 ((30 : Int))] (.v (.o (.b))) fun y2 =>
    .br (y2) (
      .call false 131 [Sc.val .l (x0)] (.v (.o (.b))) fun y3 =>
      .ret [.bool (y3)]) <|
    .ret [.bool (false)]) <|
  .ret [.bool (false)]
theorem fS_l22Weights (x0 : SlV) (x1 : SlV) : fits Tryz.prog aS_l22Weights 83 [Sc.val .l (x0), Sc.val .l (x1)] (tS_l22Weights x0 x1) :=
  ⟨Tryz.f83, Tryz.f83.body.getD .skip, by kernel_rfl, by kernel_rfl, by kernel_rfl, by kernel_rfl, by kernel_rfl, by kernel_rfl⟩
/-! loop.example/g00793/spec.TaxRateOk -/
def aS_TaxRateOk : An := ⟨[], [], []⟩
noncomputable def tS_TaxRateOk (x0 : Bool × SlV × Int × PUnit) : T :=
  .rg <|
  .call true 130 [Sh1.val (.g [.b, .l, .i .i64]) (x0)] (.v (.o (.b))) fun y1 =>
  .br (y1) (
    .br (!x0.fst) (
      .br (decide ((↑x0.2.1.n : Int) ≤ (1 : Int))) (
        .call true 92 [.int .i64 ((1 : Int))] (.v (.g [.b, .l])) fun y2 =>
        .call true 132 [Sh1.val (.g [.b, .l, .i .i64]) (x0), Sh1.val (.g [.b, .l, .i .i64]) ((y2.fst), y2.2.1, (((0 : Int)) : Int), ())] (.v (.o (.i .i64))) fun y3 =>
        .ret [.bool (decide (y3 ≤ (0 : Int)))]) <|
      .ret [.bool (false)]) <|
    .ret [.bool (false)]) <|
  .ret [.bool (false)]
theorem fS_TaxRateOk (x0 : Bool × SlV × Int × PUnit) : fits Tryz.prog aS_TaxRateOk 84 [Sh1.val (.g [.b, .l, .i .i64]) (x0)] (tS_TaxRateOk x0) :=
  ⟨Tryz.f84, Tryz.f84.body.getD .skip, by kernel_rfl, by kernel_rfl, by kernel_rfl, by kernel_rfl, by kernel_rfl, by kernel_rfl⟩
/-! loop.example/g00793/spec.DecText -/
def aS_DecText : An := ⟨[], [], []⟩
noncomputable def tS_DecText (x0 : Bool × SlV × Int × PUnit) : T :=
  .call false 130 [Sh1.val (.g [.b, .l, .i .i64]) (x0)] (.v (.o (.b))) fun y1 =>
  .br (!y1) (
    .ret [.string ({ data := { toList := [] : Array UInt8 } : ByteArray })]) <|
  .rg <|
  .call true 134 [Sc.val .l (x0.2.1)] (.v (.o (.s))) fun y2 =>
  .call true 133 [.string (y2), .int .i64 (Go.IntKind.i64.wrap (x0.2.2.fst + (1 : Int)))] (.v (.o (.s))) fun y3 =>
  .br (decide (x0.2.2.fst > (0 : Int))) (
    .rg <|
    .rq ((0 : Int) ≤ (0 : Int) ∧ (0 : Int) ≤ Go.IntKind.i64.wrap ((↑y3.size : Int) - x0.2.2.fst) ∧ Go.IntKind.i64.wrap ((↑y3.size : Int) - x0.2.2.fst) ≤ (↑y3.size : Int)) <|
    .rq ((y3.extract (Int.toNat (0 : Int)) (Go.IntKind.i64.wrap ((↑y3.size : Int) - x0.2.2.fst)).toNat).size + { data := { toList := [(46 : UInt8)] : Array UInt8 } : ByteArray }.size ≤ (9223372036854775807 : Nat)) <|
    .rq ((0 : Int) ≤ Go.IntKind.i64.wrap ((↑y3.size : Int) - x0.2.2.fst) ∧ Go.IntKind.i64.wrap ((↑y3.size : Int) - x0.2.2.fst) ≤ (↑y3.size : Int) ∧ (↑y3.size : Int) ≤ (↑y3.size : Int)) <|
    .rq ((y3.extract (Int.toNat (0 : Int)) (Go.IntKind.i64.wrap ((↑y3.size : Int) - x0.2.2.fst)).toNat ++ { data := { toList := [(46 : UInt8)] : Array UInt8 } : ByteArray }).size + (y3.extract (Go.IntKind.i64.wrap ((↑y3.size : Int) - x0.2.2.fst)).toNat (↑y3.size : Int).toNat).size ≤ (9223372036854775807 : Nat)) <|
    .br (x0.fst) (
      .rq ({ data := { toList := [(45 : UInt8)] : Array UInt8 } : ByteArray }.size + (y3.extract (Int.toNat (0 : Int)) (Go.IntKind.i64.wrap ((↑y3.size : Int) - x0.2.2.fst)).toNat ++ { data := { toList := [(46 : UInt8)] : Array UInt8 } : ByteArray } ++ y3.extract (Go.IntKind.i64.wrap ((↑y3.size : Int) - x0.2.2.fst)).toNat (↑y3.size : Int).toNat).size ≤ (9223372036854775807 : Nat)) <|
      .ret [.string ({ data := { toList := [(45 : UInt8)] : Array UInt8 } : ByteArray } ++ (y3.extract (Int.toNat (0 : Int)) (Go.IntKind.i64.wrap ((↑y3.size : Int) - x0.2.2.fst)).toNat ++ { data := { toList := [(46 : UInt8)] : Array UInt8 } : ByteArray } ++ y3.extract (Go.IntKind.i64.wrap ((↑y3.size : Int) - x0.2.2.fst)).toNat (↑y3.size : Int).toNat))]) <|
    .ret [.string (y3.extract (Int.toNat (0 : Int)) (Go.IntKind.i64.wrap ((↑y3.size : Int) - x0.2.2.fst)).toNat ++ { data := { toList := [(46 : UInt8)] : Array UInt8 } : ByteArray } ++ y3.extract (Go.IntKind.i64.wrap ((↑y3.size : Int) - x0.2.2.fst)).toNat (↑y3.size : Int).toNat)]) <|
  .br (x0.fst) (
    .rq ({ data := { toList := [(45 : UInt8)] : Array UInt8 } : ByteArray }.size + y3.size ≤ (9223372036854775807 : Nat)) <|
    .ret [.string ({ data := { toList := [(45 : UInt8)] : Array UInt8 } : ByteArray } ++ y3)]) <|
  .ret [.string (y3)]
theorem fS_DecText (x0 : Bool × SlV × Int × PUnit) : fits Tryz.prog aS_DecText 85 [Sh1.val (.g [.b, .l, .i .i64]) (x0)] (tS_DecText x0) :=
  ⟨Tryz.f85, Tryz.f85.body.getD .skip, by kernel_rfl, by kernel_rfl, by kernel_rfl, by kernel_rfl, by kernel_rfl, by kernel_rfl⟩
/-! loop.example/g00793/spec.DecLow -/
def aS_DecLow : An := ⟨[(2, [.s 3, .c 2 0, .c 2 1, .c 2 2], [.o (.o (.i .i64)), .o (.o (.b)), .o (.o (.l)), .o (.o (.i .i64))])], [], []⟩
noncomputable def tS_DecLow (x0 : Bool × SlV × Int × PUnit) : T :=
  .lp [.o (.o (.i .i64)), .o (.o (.b)), .o (.o (.l)), .o (.o (.i .i64))] [.v (.int .i64 ((0 : Int))), .v (.bool (false)), .v (.slice (none) ((0 : Nat)) ((0 : Nat))), .v (.int .i64 ((0 : Int)))] fun y1 =>
  .br (decide (y1.fst ≤ (30 : Int))) (
    .call false 135 [Sh1.val (.g [.b, .l, .i .i64]) (x0), .int .i64 (y1.fst)] (.t [(.g [.b, .l, .i .i64]), (.o (.b))]) fun y2 =>
    .br (y2.2.fst) (
      .ret [Sh1.val (.g [.b, .l, .i .i64]) (y2.1)]) <|
    .nx 0 [.v (.int .i64 (Go.IntKind.i64.wrap (y1.fst + (1 : Int)))), .v (.bool (y1.2.fst)), .v (Sc.val .l (y1.2.2.1)), .v (.int .i64 (y1.2.2.2.fst))]) <|
  .ret [Sh1.val (.g [.b, .l, .i .i64]) ((false), (⟨(none), ((0 : Nat)), ((0 : Nat))⟩ : SlV), (((0 : Int)) : Int), ())]
theorem fS_DecLow (x0 : Bool × SlV × Int × PUnit) : fits Tryz.prog aS_DecLow 86 [Sh1.val (.g [.b, .l, .i .i64]) (x0)] (tS_DecLow x0) :=
  ⟨Tryz.f86, Tryz.f86.body.getD .skip, by kernel_rfl, by kernel_rfl, by kernel_rfl, by kernel_rfl, by kernel_rfl, by kernel_rfl⟩
/-! loop.example/g00793/spec.l22Zero -/
def aS_l22Zero : An := ⟨[], [], []⟩
noncomputable def tS_l22Zero (x0 : Bool × SlV × Int × PUnit) : T :=
  .br (x0.2.2.fst == (0 : Int)) (
    .br (!x0.fst) (
      .ret [.bool ((↑x0.2.1.n : Int) == (0 : Int))]) <|
    .ret [.bool (false)]) <|
  .ret [.bool (false)]
theorem fS_l22Zero (x0 : Bool × SlV × Int × PUnit) : fits Tryz.prog aS_l22Zero 87 [Sh1.val (.g [.b, .l, .i .i64]) (x0)] (tS_l22Zero x0) :=
  ⟨Tryz.f87, Tryz.f87.body.getD .skip, by kernel_rfl, by kernel_rfl, by kernel_rfl, by kernel_rfl, by kernel_rfl, by kernel_rfl⟩
/-! loop.example/g00793/spec.l01In -/
def aS_l01In : An := ⟨[], [], []⟩
noncomputable def tS_l01In (x0 : Int) (x1 : Int) (x2 : Int) : T :=
  .br (decide (x0 ≥ x1)) (
    .ret [.bool (decide (x0 ≤ x2))]) <|
  .ret [.bool (false)]
theorem fS_l01In (x0 : Int) (x1 : Int) (x2 : Int) : fits Tryz.prog aS_l01In 88 [.int .i64 (x0), .int .i64 (x1), .int .i64 (x2)] (tS_l01In x0 x1 x2) :=
  ⟨Tryz.f88, Tryz.f88.body.getD .skip, by kernel_rfl, by kernel_rfl, by kernel_rfl, by kernel_rfl, by kernel_rfl, by kernel_rfl⟩
/-! loop.example/g00793/spec.CurPlaces -/
def aS_CurPlaces : An := ⟨[], [], []⟩
noncomputable def tS_CurPlaces (x0 : ByteArray) : T :=
  .call false 125 [.string (x0)] (.v (.g [.s, .s, .i .i64, .i .i64])) fun y1 =>
  .ret [.int .i64 (y1.2.2.fst)]
theorem fS_CurPlaces (x0 : ByteArray) : fits Tryz.prog aS_CurPlaces 89 [.string (x0)] (tS_CurPlaces x0) :=
  ⟨Tryz.f89, Tryz.f89.body.getD .skip, by kernel_rfl, by kernel_rfl, by kernel_rfl, by kernel_rfl, by kernel_rfl, by kernel_rfl⟩
/-! loop.example/g00793/spec.IntText -/
def aS_IntText : An := ⟨[(6, [.s 0, .s 3], [.o (.o (.i .i64)), .o (.o (.s))])], [], []⟩
noncomputable def tS_IntText (x0 : Int) : T :=
  .br (decide (x0 < (0 : Int))) (
    .rq ((10 : Int) ≠ (0 : Int)) <|
    .br (Go.IntKind.i64.wrap (x0.tdiv (10 : Int)) == (0 : Int)) (
      .fz ((1 : Nat)) [.int .u8 (Go.IntKind.u8.wrap (Go.IntKind.i64.wrap ((48 : Int) - x0)))] 5 fun b1 c1 =>
      .rd ({ a := some { block := b1, off := (0 : Nat) : Go.Addr }, n := (1 : Nat), c := c1 : SlV }) ((1 : Nat)) fun y2 =>
      .rq (bytesOf y2 ≠ none) <|
      .rq ({ data := { toList := [(45 : UInt8)] : Array UInt8 } : ByteArray }.size + (bytesD y2).size ≤ (9223372036854775807 : Nat)) <|
      .ret [.string ({ data := { toList := [(45 : UInt8)] : Array UInt8 } : ByteArray } ++ bytesD y2)]) <|
    .no) <|
  .lp [.o (.o (.i .i64)), .o (.o (.s))] [.v (.int .i64 (x0)), .v (.string ({ data := { toList := [] : Array UInt8 } : ByteArray }))] fun y1 =>
  .br (decide (y1.fst > (9 : Int))) (
    .rq ((10 : Int) ≠ (0 : Int)) <|
    .fz ((1 : Nat)) [.int .u8 (Go.IntKind.u8.wrap (Go.IntKind.i64.wrap ((48 : Int) + Int.tmod y1.fst (10 : Int))))] 5 fun b2 c2 =>
    .rd ({ a := some { block := b2, off := (0 : Nat) : Go.Addr }, n := (1 : Nat), c := c2 : SlV }) ((1 : Nat)) fun y3 =>
    .rq (bytesOf y3 ≠ none) <|
    .rq ((bytesD y3).size + ByteArray.size y1.2.fst ≤ (9223372036854775807 : Nat)) <|
    .rq ((10 : Int) ≠ (0 : Int)) <|
    .nx 0 [.v (.int .i64 (Go.IntKind.i64.wrap (Int.tdiv y1.fst (10 : Int)))), .v (.string (bytesD y3 ++ y1.2.fst))]) <|
  .fz ((1 : Nat)) [.int .u8 (Go.IntKind.u8.wrap (Go.IntKind.i64.wrap ((48 : Int) + y1.fst)))] 5 fun b2 c2 =>
  .rd ({ a := some { block := b2, off := (0 : Nat) : Go.Addr }, n := (1 : Nat), c := c2 : SlV }) ((1 : Nat)) fun y3 =>
  .rq (bytesOf y3 ≠ none) <|
  .rq ((bytesD y3).size + ByteArray.size y1.2.fst ≤ (9223372036854775807 : Nat)) <|
  .ret [.string (bytesD y3 ++ y1.2.fst)]
theorem fS_IntText (x0 : Int) : fits Tryz.prog aS_IntText 90 [.int .i64 (x0)] (tS_IntText x0) :=
  ⟨Tryz.f90, Tryz.f90.body.getD .skip, by kernel_rfl, by kernel_rfl, by kernel_rfl, by kernel_rfl, by kernel_rfl, by kernel_rfl⟩
/-! loop.example/g00793/spec.DecMul -/
def aS_DecMul : An := ⟨[], [], []⟩
noncomputable def tS_DecMul (x0 : Bool × SlV × Int × PUnit) (x1 : Bool × SlV × Int × PUnit) : T :=
  .call false 130 [Sh1.val (.g [.b, .l, .i .i64]) (x0)] (.v (.o (.b))) fun y1 =>
  .br (!y1) (
    .ret [Sh1.val (.g [.b, .l, .i .i64]) ((false), (⟨(none), ((0 : Nat)), ((0 : Nat))⟩ : SlV), (((0 : Int)) : Int), ()), .bool (false)]) <|
  .call false 130 [Sh1.val (.g [.b, .l, .i .i64]) (x1)] (.v (.o (.b))) fun y2 =>
  .br (!y2) (
    .ret [Sh1.val (.g [.b, .l, .i .i64]) ((false), (⟨(none), ((0 : Nat)), ((0 : Nat))⟩ : SlV), (((0 : Int)) : Int), ()), .bool (false)]) <|
  .rg <|
  .call true 137 [Sh1.val (.g [.b, .l]) ((x0.fst), x0.2.1, ()), Sh1.val (.g [.b, .l]) ((x1.fst), x1.2.1, ())] (.v (.g [.b, .l])) fun y3 =>
  .call true 136 [Sh1.val (.g [.b, .l]) (y3), .int .i64 (Go.IntKind.i64.wrap (x0.2.2.fst + x1.2.2.fst))] (.t [(.g [.b, .l, .i .i64]), (.o (.b))]) fun y4 =>
  .ret [Sh1.val (.g [.b, .l, .i .i64]) (y4.1), .bool (y4.2.fst)]
theorem fS_DecMul (x0 : Bool × SlV × Int × PUnit) (x1 : Bool × SlV × Int × PUnit) : fits Tryz.prog aS_DecMul 91 [Sh1.val (.g [.b, .l, .i .i64]) (x0), Sh1.val (.g [.b, .l, .i .i64]) (x1)] (tS_DecMul x0 x1) :=
  ⟨Tryz.f91, Tryz.f91.body.getD .skip, by kernel_rfl, by kernel_rfl, by kernel_rfl, by kernel_rfl, by kernel_rfl, by kernel_rfl⟩
/-! loop.example/g00793/spec.IntOf -/
def aS_IntOf : An := ⟨[], [], []⟩
noncomputable def tS_IntOf (x0 : Int) : T :=
  .br (x0 == (-9223372036854775808 : Int)) (
    .fz ((3 : Nat)) [.int .i64 ((854775808 : Int)), .int .i64 ((223372036 : Int)), .int .i64 ((9 : Int))] 3 fun b1 c1 =>
    .call false 95 [.bool (true), .slice (some { block := b1, off := (0 : Nat) : Go.Addr }) ((3 : Nat)) (c1)] (.v (.g [.b, .l])) fun y2 =>
    .ret [Sh1.val (.g [.b, .l]) (y2)]) <|
  .br (decide (x0 < (0 : Int))) (
    .call false 138 [.int .i64 (Go.IntKind.i64.wrap ((0 : Int) - x0))] (.v (.o (.l))) fun y1 =>
    .call false 95 [.bool (true), Sc.val .l (y1)] (.v (.g [.b, .l])) fun y2 =>
    .ret [Sh1.val (.g [.b, .l]) (y2)]) <|
  .call false 138 [.int .i64 (x0)] (.v (.o (.l))) fun y1 =>
  .call false 95 [.bool (false), Sc.val .l (y1)] (.v (.g [.b, .l])) fun y2 =>
  .ret [Sh1.val (.g [.b, .l]) (y2)]
theorem fS_IntOf (x0 : Int) : fits Tryz.prog aS_IntOf 92 [.int .i64 (x0)] (tS_IntOf x0) :=
  ⟨Tryz.f92, Tryz.f92.body.getD .skip, by kernel_rfl, by kernel_rfl, by kernel_rfl, by kernel_rfl, by kernel_rfl, by kernel_rfl⟩
/-! loop.example/g00793/spec.IntOk -/
def aS_IntOk : An := ⟨[], [], []⟩
noncomputable def tS_IntOk (x0 : Bool × SlV × PUnit) : T :=
  .call false 126 [Sc.val .l (x0.2.1)] (.v (.o (.b))) fun y1 =>
  .br (y1) (
    .br (!x0.fst) (
      .ret [.bool (true)]) <|
    .ret [.bool (decide ((↑x0.2.1.n : Int) > (0 : Int)))]) <|
  .ret [.bool (false)]
theorem fS_IntOk (x0 : Bool × SlV × PUnit) : fits Tryz.prog aS_IntOk 93 [Sh1.val (.g [.b, .l]) (x0)] (tS_IntOk x0) :=
  ⟨Tryz.f93, Tryz.f93.body.getD .skip, by kernel_rfl, by kernel_rfl, by kernel_rfl, by kernel_rfl, by kernel_rfl, by kernel_rfl⟩
/-! loop.example/g00793/spec.l02Cmp -/
def aS_l02Cmp : An := ⟨[(6, [.s 5], [.o (.o (.i .i64))])], [], []⟩
noncomputable def tS_l02Cmp (x0 : SlV) (x1 : SlV) : T :=
  .br ((↑x0.n : Int) != (↑x1.n : Int)) (
    .br (decide ((↑x0.n : Int) < (↑x1.n : Int))) (
      .ret [.int .i64 ((-1 : Int))]) <|
    .ret [.int .i64 ((1 : Int))]) <|
  .lp [.o (.o (.i .i64))] [.v (.int .i64 (Go.IntKind.i64.wrap ((↑x0.n : Int) - (1 : Int))))] fun y1 =>
  .br (decide (y1.fst ≥ (0 : Int))) (
    .rg <|
    .el (x0.a) (x0.n) (y1.fst) fun y2 =>
    .ld true (y2.add (Int.toNat y1.fst * (1 : Nat))) (.o (.i .i64)) fun y3 =>
    .el (x1.a) (x1.n) (y1.fst) fun y4 =>
    .ld true (y4.add (Int.toNat y1.fst * (1 : Nat))) (.o (.i .i64)) fun y5 =>
    .br (decide (y3 < y5)) (
      .ret [.int .i64 ((-1 : Int))]) <|
    .rg <|
    .el (x0.a) (x0.n) (y1.fst) fun y6 =>
    .ld true (y6.add (Int.toNat y1.fst * (1 : Nat))) (.o (.i .i64)) fun y7 =>
    .el (x1.a) (x1.n) (y1.fst) fun y8 =>
    .ld true (y8.add (Int.toNat y1.fst * (1 : Nat))) (.o (.i .i64)) fun y9 =>
    .br (decide (y7 > y9)) (
      .ret [.int .i64 ((1 : Int))]) <|
    .nx 0 [.v (.int .i64 (Go.IntKind.i64.wrap (y1.fst - (1 : Int))))]) <|
  .ret [.int .i64 ((0 : Int))]
theorem fS_l02Cmp (x0 : SlV) (x1 : SlV) : fits Tryz.prog aS_l02Cmp 94 [Sc.val .l (x0), Sc.val .l (x1)] (tS_l02Cmp x0 x1) :=
  ⟨Tryz.f94, Tryz.f94.body.getD .skip, by kernel_rfl, by kernel_rfl, by kernel_rfl, by kernel_rfl, by kernel_rfl, by kernel_rfl⟩
/-! loop.example/g00793/spec.l04Make -/
def aS_l04Make : An := ⟨[], [], []⟩
noncomputable def tS_l04Make (x0 : Bool) (x1 : SlV) : T :=
  .call false 139 [Sc.val .l (x1)] (.v (.o (.l))) fun y1 =>
  .br (x0) (
    .rd ({ a := y1.a, n := y1.n, c := y1.c : SlV }) ((1 : Nat)) fun y2 =>
    .rq (one y2 = true ∧ ((0 : Nat) + y1.n) * (8 : Nat) ≤ (140737488355328 : Nat) ∧ (0 : Nat) + y1.n ≤ (9223372036854775807 : Nat)) <|
    .fz ((0 : Nat) + y1.n) ([] ++ y2) 3 fun b3 c3 =>
    .ret [Sh1.val (.g [.b, .l]) ((decide ((↑y1.n : Int) > (0 : Int))), (⟨(some { block := b3, off := (0 : Nat) : Go.Addr }), ((0 : Nat) + y1.n), (c3)⟩ : SlV), ())]) <|
  .rd ({ a := y1.a, n := y1.n, c := y1.c : SlV }) ((1 : Nat)) fun y2 =>
  .rq (one y2 = true ∧ ((0 : Nat) + y1.n) * (8 : Nat) ≤ (140737488355328 : Nat) ∧ (0 : Nat) + y1.n ≤ (9223372036854775807 : Nat)) <|
  .fz ((0 : Nat) + y1.n) ([] ++ y2) 3 fun b3 c3 =>
  .ret [Sh1.val (.g [.b, .l]) ((false), (⟨(some { block := b3, off := (0 : Nat) : Go.Addr }), ((0 : Nat) + y1.n), (c3)⟩ : SlV), ())]
theorem fS_l04Make (x0 : Bool) (x1 : SlV) : fits Tryz.prog aS_l04Make 95 [.bool (x0), Sc.val .l (x1)] (tS_l04Make x0 x1) :=
  ⟨Tryz.f95, Tryz.f95.body.getD .skip, by kernel_rfl, by kernel_rfl, by kernel_rfl, by kernel_rfl, by kernel_rfl, by kernel_rfl⟩
/-! loop.example/g00793/laws.toAcct -/
def aL_toAcct : An := ⟨[], [], []⟩
noncomputable def tL_toAcct (x0 : ByteArray × ByteArray × Bool × SlV × PUnit) : T :=
  .call false 140 [Sh1.val (.g [.s, .b, .l]) (x0.2)] (.v (.g [.s, .b, .l])) fun y1 =>
  .ret [Sh1.val (.g [.s, .s, .b, .l]) ((x0.fst), (y1.fst), (y1.2.fst), y1.2.2.1, ())]
theorem fL_toAcct (x0 : ByteArray × ByteArray × Bool × SlV × PUnit) : fits Tryz.prog aL_toAcct 96 [Sh1.val (.g [.s, .s, .b, .l]) (x0)] (tL_toAcct x0) :=
  ⟨Tryz.f96, Tryz.f96.body.getD .skip, by kernel_rfl, by kernel_rfl, by kernel_rfl, by kernel_rfl, by kernel_rfl, by kernel_rfl⟩
/-! loop.example/g00793/laws.toRat -/
def aL_toRat : An := ⟨[], [], []⟩
noncomputable def tL_toRat (x0 : Bool × SlV × SlV × PUnit) : T :=
  .call false 141 [Sh1.val (.g [.b, .l]) ((x0.fst), x0.2.1, ())] (.v (.g [.b, .l])) fun y1 =>
  .call false 142 [Sc.val .l (x0.2.2.1)] (.v (.o (.l))) fun y2 =>
  .ret [Sh1.val (.g [.b, .l, .l]) ((y1.fst), y1.2.1, y2, ())]
theorem fL_toRat (x0 : Bool × SlV × SlV × PUnit) : fits Tryz.prog aL_toRat 97 [Sh1.val (.g [.b, .l, .l]) (x0)] (tL_toRat x0) :=
  ⟨Tryz.f97, Tryz.f97.body.getD .skip, by kernel_rfl, by kernel_rfl, by kernel_rfl, by kernel_rfl, by kernel_rfl, by kernel_rfl⟩
/-! loop.example/g00793/laws.toRate -/
def aL_toRate : An := ⟨[], [], []⟩
noncomputable def tL_toRate (x0 : ByteArray × ByteArray × Bool × SlV × Int × PUnit) : T :=
  .call false 143 [Sh1.val (.g [.b, .l, .i .i64]) (x0.2.2)] (.v (.g [.b, .l, .i .i64])) fun y1 =>
  .ret [Sh1.val (.g [.s, .s, .b, .l, .i .i64]) ((x0.fst), (x0.2.fst), (y1.fst), y1.2.1, ((y1.2.2.fst) : Int), ())]
theorem fL_toRate (x0 : ByteArray × ByteArray × Bool × SlV × Int × PUnit) : fits Tryz.prog aL_toRate 98 [Sh1.val (.g [.s, .s, .b, .l, .i .i64]) (x0)] (tL_toRate x0) :=
  ⟨Tryz.f98, Tryz.f98.body.getD .skip, by kernel_rfl, by kernel_rfl, by kernel_rfl, by kernel_rfl, by kernel_rfl, by kernel_rfl⟩
/-! loop.example/g00793/impl.IsWord -/
def aI_IsWord : An := ⟨[(4, [.s 3], [.o (.o (.i .i64))])], [], []⟩
noncomputable def tI_IsWord (x0 : ByteArray) : T :=
  .br (decide ((↑x0.size : Int) < (1 : Int))) (
    .ret [.bool (false)]) <|
  .br (decide ((↑x0.size : Int) > (12 : Int))) (
    .ret [.bool (false)]) <|
  .rq ((0 : Int) ≤ (0 : Int) ∧ (0 : Int) < (↑x0.size : Int)) <|
  .call false 144 [.int .u8 (at0 x0 (Int.toNat (0 : Int)))] (.v (.o (.b))) fun y1 =>
  .br (!y1) (
    .ret [.bool (false)]) <|
  .lp [.o (.o (.i .i64))] [.v (.int .i64 ((1 : Int)))] fun y2 =>
  .br (decide (y2.fst < (↑x0.size : Int))) (
    .rq ((0 : Int) ≤ y2.fst ∧ y2.fst < (↑x0.size : Int)) <|
    .call false 144 [.int .u8 (at0 x0 (Int.toNat y2.fst))] (.v (.o (.b))) fun y3 =>
    .br (!y3) (
      .rq ((0 : Int) ≤ y2.fst ∧ y2.fst < (↑x0.size : Int)) <|
      .call false 145 [.int .u8 (at0 x0 (Int.toNat y2.fst))] (.v (.o (.b))) fun y4 =>
      .br (!y4) (
        .ret [.bool (false)]) <|
      .nx 0 [.v (.int .i64 (Go.IntKind.i64.wrap (y2.fst + (1 : Int))))]) <|
    .nx 0 [.v (.int .i64 (Go.IntKind.i64.wrap (y2.fst + (1 : Int))))]) <|
  .ret [.bool (true)]
theorem fI_IsWord (x0 : ByteArray) : fits Tryz.prog aI_IsWord 99 [.string (x0)] (tI_IsWord x0) :=
  ⟨Tryz.f99, Tryz.f99.body.getD .skip, by kernel_rfl, by kernel_rfl, by kernel_rfl, by kernel_rfl, by kernel_rfl, by kernel_rfl⟩
/-! loop.example/g00793/impl.MoneyOk -/
def aI_MoneyOk : An := ⟨[], [], []⟩
noncomputable def tI_MoneyOk (x0 : ByteArray × Bool × SlV × PUnit) : T :=
  .call false 101 [.string (x0.fst)] (.v (.o (.b))) fun y1 =>
  .br (y1) (
    .call false 146 [Sh1.val (.g [.b, .l]) (x0.2)] (.v (.o (.b))) fun y2 =>
    .br (y2) (
      .ret [.bool (decide ((↑x0.2.2.1.n : Int) ≤ (4 : Int)))]) <|
    .ret [.bool (false)]) <|
  .ret [.bool (false)]
theorem fI_MoneyOk (x0 : ByteArray × Bool × SlV × PUnit) : fits Tryz.prog aI_MoneyOk 100 [Sh1.val (.g [.s, .b, .l]) (x0)] (tI_MoneyOk x0) :=
  ⟨Tryz.f100, Tryz.f100.body.getD .skip, by kernel_rfl, by kernel_rfl, by kernel_rfl, by kernel_rfl, by kernel_rfl, by kernel_rfl⟩
/-! loop.example/g00793/impl.CurKnown -/
def aI_CurKnown : An := ⟨[], [], []⟩
noncomputable def tI_CurKnown (x0 : ByteArray) : T :=
  .call false 147 [.string (x0)] (.t [(.g [.s, .s, .i .i64, .i .i64]), (.o (.b))]) fun y1 =>
  .ret [.bool (y1.2.fst)]
theorem fI_CurKnown (x0 : ByteArray) : fits Tryz.prog aI_CurKnown 101 [.string (x0)] (tI_CurKnown x0) :=
  ⟨Tryz.f101, Tryz.f101.body.getD .skip, by kernel_rfl, by kernel_rfl, by kernel_rfl, by kernel_rfl, by kernel_rfl, by kernel_rfl⟩
/-! loop.example/g00793/impl.RatOk -/
def aI_RatOk : An := ⟨[], [], []⟩
noncomputable def tI_RatOk (x0 : Bool × SlV × SlV × PUnit) : T :=
  .call false 146 [Sh1.val (.g [.b, .l]) ((x0.fst), x0.2.1, ())] (.v (.o (.b))) fun y1 =>
  .br (!y1) (
    .ret [.bool (false)]) <|
  .call false 148 [Sc.val .l (x0.2.2.1)] (.v (.o (.b))) fun y2 =>
  .br (!y2) (
    .ret [.bool (false)]) <|
  .br ((↑x0.2.2.1.n : Int) == (0 : Int)) (
    .ret [.bool (false)]) <|
  .br (decide ((↑x0.2.2.1.n : Int) > (18 : Int))) (
    .ret [.bool (false)]) <|
  .br (decide ((↑x0.2.1.n : Int) > (18 : Int))) (
    .ret [.bool (false)]) <|
  .call false 149 [Sc.val .l (x0.2.1), Sc.val .l (x0.2.2.1)] (.v (.o (.l))) fun y3 =>
  .br ((↑y3.n : Int) == (1 : Int)) (
    .el (y3.a) (y3.n) ((0 : Int)) fun y4 =>
    .ld false (y4.add (Int.toNat (0 : Int) * (1 : Nat))) (.o (.i .i64)) fun y5 =>
    .ret [.bool (y5 == (1 : Int))]) <|
  .ret [.bool (false)]
theorem fI_RatOk (x0 : Bool × SlV × SlV × PUnit) : fits Tryz.prog aI_RatOk 102 [Sh1.val (.g [.b, .l, .l]) (x0)] (tI_RatOk x0) :=
  ⟨Tryz.f102, Tryz.f102.body.getD .skip, by kernel_rfl, by kernel_rfl, by kernel_rfl, by kernel_rfl, by kernel_rfl, by kernel_rfl⟩
/-! loop.example/g00793/impl.RatSign -/
def aI_RatSign : An := ⟨[], [], []⟩
noncomputable def tI_RatSign (x0 : Bool × SlV × SlV × PUnit) : T :=
  .call false 102 [Sh1.val (.g [.b, .l, .l]) (x0)] (.v (.o (.b))) fun y1 =>
  .br (!y1) (
    .ret [.int .i64 ((0 : Int))]) <|
  .call false 25 [Sh1.val (.g [.b, .l]) ((x0.fst), x0.2.1, ())] (.v (.o (.i .i64))) fun y2 =>
  .ret [.int .i64 (y2)]
theorem fI_RatSign (x0 : Bool × SlV × SlV × PUnit) : fits Tryz.prog aI_RatSign 103 [Sh1.val (.g [.b, .l, .l]) (x0)] (tI_RatSign x0) :=
  ⟨Tryz.f103, Tryz.f103.body.getD .skip, by kernel_rfl, by kernel_rfl, by kernel_rfl, by kernel_rfl, by kernel_rfl, by kernel_rfl⟩
/-! loop.example/g00793/impl.RateOk -/
def aI_RateOk : An := ⟨[], [], []⟩
noncomputable def tI_RateOk (x0 : ByteArray × ByteArray × Bool × SlV × Int × PUnit) : T :=
  .call false 101 [.string (x0.fst)] (.v (.o (.b))) fun y1 =>
  .br (y1) (
    .call false 101 [.string (x0.2.fst)] (.v (.o (.b))) fun y2 =>
    .br (y2) (
      .br (!ByteArray.toList x0.fst == ByteArray.toList x0.2.fst) (
        .call false 150 [Sh1.val (.g [.b, .l, .i .i64]) (x0.2.2)] (.v (.o (.b))) fun y3 =>
        .br (y3) (
          .call false 25 [Sh1.val (.g [.b, .l]) ((x0.2.2.fst), x0.2.2.2.1, ())] (.v (.o (.i .i64))) fun y4 =>
          .br (decide (y4 > (0 : Int))) (
            .ret [.bool (decide ((↑x0.2.2.2.1.n : Int) ≤ (2 : Int)))]) <|
          .ret [.bool (false)]) <|
        .ret [.bool (false)]) <|
      .ret [.bool (false)]) <|
    .ret [.bool (false)]) <|
  .ret [.bool (false)]
theorem fI_RateOk (x0 : ByteArray × ByteArray × Bool × SlV × Int × PUnit) : fits Tryz.prog aI_RateOk 104 [Sh1.val (.g [.s, .s, .b, .l, .i .i64]) (x0)] (tI_RateOk x0) :=
  ⟨Tryz.f104, Tryz.f104.body.getD .skip, by kernel_rfl, by kernel_rfl, by kernel_rfl, by kernel_rfl, by kernel_rfl, by kernel_rfl⟩
/-! loop.example/g00793/impl.fieldZero -/
def aI_fieldZero : An := ⟨[], [], []⟩
noncomputable def tI_fieldZero (x0 : Go.Addr) (x1 : Int) : T :=
  .br (x1 == (0 : Int)) (
    .ld false (x0.add (1 : Nat)) (.o (.s)) fun y1 =>
    .ret [.bool (y1.toList == { data := { toList := [] : Array UInt8 } : ByteArray }.toList)]) <|
  .br (x1 == (1 : Int)) (
    .ld false (x0.add (2 : Nat)) (.o (.s)) fun y1 =>
    .ret [.bool (y1.toList == { data := { toList := [] : Array UInt8 } : ByteArray }.toList)]) <|
  .br (x1 == (2 : Int)) (
    .ld false (x0.add (3 : Nat)) (.o (.s)) fun y1 =>
    .ret [.bool (y1.toList == { data := { toList := [] : Array UInt8 } : ByteArray }.toList)]) <|
  .br (x1 == (3 : Int)) (
    .ld false (x0.add (4 : Nat)) (.o (.s)) fun y1 =>
    .ret [.bool (y1.toList == { data := { toList := [] : Array UInt8 } : ByteArray }.toList)]) <|
  .br (x1 == (4 : Int)) (
    .ld false (x0.add (5 : Nat)) (.g [.s, .b, .l]) fun y1 =>
    .call false 151 [Sh1.val (.g [.s, .b, .l]) (y1), Sh1.val (.g [.s, .b, .l]) (({ data := { toList := [] : Array UInt8 } : ByteArray }), (false), (⟨(none), ((0 : Nat)), ((0 : Nat))⟩ : SlV), ())] (.v (.o (.b))) fun y2 =>
    .ret [.bool (y2)]) <|
  .br (x1 == (5 : Int)) (
    .ld false (x0.add (9 : Nat)) (.o (.l)) fun y1 =>
    .br ((↑y1.n : Int) == (0 : Int)) (
      .ld false (x0.add (10 : Nat)) (.o (.l)) fun y2 =>
      .ret [.bool ((↑y2.n : Int) == (0 : Int))]) <|
    .ret [.bool (false)]) <|
  .br (x1 == (6 : Int)) (
    .ld false (x0.add (11 : Nat)) (.g [.b, .l, .i .i64]) fun y1 =>
    .call false 152 [Sh1.val (.g [.b, .l, .i .i64]) (y1)] (.v (.o (.b))) fun y2 =>
    .ret [.bool (y2)]) <|
  .br (x1 == (7 : Int)) (
    .ld false (x0.add (8 : Nat)) (.o (.i .i64)) fun y1 =>
    .ret [.bool (y1 == (0 : Int))]) <|
  .ld false ((x0.add (14 : Nat)).add (0 : Nat)) (.o (.s)) fun y1 =>
  .br (y1.toList == { data := { toList := [] : Array UInt8 } : ByteArray }.toList) (
    .ld false ((x0.add (14 : Nat)).add (1 : Nat)) (.o (.s)) fun y2 =>
    .br (y2.toList == { data := { toList := [] : Array UInt8 } : ByteArray }.toList) (
      .ld false ((x0.add (14 : Nat)).add (2 : Nat)) (.g [.b, .l, .i .i64]) fun y3 =>
      .call false 152 [Sh1.val (.g [.b, .l, .i .i64]) (y3)] (.v (.o (.b))) fun y4 =>
      .ret [.bool (y4)]) <|
    .ret [.bool (false)]) <|
  .ret [.bool (false)]
theorem fI_fieldZero (x0 : Go.Addr) (x1 : Int) : fits Tryz.prog aI_fieldZero 105 [.pointer (some x0), .int .i64 (x1)] (tI_fieldZero x0 x1) :=
  ⟨Tryz.f105, Tryz.f105.body.getD .skip, by kernel_rfl, by kernel_rfl, by kernel_rfl, by kernel_rfl, by kernel_rfl, by kernel_rfl⟩
/-! slices.Contains[[]int,int] -/
def aX_Contains_int : An := ⟨[], [], []⟩
noncomputable def tX_Contains_int (x0 : SlV) (x1 : Int) : T :=
  .call false 153 [Sc.val .l (x0), .int .i64 (x1)] (.v (.o (.i .i64))) fun y1 =>
  .ret [.bool (decide (y1 ≥ (0 : Int)))]
theorem fX_Contains_int (x0 : SlV) (x1 : Int) : fits Tryz.prog aX_Contains_int 106 [Sc.val .l (x0), .int .i64 (x1)] (tX_Contains_int x0 x1) :=
  ⟨Tryz.f106, Tryz.f106.body.getD .skip, by kernel_rfl, by kernel_rfl, by kernel_rfl, by kernel_rfl, by kernel_rfl, by kernel_rfl⟩
/-! loop.example/g00793/impl.fieldOk -/
def aI_fieldOk : An := ⟨[], [], []⟩
noncomputable def tI_fieldOk (x0 : Go.Addr) (x1 : Int) : T :=
  .br (x1 == (0 : Int)) (
    .ld false (x0.add (1 : Nat)) (.o (.s)) fun y1 =>
    .call false 99 [.string (y1)] (.v (.o (.b))) fun y2 =>
    .ret [.bool (y2)]) <|
  .br (x1 == (1 : Int)) (
    .ld false (x0.add (2 : Nat)) (.o (.s)) fun y1 =>
    .call false 99 [.string (y1)] (.v (.o (.b))) fun y2 =>
    .ret [.bool (y2)]) <|
  .br (x1 == (2 : Int)) (
    .ld false (x0.add (3 : Nat)) (.o (.s)) fun y1 =>
    .call false 99 [.string (y1)] (.v (.o (.b))) fun y2 =>
    .ret [.bool (y2)]) <|
  .br (x1 == (3 : Int)) (
    .ld false (x0.add (4 : Nat)) (.o (.s)) fun y1 =>
    .call false 154 [.string (y1)] (.v (.o (.b))) fun y2 =>
    .ret [.bool (y2)]) <|
  .br (x1 == (4 : Int)) (
    .ld false (x0.add (5 : Nat)) (.g [.s, .b, .l]) fun y1 =>
    .call false 155 [Sh1.val (.g [.s, .b, .l]) (y1)] (.v (.o (.b))) fun y2 =>
    .ret [.bool (y2)]) <|
  .br (x1 == (5 : Int)) (
    .rg <|
    .ld true (x0.add (9 : Nat)) (.o (.l)) fun y1 =>
    .ld true (x0.add (10 : Nat)) (.o (.l)) fun y2 =>
    .call true 156 [Sc.val .l (y1), Sc.val .l (y2)] (.v (.o (.b))) fun y3 =>
    .ret [.bool (y3)]) <|
  .br (x1 == (6 : Int)) (
    .rg <|
    .ld true (x0.add (11 : Nat)) (.g [.b, .l, .i .i64]) fun y1 =>
    .call true 157 [Sh1.val (.g [.b, .l, .i .i64]) (y1)] (.v (.o (.b))) fun y2 =>
    .br (y2) (
      .ld true (x0.add (11 : Nat)) (.g [.b, .l, .i .i64]) fun y3 =>
      .ld true (x0.add (11 : Nat)) (.g [.b, .l, .i .i64]) fun y4 =>
      .call true 159 [Sh1.val (.g [.b, .l, .i .i64]) (y4)] (.v (.g [.b, .l, .i .i64])) fun y5 =>
      .call true 158 [Sh1.val (.g [.b, .l, .i .i64]) (y3), Sh1.val (.g [.b, .l, .i .i64]) (y5)] (.v (.o (.b))) fun y6 =>
      .ret [.bool (y6)]) <|
    .ret [.bool (false)]) <|
  .br (x1 == (7 : Int)) (
    .ld false (x0.add (8 : Nat)) (.o (.i .i64)) fun y1 =>
    .call false 160 [.int .i64 (y1)] (.v (.o (.b))) fun y2 =>
    .ret [.bool (y2)]) <|
  .ld false (x0.add (14 : Nat)) (.g [.s, .s, .b, .l, .i .i64]) fun y1 =>
  .call false 104 [Sh1.val (.g [.s, .s, .b, .l, .i .i64]) (y1)] (.v (.o (.b))) fun y2 =>
  .ret [.bool (y2)]
theorem fI_fieldOk (x0 : Go.Addr) (x1 : Int) : fits Tryz.prog aI_fieldOk 107 [.pointer (some x0), .int .i64 (x1)] (tI_fieldOk x0 x1) :=
  ⟨Tryz.f107, Tryz.f107.body.getD .skip, by kernel_rfl, by kernel_rfl, by kernel_rfl, by kernel_rfl, by kernel_rfl, by kernel_rfl⟩
/-! loop.example/g00793/impl.nameAt -/
def aI_nameAt : An := ⟨[], [], []⟩
noncomputable def tI_nameAt (x0 : Int) (x1 : SlV) : T :=
  .br (decide (x0 < (0 : Int))) (
    .ret [.string ({ data := { toList := [] : Array UInt8 } : ByteArray })]) <|
  .br (decide (x0 ≥ (↑x1.n : Int))) (
    .ret [.string ({ data := { toList := [] : Array UInt8 } : ByteArray })]) <|
  .el (x1.a) (x1.n) (x0) fun y1 =>
  .ld false (y1.add (x0.toNat * (1 : Nat))) (.o (.s)) fun y2 =>
  .ret [.string (y2)]
theorem fI_nameAt (x0 : Int) (x1 : SlV) : fits Tryz.prog aI_nameAt 108 [.int .i64 (x0), Sc.val .l (x1)] (tI_nameAt x0 x1) :=
  ⟨Tryz.f108, Tryz.f108.body.getD .skip, by kernel_rfl, by kernel_rfl, by kernel_rfl, by kernel_rfl, by kernel_rfl, by kernel_rfl⟩
/-! loop.example/g00793/impl.MoneyText -/
def aI_MoneyText : An := ⟨[], [], []⟩
noncomputable def tI_MoneyText (x0 : ByteArray × Bool × SlV × PUnit) : T :=
  .call false 100 [Sh1.val (.g [.s, .b, .l]) (x0)] (.v (.o (.b))) fun y1 =>
  .br (!y1) (
    .ret [.string ({ data := { toList := [] : Array UInt8 } : ByteArray })]) <|
  .rg <|
  .rq (ByteArray.size x0.fst + { data := { toList := [(32 : UInt8)] : Array UInt8 } : ByteArray }.size ≤ (9223372036854775807 : Nat)) <|
  .call true 162 [.string (x0.fst)] (.v (.o (.i .i64))) fun y2 =>
  .call true 161 [Sh1.val (.g [.b, .l, .i .i64]) ((x0.2.fst), x0.2.2.1, ((y2) : Int), ())] (.v (.o (.s))) fun y3 =>
  .rq ((x0.fst ++ { data := { toList := [(32 : UInt8)] : Array UInt8 } : ByteArray }).size + y3.size ≤ (9223372036854775807 : Nat)) <|
  .ret [.string (x0.fst ++ { data := { toList := [(32 : UInt8)] : Array UInt8 } : ByteArray } ++ y3)]
theorem fI_MoneyText (x0 : ByteArray × Bool × SlV × PUnit) : fits Tryz.prog aI_MoneyText 109 [Sh1.val (.g [.s, .b, .l]) (x0)] (tI_MoneyText x0) :=
  ⟨Tryz.f109, Tryz.f109.body.getD .skip, by kernel_rfl, by kernel_rfl, by kernel_rfl, by kernel_rfl, by kernel_rfl, by kernel_rfl⟩
/-! loop.example/g00793/impl.dealText -/
def aI_dealText : An := ⟨[(3, [.s 5, .s 11], [.a 9, .o (.o (.i .i64))])], [], []⟩
noncomputable def tI_dealText (x0 : SlV) (x1 : SlV) : T :=
  .lp [.a 9, .o (.o (.i .i64))] [.a 9 ((0 : Nat)) [], .v (.int .i64 ((0 : Int)))] fun y1 =>
  .br (decide (y1.2.fst < (↑x0.n : Int))) (
    .el (x0.a) (x0.n) (y1.2.fst) fun y2 =>
    .ld false (y2.add (Int.toNat y1.2.fst * (1 : Nat))) (.o (.s)) fun y3 =>
    .rq (y3.size + { data := { toList := [(58 : UInt8)] : Array UInt8 } : ByteArray }.size ≤ (9223372036854775807 : Nat)) <|
    .el (x1.a) (x1.n) (y1.2.fst) fun y4 =>
    .ld false (y4.add (Int.toNat y1.2.fst * (1 : Nat))) (.o (.i .i64)) fun y5 =>
    .call false 163 [.int .i64 (y5)] (.v (.o (.s))) fun y6 =>
    .rq ((y3 ++ { data := { toList := [(58 : UInt8)] : Array UInt8 } : ByteArray }).size + y6.size ≤ (9223372036854775807 : Nat)) <|
    .rq ([Go.Value.string (y3 ++ { data := { toList := [(58 : UInt8)] : Array UInt8 } : ByteArray } ++ y6)].length = (1 : Nat) * (1 : Nat)) <|
    .rq (one [Go.Value.string (y3 ++ { data := { toList := [(58 : UInt8)] : Array UInt8 } : ByteArray } ++ y6)] = true ∧ (y1.1.fst + (1 : Nat)) * (16 : Nat) ≤ (140737488355328 : Nat) ∧ y1.1.fst + (1 : Nat) ≤ (9223372036854775807 : Nat)) <|
    .nx 0 [.a 9 (y1.1.fst + (1 : Nat)) (y1.1.snd ++ [Go.Value.string (y3 ++ { data := { toList := [(58 : UInt8)] : Array UInt8 } : ByteArray } ++ y6)]), .v (.int .i64 (Go.IntKind.i64.wrap (y1.2.fst + (1 : Int))))]) <|
  .fz (y1.1.fst) (y1.1.snd) 9 fun b2 c2 =>
  .call false 61 [.slice (some { block := b2, off := (0 : Nat) : Go.Addr }) (y1.1.fst) (c2), .string ({ data := { toList := [(44 : UInt8)] : Array UInt8 } : ByteArray })] (.v (.o (.s))) fun y3 =>
  .ret [.string (y3)]
theorem fI_dealText (x0 : SlV) (x1 : SlV) : fits Tryz.prog aI_dealText 110 [Sc.val .l (x0), Sc.val .l (x1)] (tI_dealText x0 x1) :=
  ⟨Tryz.f110, Tryz.f110.body.getD .skip, by kernel_rfl, by kernel_rfl, by kernel_rfl, by kernel_rfl, by kernel_rfl, by kernel_rfl⟩
/-! loop.example/g00793/impl.Percent -/
def aI_Percent : An := ⟨[], [], []⟩
noncomputable def tI_Percent (x0 : Bool × SlV × Int × PUnit) : T :=
  .call false 157 [Sh1.val (.g [.b, .l, .i .i64]) (x0)] (.v (.o (.b))) fun y1 =>
  .br (!y1) (
    .ret [.string ({ data := { toList := [] : Array UInt8 } : ByteArray })]) <|
  .rg <|
  .call true 165 [.int .i64 ((100 : Int))] (.v (.g [.b, .l])) fun y2 =>
  .call true 164 [Sh1.val (.g [.b, .l, .i .i64]) (x0), Sh1.val (.g [.b, .l, .i .i64]) ((y2.fst), y2.2.1, (((0 : Int)) : Int), ())] (.t [(.g [.b, .l, .i .i64]), (.o (.b))]) fun y3 =>
  .call false 159 [Sh1.val (.g [.b, .l, .i .i64]) (y3.1)] (.v (.g [.b, .l, .i .i64])) fun y4 =>
  .call false 161 [Sh1.val (.g [.b, .l, .i .i64]) (y4)] (.v (.o (.s))) fun y5 =>
  .rq (y5.size + { data := { toList := [(37 : UInt8)] : Array UInt8 } : ByteArray }.size ≤ (9223372036854775807 : Nat)) <|
  .ret [.string (y5 ++ { data := { toList := [(37 : UInt8)] : Array UInt8 } : ByteArray })]
theorem fI_Percent (x0 : Bool × SlV × Int × PUnit) : fits Tryz.prog aI_Percent 111 [Sh1.val (.g [.b, .l, .i .i64]) (x0)] (tI_Percent x0) :=
  ⟨Tryz.f111, Tryz.f111.body.getD .skip, by kernel_rfl, by kernel_rfl, by kernel_rfl, by kernel_rfl, by kernel_rfl, by kernel_rfl⟩
/-! loop.example/g00793/impl.RmName -/
def aI_RmName : An := ⟨[], [], []⟩
noncomputable def tI_RmName (x0 : Int) : T :=
  .call false 160 [.int .i64 (x0)] (.v (.o (.b))) fun y1 =>
  .br (!y1) (
    .ret [.string ({ data := { toList := [] : Array UInt8 } : ByteArray })]) <|
  .call false 166 [] (.v (.g [.s, .f, .s, .f, .s, .f, .s, .f, .s, .f, .s, .f, .s, .f])) fun y2 =>
  .rq ((0 : Int) ≤ x0 ∧ x0 < (↑(7 : Nat) : Int)) <|
  .xs [.string (y2.fst), (Go.Value.func (Go.Fn.func y2.2.fst) { toList := [] : Array Go.Value } { toList := [] : Array Go.Value }), .string (y2.2.2.fst), (Go.Value.func (Go.Fn.func y2.2.2.2.fst) { toList := [] : Array Go.Value } { toList := [] : Array Go.Value }), .string (y2.2.2.2.2.fst), (Go.Value.func (Go.Fn.func y2.2.2.2.2.2.fst) { toList := [] : Array Go.Value } { toList := [] : Array Go.Value }), .string (y2.2.2.2.2.2.2.fst), (Go.Value.func (Go.Fn.func y2.2.2.2.2.2.2.2.fst) { toList := [] : Array Go.Value } { toList := [] : Array Go.Value }), .string (y2.2.2.2.2.2.2.2.2.fst), (Go.Value.func (Go.Fn.func y2.2.2.2.2.2.2.2.2.2.fst) { toList := [] : Array Go.Value } { toList := [] : Array Go.Value }), .string (y2.2.2.2.2.2.2.2.2.2.2.fst), (Go.Value.func (Go.Fn.func y2.2.2.2.2.2.2.2.2.2.2.2.fst) { toList := [] : Array Go.Value } { toList := [] : Array Go.Value }), .string (y2.2.2.2.2.2.2.2.2.2.2.2.2.fst), (Go.Value.func (Go.Fn.func y2.2.2.2.2.2.2.2.2.2.2.2.2.2.fst) { toList := [] : Array Go.Value } { toList := [] : Array Go.Value })] (x0.toNat * (2 : Nat)) (.g [.s, .f]) fun y3 =>
  .ret [.string (y3.fst)]
theorem fI_RmName (x0 : Int) : fits Tryz.prog aI_RmName 112 [.int .i64 (x0)] (tI_RmName x0) :=
  ⟨Tryz.f112, Tryz.f112.body.getD .skip, by kernel_rfl, by kernel_rfl, by kernel_rfl, by kernel_rfl, by kernel_rfl, by kernel_rfl⟩
/-! loop.example/g00793/impl.RateText -/
def aI_RateText : An := ⟨[], [], []⟩
noncomputable def tI_RateText (x0 : ByteArray × ByteArray × Bool × SlV × Int × PUnit) : T :=
  .call false 104 [Sh1.val (.g [.s, .s, .b, .l, .i .i64]) (x0)] (.v (.o (.b))) fun y1 =>
  .br (!y1) (
    .ret [.string ({ data := { toList := [] : Array UInt8 } : ByteArray })]) <|
  .rg <|
  .rq (ByteArray.size x0.fst + { data := { toList := [(32 : UInt8)] : Array UInt8 } : ByteArray }.size ≤ (9223372036854775807 : Nat)) <|
  .rq ((x0.fst ++ { data := { toList := [(32 : UInt8)] : Array UInt8 } : ByteArray }).size + ByteArray.size x0.2.fst ≤ (9223372036854775807 : Nat)) <|
  .rq ((x0.fst ++ { data := { toList := [(32 : UInt8)] : Array UInt8 } : ByteArray } ++ x0.2.fst).size + { data := { toList := [(32 : UInt8)] : Array UInt8 } : ByteArray }.size ≤ (9223372036854775807 : Nat)) <|
  .call true 161 [Sh1.val (.g [.b, .l, .i .i64]) (x0.2.2)] (.v (.o (.s))) fun y2 =>
  .rq ((x0.fst ++ { data := { toList := [(32 : UInt8)] : Array UInt8 } : ByteArray } ++ x0.2.fst ++ { data := { toList := [(32 : UInt8)] : Array UInt8 } : ByteArray }).size + y2.size ≤ (9223372036854775807 : Nat)) <|
  .ret [.string (x0.fst ++ { data := { toList := [(32 : UInt8)] : Array UInt8 } : ByteArray } ++ x0.2.fst ++ { data := { toList := [(32 : UInt8)] : Array UInt8 } : ByteArray } ++ y2)]
theorem fI_RateText (x0 : ByteArray × ByteArray × Bool × SlV × Int × PUnit) : fits Tryz.prog aI_RateText 113 [Sh1.val (.g [.s, .s, .b, .l, .i .i64]) (x0)] (tI_RateText x0) :=
  ⟨Tryz.f113, Tryz.f113.body.getD .skip, by kernel_rfl, by kernel_rfl, by kernel_rfl, by kernel_rfl, by kernel_rfl, by kernel_rfl⟩
/-! loop.example/g00793/impl.signed -/
def aI_signed : An := ⟨[], [], []⟩
noncomputable def tI_signed (x0 : Bool) (x1 : SlV) : T :=
  .br (x0) (
    .ret [Sh1.val (.g [.b, .l]) ((decide ((↑x1.n : Int) > (0 : Int))), x1, ())]) <|
  .ret [Sh1.val (.g [.b, .l]) ((false), x1, ())]
theorem fI_signed (x0 : Bool) (x1 : SlV) : fits Tryz.prog aI_signed 115 [.bool (x0), Sc.val .l (x1)] (tI_signed x0 x1) :=
  ⟨Tryz.f115, Tryz.f115.body.getD .skip, by kernel_rfl, by kernel_rfl, by kernel_rfl, by kernel_rfl, by kernel_rfl, by kernel_rfl⟩
/-! loop.example/g00793/impl.natCopy -/
def aI_natCopy : An := ⟨[], [], []⟩
noncomputable def tI_natCopy (x0 : SlV) : T :=
  .rd ({ a := x0.a, n := x0.n, c := x0.c : SlV }) ((1 : Nat)) fun y1 =>
  .rq (one y1 = true ∧ ((0 : Nat) + x0.n) * (8 : Nat) ≤ (140737488355328 : Nat) ∧ (0 : Nat) + x0.n ≤ (9223372036854775807 : Nat)) <|
  .fz ((0 : Nat) + x0.n) ([] ++ y1) 3 fun b2 c2 =>
  .ret [.slice (some { block := b2, off := (0 : Nat) : Go.Addr }) ((0 : Nat) + x0.n) (c2)]
theorem fI_natCopy (x0 : SlV) : fits Tryz.prog aI_natCopy 116 [Sc.val .l (x0)] (tI_natCopy x0) :=
  ⟨Tryz.f116, Tryz.f116.body.getD .skip, by kernel_rfl, by kernel_rfl, by kernel_rfl, by kernel_rfl, by kernel_rfl, by kernel_rfl⟩
/-! loop.example/g00793/laws.eqAcct -/
def aL_eqAcct : An := ⟨[], [], []⟩
noncomputable def tL_eqAcct (x0 : ByteArray × ByteArray × Bool × SlV × PUnit) (x1 : ByteArray × ByteArray × Bool × SlV × PUnit) : T :=
  .br (!ByteArray.toList x0.fst == ByteArray.toList x1.fst) (
    .ret [.bool (false)]) <|
  .call false 170 [Sh1.val (.g [.s, .b, .l]) (x0.2), Sh1.val (.g [.s, .b, .l]) (x1.2)] (.v (.o (.b))) fun y1 =>
  .br (!y1) (
    .ret [.bool (false)]) <|
  .ret [.bool (true)]
theorem fL_eqAcct (x0 : ByteArray × ByteArray × Bool × SlV × PUnit) (x1 : ByteArray × ByteArray × Bool × SlV × PUnit) : fits Tryz.prog aL_eqAcct 117 [Sh1.val (.g [.s, .s, .b, .l]) (x0), Sh1.val (.g [.s, .s, .b, .l]) (x1)] (tL_eqAcct x0 x1) :=
  ⟨Tryz.f117, Tryz.f117.body.getD .skip, by kernel_rfl, by kernel_rfl, by kernel_rfl, by kernel_rfl, by kernel_rfl, by kernel_rfl⟩
/-! loop.example/g00793/laws.eqRat -/
def aL_eqRat : An := ⟨[], [], []⟩
noncomputable def tL_eqRat (x0 : Bool × SlV × SlV × PUnit) (x1 : Bool × SlV × SlV × PUnit) : T :=
  .call false 171 [Sh1.val (.g [.b, .l]) ((x0.fst), x0.2.1, ()), Sh1.val (.g [.b, .l]) ((x1.fst), x1.2.1, ())] (.v (.o (.b))) fun y1 =>
  .br (!y1) (
    .ret [.bool (false)]) <|
  .call false 172 [Sc.val .l (x0.2.2.1), Sc.val .l (x1.2.2.1)] (.v (.o (.b))) fun y2 =>
  .br (!y2) (
    .ret [.bool (false)]) <|
  .ret [.bool (true)]
theorem fL_eqRat (x0 : Bool × SlV × SlV × PUnit) (x1 : Bool × SlV × SlV × PUnit) : fits Tryz.prog aL_eqRat 118 [Sh1.val (.g [.b, .l, .l]) (x0), Sh1.val (.g [.b, .l, .l]) (x1)] (tL_eqRat x0 x1) :=
  ⟨Tryz.f118, Tryz.f118.body.getD .skip, by kernel_rfl, by kernel_rfl, by kernel_rfl, by kernel_rfl, by kernel_rfl, by kernel_rfl⟩
/-! loop.example/g00793/laws.eqRate -/
def aL_eqRate : An := ⟨[], [], []⟩
noncomputable def tL_eqRate (x0 : ByteArray × ByteArray × Bool × SlV × Int × PUnit) (x1 : ByteArray × ByteArray × Bool × SlV × Int × PUnit) : T :=
  .br (!ByteArray.toList x0.fst == ByteArray.toList x1.fst) (
    .ret [.bool (false)]) <|
  .br (!ByteArray.toList x0.2.fst == ByteArray.toList x1.2.fst) (
    .ret [.bool (false)]) <|
  .call false 173 [Sh1.val (.g [.b, .l, .i .i64]) (x0.2.2), Sh1.val (.g [.b, .l, .i .i64]) (x1.2.2)] (.v (.o (.b))) fun y1 =>
  .br (!y1) (
    .ret [.bool (false)]) <|
  .ret [.bool (true)]
theorem fL_eqRate (x0 : ByteArray × ByteArray × Bool × SlV × Int × PUnit) (x1 : ByteArray × ByteArray × Bool × SlV × Int × PUnit) : fits Tryz.prog aL_eqRate 119 [Sh1.val (.g [.s, .s, .b, .l, .i .i64]) (x0), Sh1.val (.g [.s, .s, .b, .l, .i .i64]) (x1)] (tL_eqRate x0 x1) :=
  ⟨Tryz.f119, Tryz.f119.body.getD .skip, by kernel_rfl, by kernel_rfl, by kernel_rfl, by kernel_rfl, by kernel_rfl, by kernel_rfl⟩
/-! loop.example/g00793/laws.szMoney -/
def aL_szMoney : An := ⟨[], [], []⟩
noncomputable def tL_szMoney (x0 : ByteArray × Bool × SlV × PUnit) (x1 : Int) : T :=
  .br (decide (Go.IntKind.i64.wrap (x1 - (↑(ByteArray.size x0.fst) : Int)) < (0 : Int))) (
    .ret [.int .i64 ((-1 : Int))]) <|
  .call false 121 [Sh1.val (.g [.b, .l]) (x0.2), .int .i64 (Go.IntKind.i64.wrap (x1 - (↑(ByteArray.size x0.fst) : Int)))] (.v (.o (.i .i64))) fun y1 =>
  .br (decide (y1 < (0 : Int))) (
    .ret [.int .i64 ((-1 : Int))]) <|
  .ret [.int .i64 (y1)]
theorem fL_szMoney (x0 : ByteArray × Bool × SlV × PUnit) (x1 : Int) : fits Tryz.prog aL_szMoney 120 [Sh1.val (.g [.s, .b, .l]) (x0), .int .i64 (x1)] (tL_szMoney x0 x1) :=
  ⟨Tryz.f120, Tryz.f120.body.getD .skip, by kernel_rfl, by kernel_rfl, by kernel_rfl, by kernel_rfl, by kernel_rfl, by kernel_rfl⟩
/-! loop.example/g00793/laws.szSigned -/
def aL_szSigned : An := ⟨[], [], []⟩
noncomputable def tL_szSigned (x0 : Bool × SlV × PUnit) (x1 : Int) : T :=
  .call false 122 [Sc.val .l (x0.2.1), .int .i64 (x1)] (.v (.o (.i .i64))) fun y1 =>
  .br (decide (y1 < (0 : Int))) (
    .ret [.int .i64 ((-1 : Int))]) <|
  .ret [.int .i64 (y1)]
theorem fL_szSigned (x0 : Bool × SlV × PUnit) (x1 : Int) : fits Tryz.prog aL_szSigned 121 [Sh1.val (.g [.b, .l]) (x0), .int .i64 (x1)] (tL_szSigned x0 x1) :=
  ⟨Tryz.f121, Tryz.f121.body.getD .skip, by kernel_rfl, by kernel_rfl, by kernel_rfl, by kernel_rfl, by kernel_rfl, by kernel_rfl⟩
/-! loop.example/g00793/laws.szIntS -/
def aL_szIntS : An := ⟨[], [], []⟩
noncomputable def tL_szIntS (x0 : SlV) (x1 : Int) : T :=
  .br (decide (Go.IntKind.i64.wrap (x1 - (↑x0.n : Int)) < (0 : Int))) (
    .ret [.int .i64 ((-1 : Int))]) <|
  .ret [.int .i64 (Go.IntKind.i64.wrap (x1 - (↑x0.n : Int)))]
theorem fL_szIntS (x0 : SlV) (x1 : Int) : fits Tryz.prog aL_szIntS 122 [Sc.val .l (x0), .int .i64 (x1)] (tL_szIntS x0 x1) :=
  ⟨Tryz.f122, Tryz.f122.body.getD .skip, by kernel_rfl, by kernel_rfl, by kernel_rfl, by kernel_rfl, by kernel_rfl, by kernel_rfl⟩
/-! loop.example/g00793/laws.szDec -/
def aL_szDec : An := ⟨[], [], []⟩
noncomputable def tL_szDec (x0 : Bool × SlV × Int × PUnit) (x1 : Int) : T :=
  .call false 121 [Sh1.val (.g [.b, .l]) ((x0.fst), x0.2.1, ()), .int .i64 (x1)] (.v (.o (.i .i64))) fun y1 =>
  .br (decide (y1 < (0 : Int))) (
    .ret [.int .i64 ((-1 : Int))]) <|
  .ret [.int .i64 (y1)]
theorem fL_szDec (x0 : Bool × SlV × Int × PUnit) (x1 : Int) : fits Tryz.prog aL_szDec 123 [Sh1.val (.g [.b, .l, .i .i64]) (x0), .int .i64 (x1)] (tL_szDec x0 x1) :=
  ⟨Tryz.f123, Tryz.f123.body.getD .skip, by kernel_rfl, by kernel_rfl, by kernel_rfl, by kernel_rfl, by kernel_rfl, by kernel_rfl⟩
/-! loop.example/g00793/spec.l01All -/
def aS_l01All : An := ⟨[(2, [.s 11], [.o (.o (.i .i64))])], [], []⟩
noncomputable def tS_l01All (x0 : ByteArray) (x1 : Int) (x2 : Int) (x3 : Int) (x4 : Int) : T :=
  .lp [.o (.o (.i .i64))] [.v (.int .i64 ((0 : Int)))] fun y1 =>
  .br (decide (y1.fst < (↑x0.size : Int))) (
    .rq ((0 : Int) ≤ y1.fst ∧ y1.fst < (↑x0.size : Int)) <|
    .br (decide (at0 x0 (Int.toNat y1.fst) < x1)) (
      .rq ((0 : Int) ≤ y1.fst ∧ y1.fst < (↑x0.size : Int)) <|
      .br (decide (at0 x0 (Int.toNat y1.fst) < x3)) (
        .ret [.bool (false)]) <|
      .rq ((0 : Int) ≤ y1.fst ∧ y1.fst < (↑x0.size : Int)) <|
      .br (decide (at0 x0 (Int.toNat y1.fst) > x4)) (
        .ret [.bool (false)]) <|
      .nx 0 [.v (.int .i64 (Go.IntKind.i64.wrap (y1.fst + (1 : Int))))]) <|
    .rq ((0 : Int) ≤ y1.fst ∧ y1.fst < (↑x0.size : Int)) <|
    .br (decide (at0 x0 (Int.toNat y1.fst) > x2)) (
      .rq ((0 : Int) ≤ y1.fst ∧ y1.fst < (↑x0.size : Int)) <|
      .br (decide (at0 x0 (Int.toNat y1.fst) < x3)) (
        .ret [.bool (false)]) <|
      .rq ((0 : Int) ≤ y1.fst ∧ y1.fst < (↑x0.size : Int)) <|
      .br (decide (at0 x0 (Int.toNat y1.fst) > x4)) (
        .ret [.bool (false)]) <|
      .nx 0 [.v (.int .i64 (Go.IntKind.i64.wrap (y1.fst + (1 : Int))))]) <|
    .nx 0 [.v (.int .i64 (Go.IntKind.i64.wrap (y1.fst + (1 : Int))))]) <|
  .ret [.bool (decide ((↑x0.size : Int) > (0 : Int)))]
theorem fS_l01All (x0 : ByteArray) (x1 : Int) (x2 : Int) (x3 : Int) (x4 : Int) : fits Tryz.prog aS_l01All 124 [.string (x0), .int .u8 (x1), .int .u8 (x2), .int .u8 (x3), .int .u8 (x4)] (tS_l01All x0 x1 x2 x3 x4) :=
  ⟨Tryz.f124, Tryz.f124.body.getD .skip, by kernel_rfl, by kernel_rfl, by kernel_rfl, by kernel_rfl, by kernel_rfl, by kernel_rfl⟩
/-! loop.example/g00793/spec.l08Find -/
def aS_l08Find : An := ⟨[(2, [.s 7, .c 2 0, .c 2 1, .c 2 2, .c 2 3], [.o (.o (.i .i64)), .o (.o (.s)), .o (.o (.s)), .o (.o (.i .i64)), .o (.o (.i .i64))])], [], []⟩
noncomputable def tS_l08Find (x0 : ByteArray) : T :=
  .call false 174 [] (.v (.o (.l))) fun y1 =>
  .lp [.o (.o (.i .i64)), .o (.o (.s)), .o (.o (.s)), .o (.o (.i .i64)), .o (.o (.i .i64))] [.v (.int .i64 ((0 : Int))), .v (.string ({ data := { toList := [] : Array UInt8 } : ByteArray })), .v (.string ({ data := { toList := [] : Array UInt8 } : ByteArray })), .v (.int .i64 ((0 : Int))), .v (.int .i64 ((0 : Int)))] fun y2 =>
  .br (decide (y2.fst < (↑y1.n : Int))) (
    .el (y1.a) (y1.n) (y2.fst) fun y3 =>
    .ld false (y3.add (Int.toNat y2.fst * (4 : Nat))) (.g [.s, .s, .i .i64, .i .i64]) fun y4 =>
    .br (ByteArray.toList y4.fst == x0.toList) (
      .ret [Sh1.val (.g [.s, .s, .i .i64, .i .i64]) (y4)]) <|
    .nx 0 [.v (.int .i64 (Go.IntKind.i64.wrap (y2.fst + (1 : Int)))), .v (.string (y2.2.fst)), .v (.string (y2.2.2.fst)), .v (.int .i64 (y2.2.2.2.fst)), .v (.int .i64 (y2.2.2.2.2.fst))]) <|
  .ret [Sh1.val (.g [.s, .s, .i .i64, .i .i64]) (({ data := { toList := [] : Array UInt8 } : ByteArray }), ({ data := { toList := [] : Array UInt8 } : ByteArray }), (((0 : Int)) : Int), (((0 : Int)) : Int), ())]
theorem fS_l08Find (x0 : ByteArray) : fits Tryz.prog aS_l08Find 125 [.string (x0)] (tS_l08Find x0) :=
  ⟨Tryz.f125, Tryz.f125.body.getD .skip, by kernel_rfl, by kernel_rfl, by kernel_rfl, by kernel_rfl, by kernel_rfl, by kernel_rfl⟩
/-! loop.example/g00793/spec.NatOk -/
def aS_NatOk : An := ⟨[(2, [.s 7], [.o (.o (.i .i64))])], [], []⟩
noncomputable def tS_NatOk (x0 : SlV) : T :=
  .lp [.o (.o (.i .i64))] [.v (.int .i64 ((0 : Int)))] fun y1 =>
  .br (decide (y1.fst < (↑x0.n : Int))) (
    .el (x0.a) (x0.n) (y1.fst) fun y2 =>
    .ld false (y2.add (Int.toNat y1.fst * (1 : Nat))) (.o (.i .i64)) fun y3 =>
    .call false 88 [.int .i64 (y3), .int .i64 ((0 : Int)), .int .i64 ((999999999 : Int))] (.v (.o (.b))) fun y4 =>
    .br (!y4) (
      .ret [.bool (false)]) <|
    .nx 0 [.v (.int .i64 (Go.IntKind.i64.wrap (y1.fst + (1 : Int))))]) <|
  .br (decide ((↑x0.n : Int) ≤ (50 : Int))) (
    .br ((↑x0.n : Int) == (0 : Int)) (
      .ret [.bool (true)]) <|
    .el (x0.a) (x0.n) (Go.IntKind.i64.wrap ((↑x0.n : Int) - (1 : Int))) fun y2 =>
    .ld false (y2.add ((Go.IntKind.i64.wrap ((↑x0.n : Int) - (1 : Int))).toNat * (1 : Nat))) (.o (.i .i64)) fun y3 =>
    .ret [.bool (y3 != (0 : Int))]) <|
  .ret [.bool (false)]
theorem fS_NatOk (x0 : SlV) : fits Tryz.prog aS_NatOk 126 [Sc.val .l (x0)] (tS_NatOk x0) :=
  ⟨Tryz.f126, Tryz.f126.body.getD .skip, by kernel_rfl, by kernel_rfl, by kernel_rfl, by kernel_rfl, by kernel_rfl, by kernel_rfl⟩
/-! loop.example/g00793/spec.NatGcd -/
def aS_NatGcd : An := ⟨[(5, [.s 5, .s 6], [.o (.o (.l)), .o (.o (.l))])], [], []⟩
noncomputable def tS_NatGcd (x0 : SlV) (x1 : SlV) : T :=
  .call false 126 [Sc.val .l (x0)] (.v (.o (.b))) fun y1 =>
  .br (!y1) (
    .ret [.slice (none) ((0 : Nat)) ((0 : Nat))]) <|
  .call false 126 [Sc.val .l (x1)] (.v (.o (.b))) fun y2 =>
  .br (!y2) (
    .ret [.slice (none) ((0 : Nat)) ((0 : Nat))]) <|
  .rd ({ a := x0.a, n := x0.n, c := x0.c : SlV }) ((1 : Nat)) fun y3 =>
  .rq (one y3 = true ∧ ((0 : Nat) + x0.n) * (8 : Nat) ≤ (140737488355328 : Nat) ∧ (0 : Nat) + x0.n ≤ (9223372036854775807 : Nat)) <|
  .rd ({ a := x1.a, n := x1.n, c := x1.c : SlV }) ((1 : Nat)) fun y4 =>
  .rq (one y4 = true ∧ ((0 : Nat) + x1.n) * (8 : Nat) ≤ (140737488355328 : Nat) ∧ (0 : Nat) + x1.n ≤ (9223372036854775807 : Nat)) <|
  .fz ((0 : Nat) + x0.n) ([] ++ y3) 3 fun b5 c5 =>
  .fz ((0 : Nat) + x1.n) ([] ++ y4) 3 fun b6 c6 =>
  .lp [.o (.o (.l)), .o (.o (.l))] [.v (.slice (some { block := b5, off := (0 : Nat) : Go.Addr }) ((0 : Nat) + x0.n) (c5)), .v (.slice (some { block := b6, off := (0 : Nat) : Go.Addr }) ((0 : Nat) + x1.n) (c6))] fun y7 =>
  .br (decide ((↑y7.2.1.n : Int) > (0 : Int))) (
    .call false 175 [Sc.val .l (y7.1), Sc.val .l (y7.2.1)] (.t [(.o (.l)), (.o (.l))]) fun y8 =>
    .nx 0 [.v (Sc.val .l (y7.2.1)), .v (Sc.val .l (y8.2.1))]) <|
  .ret [Sc.val .l (y7.1)]
theorem fS_NatGcd (x0 : SlV) (x1 : SlV) : fits Tryz.prog aS_NatGcd 127 [Sc.val .l (x0), Sc.val .l (x1)] (tS_NatGcd x0 x1) :=
  ⟨Tryz.f127, Tryz.f127.body.getD .skip, by kernel_rfl, by kernel_rfl, by kernel_rfl, by kernel_rfl, by kernel_rfl, by kernel_rfl⟩
/-! loop.example/g00793/spec.RatCmp -/
def aS_RatCmp : An := ⟨[], [], []⟩
noncomputable def tS_RatCmp (x0 : Bool × SlV × SlV × PUnit) (x1 : Bool × SlV × SlV × PUnit) : T :=
  .call false 75 [Sh1.val (.g [.b, .l, .l]) (x0)] (.v (.o (.b))) fun y1 =>
  .br (!y1) (
    .ret [.int .i64 ((0 : Int))]) <|
  .call false 75 [Sh1.val (.g [.b, .l, .l]) (x1)] (.v (.o (.b))) fun y2 =>
  .br (!y2) (
    .ret [.int .i64 ((0 : Int))]) <|
  .rg <|
  .call true 176 [Sc.val .l (x0.2.1), Sc.val .l (x1.2.2.1)] (.v (.o (.l))) fun y3 =>
  .call true 95 [.bool (x0.fst), Sc.val .l (y3)] (.v (.g [.b, .l])) fun y4 =>
  .call true 176 [Sc.val .l (x1.2.1), Sc.val .l (x0.2.2.1)] (.v (.o (.l))) fun y5 =>
  .call true 95 [.bool (x1.fst), Sc.val .l (y5)] (.v (.g [.b, .l])) fun y6 =>
  .call true 49 [Sh1.val (.g [.b, .l]) (y4), Sh1.val (.g [.b, .l]) (y6)] (.v (.o (.i .i64))) fun y7 =>
  .ret [.int .i64 (y7)]
theorem fS_RatCmp (x0 : Bool × SlV × SlV × PUnit) (x1 : Bool × SlV × SlV × PUnit) : fits Tryz.prog aS_RatCmp 128 [Sh1.val (.g [.b, .l, .l]) (x0), Sh1.val (.g [.b, .l, .l]) (x1)] (tS_RatCmp x0 x1) :=
  ⟨Tryz.f128, Tryz.f128.body.getD .skip, by kernel_rfl, by kernel_rfl, by kernel_rfl, by kernel_rfl, by kernel_rfl, by kernel_rfl⟩
/-! loop.example/g00793/spec.RatZero -/
def aS_RatZero : An := ⟨[], [], []⟩
noncomputable def tS_RatZero  : T :=
  .fz ((1 : Nat)) [.int .i64 ((1 : Int))] 3 fun b1 c1 =>
  .ret [Sh1.val (.g [.b, .l, .l]) ((false), (⟨(none), ((0 : Nat)), ((0 : Nat))⟩ : SlV), (⟨(some { block := b1, off := (0 : Nat) : Go.Addr }), ((1 : Nat)), (c1)⟩ : SlV), ())]
theorem fS_RatZero  : fits Tryz.prog aS_RatZero 129 [] (tS_RatZero ) :=
  ⟨Tryz.f129, Tryz.f129.body.getD .skip, by kernel_rfl, by kernel_rfl, by kernel_rfl, by kernel_rfl, by kernel_rfl, by kernel_rfl⟩
/-! loop.example/g00793/spec.DecOk -/
def aS_DecOk : An := ⟨[], [], []⟩
noncomputable def tS_DecOk (x0 : Bool × SlV × Int × PUnit) : T :=
  .call false 93 [Sh1.val (.g [.b, .l]) ((x0.fst), x0.2.1, ())] (.v (.o (.b))) fun y1 =>
  .br (y1) (
    .br (decide ((↑x0.2.1.n : Int) ≤ (6 : Int))) (
      .call false 88 [.int .i64 (x0.2.2.fst), .int .i64 ((0 : Int)), .int .i64 ((30 : Int))] (.v (.o (.b))) fun y2 =>
      .ret [.bool (y2)]) <|
    .ret [.bool (false)]) <|
  .ret [.bool (false)]
theorem fS_DecOk (x0 : Bool × SlV × Int × PUnit) : fits Tryz.prog aS_DecOk 130 [Sh1.val (.g [.b, .l, .i .i64]) (x0)] (tS_DecOk x0) :=
  ⟨Tryz.f130, Tryz.f130.body.getD .skip, by kernel_rfl, by kernel_rfl, by kernel_rfl, by kernel_rfl, by kernel_rfl, by kernel_rfl⟩
/-! loop.example/g00793/spec.l21Names -/
def aS_l21Names : An := ⟨[(2, [.s 7], [.o (.o (.i .i64))])], [], []⟩
noncomputable def tS_l21Names (x0 : SlV) : T :=
  .lp [.o (.o (.i .i64))] [.v (.int .i64 ((0 : Int)))] fun y1 =>
  .br (decide (y1.fst < (↑x0.n : Int))) (
    .el (x0.a) (x0.n) (y1.fst) fun y2 =>
    .ld false (y2.add (Int.toNat y1.fst * (1 : Nat))) (.o (.s)) fun y3 =>
    .call false 72 [.string (y3)] (.v (.o (.b))) fun y4 =>
    .br (!y4) (
      .ret [.bool (false)]) <|
    .nx 0 [.v (.int .i64 (Go.IntKind.i64.wrap (y1.fst + (1 : Int))))]) <|
  .ret [.bool (true)]
theorem fS_l21Names (x0 : SlV) : fits Tryz.prog aS_l21Names 131 [Sc.val .l (x0)] (tS_l21Names x0) :=
  ⟨Tryz.f131, Tryz.f131.body.getD .skip, by kernel_rfl, by kernel_rfl, by kernel_rfl, by kernel_rfl, by kernel_rfl, by kernel_rfl⟩
/-! loop.example/g00793/spec.DecCmp -/
def aS_DecCmp : An := ⟨[], [], []⟩
noncomputable def tS_DecCmp (x0 : Bool × SlV × Int × PUnit) (x1 : Bool × SlV × Int × PUnit) : T :=
  .call false 130 [Sh1.val (.g [.b, .l, .i .i64]) (x0)] (.v (.o (.b))) fun y1 =>
  .br (!y1) (
    .ret [.int .i64 ((0 : Int))]) <|
  .call false 130 [Sh1.val (.g [.b, .l, .i .i64]) (x1)] (.v (.o (.b))) fun y2 =>
  .br (!y2) (
    .ret [.int .i64 ((0 : Int))]) <|
  .call false 177 [Sh1.val (.g [.b, .l, .i .i64]) (x0), Sh1.val (.g [.b, .l, .i .i64]) (x1)] (.t [(.g [.b, .l]), (.g [.b, .l]), (.o (.i .i64))]) fun y3 =>
  .call false 49 [Sh1.val (.g [.b, .l]) (y3.1), Sh1.val (.g [.b, .l]) (y3.2.1)] (.v (.o (.i .i64))) fun y4 =>
  .ret [.int .i64 (y4)]
theorem fS_DecCmp (x0 : Bool × SlV × Int × PUnit) (x1 : Bool × SlV × Int × PUnit) : fits Tryz.prog aS_DecCmp 132 [Sh1.val (.g [.b, .l, .i .i64]) (x0), Sh1.val (.g [.b, .l, .i .i64]) (x1)] (tS_DecCmp x0 x1) :=
  ⟨Tryz.f132, Tryz.f132.body.getD .skip, by kernel_rfl, by kernel_rfl, by kernel_rfl, by kernel_rfl, by kernel_rfl, by kernel_rfl⟩
/-! loop.example/g00793/spec.Pad -/
def aS_Pad : An := ⟨[(3, [.s 0], [.o (.o (.s))])], [], []⟩
noncomputable def tS_Pad (x0 : ByteArray) (x1 : Int) : T :=
  .br (decide (x1 > (2000 : Int))) (
    .ret [.string (x0)]) <|
  .lp [.o (.o (.s))] [.v (.string (x0))] fun y1 =>
  .br (decide ((↑(ByteArray.size y1.fst) : Int) < x1)) (
    .rq ({ data := { toList := [(48 : UInt8)] : Array UInt8 } : ByteArray }.size + ByteArray.size y1.fst ≤ (9223372036854775807 : Nat)) <|
    .nx 0 [.v (.string ({ data := { toList := [(48 : UInt8)] : Array UInt8 } : ByteArray } ++ y1.fst))]) <|
  .ret [.string (y1.fst)]
theorem fS_Pad (x0 : ByteArray) (x1 : Int) : fits Tryz.prog aS_Pad 133 [.string (x0), .int .i64 (x1)] (tS_Pad x0 x1) :=
  ⟨Tryz.f133, Tryz.f133.body.getD .skip, by kernel_rfl, by kernel_rfl, by kernel_rfl, by kernel_rfl, by kernel_rfl, by kernel_rfl⟩
/-! loop.example/g00793/spec.NatText -/
def aS_NatText : An := ⟨[(7, [.s 3, .s 4], [.o (.o (.s)), .o (.o (.i .i64))])], [], []⟩
noncomputable def tS_NatText (x0 : SlV) : T :=
  .call false 126 [Sc.val .l (x0)] (.v (.o (.b))) fun y1 =>
  .br (!y1) (
    .ret [.string ({ data := { toList := [] : Array UInt8 } : ByteArray })]) <|
  .br ((↑x0.n : Int) == (0 : Int)) (
    .ret [.string ({ data := { toList := [(48 : UInt8)] : Array UInt8 } : ByteArray })]) <|
  .el (x0.a) (x0.n) (Go.IntKind.i64.wrap ((↑x0.n : Int) - (1 : Int))) fun y2 =>
  .ld false (y2.add ((Go.IntKind.i64.wrap ((↑x0.n : Int) - (1 : Int))).toNat * (1 : Nat))) (.o (.i .i64)) fun y3 =>
  .call false 90 [.int .i64 (y3)] (.v (.o (.s))) fun y4 =>
  .lp [.o (.o (.s)), .o (.o (.i .i64))] [.v (.string (y4)), .v (.int .i64 (Go.IntKind.i64.wrap ((↑x0.n : Int) - (2 : Int))))] fun y5 =>
  .br (decide (y5.2.fst ≥ (0 : Int))) (
    .el (x0.a) (x0.n) (y5.2.fst) fun y6 =>
    .ld false (y6.add (Int.toNat y5.2.fst * (1 : Nat))) (.o (.i .i64)) fun y7 =>
    .call false 90 [.int .i64 (y7)] (.v (.o (.s))) fun y8 =>
    .call false 133 [.string (y8), .int .i64 ((9 : Int))] (.v (.o (.s))) fun y9 =>
    .rq (ByteArray.size y5.fst + y9.size ≤ (9223372036854775807 : Nat)) <|
    .nx 0 [.v (.string (y5.fst ++ y9)), .v (.int .i64 (Go.IntKind.i64.wrap (y5.2.fst - (1 : Int))))]) <|
  .ret [.string (y5.fst)]
theorem fS_NatText (x0 : SlV) : fits Tryz.prog aS_NatText 134 [Sc.val .l (x0)] (tS_NatText x0) :=
  ⟨Tryz.f134, Tryz.f134.body.getD .skip, by kernel_rfl, by kernel_rfl, by kernel_rfl, by kernel_rfl, by kernel_rfl, by kernel_rfl⟩
/-! loop.example/g00793/spec.DecAt -/
def aS_DecAt : An := ⟨[], [], []⟩
noncomputable def tS_DecAt (x0 : Bool × SlV × Int × PUnit) (x1 : Int) : T :=
  .call false 130 [Sh1.val (.g [.b, .l, .i .i64]) (x0)] (.v (.o (.b))) fun y1 =>
  .br (!y1) (
    .ret [Sh1.val (.g [.b, .l, .i .i64]) ((false), (⟨(none), ((0 : Nat)), ((0 : Nat))⟩ : SlV), (((0 : Int)) : Int), ()), .bool (false)]) <|
  .call false 88 [.int .i64 (x1), .int .i64 ((0 : Int)), .int .i64 ((30 : Int))] (.v (.o (.b))) fun y2 =>
  .br (!y2) (
    .ret [Sh1.val (.g [.b, .l, .i .i64]) ((false), (⟨(none), ((0 : Nat)), ((0 : Nat))⟩ : SlV), (((0 : Int)) : Int), ()), .bool (false)]) <|
  .br (decide (x1 ≥ x0.2.2.fst)) (
    .rg <|
    .call true 178 [.int .i64 (Go.IntKind.i64.wrap (x1 - x0.2.2.fst))] (.v (.g [.b, .l])) fun y3 =>
    .call true 137 [Sh1.val (.g [.b, .l]) ((x0.fst), x0.2.1, ()), Sh1.val (.g [.b, .l]) (y3)] (.v (.g [.b, .l])) fun y4 =>
    .call true 136 [Sh1.val (.g [.b, .l]) (y4), .int .i64 (x1)] (.t [(.g [.b, .l, .i .i64]), (.o (.b))]) fun y5 =>
    .ret [Sh1.val (.g [.b, .l, .i .i64]) (y5.1), .bool (y5.2.fst)]) <|
  .call false 179 [Sc.val .l (x0.2.1), .int .i64 (Go.IntKind.i64.wrap (x0.2.2.fst - x1))] (.t [(.o (.l)), (.o (.l))]) fun y3 =>
  .br (decide ((↑y3.2.1.n : Int) > (0 : Int))) (
    .ret [Sh1.val (.g [.b, .l, .i .i64]) ((false), (⟨(none), ((0 : Nat)), ((0 : Nat))⟩ : SlV), (((0 : Int)) : Int), ()), .bool (false)]) <|
  .call false 136 [Sh1.val (.g [.b, .l]) ((x0.fst), y3.1, ()), .int .i64 (x1)] (.t [(.g [.b, .l, .i .i64]), (.o (.b))]) fun y4 =>
  .ret [Sh1.val (.g [.b, .l, .i .i64]) (y4.1), .bool (y4.2.fst)]
theorem fS_DecAt (x0 : Bool × SlV × Int × PUnit) (x1 : Int) : fits Tryz.prog aS_DecAt 135 [Sh1.val (.g [.b, .l, .i .i64]) (x0), .int .i64 (x1)] (tS_DecAt x0 x1) :=
  ⟨Tryz.f135, Tryz.f135.body.getD .skip, by kernel_rfl, by kernel_rfl, by kernel_rfl, by kernel_rfl, by kernel_rfl, by kernel_rfl⟩
/-! loop.example/g00793/spec.l07Dec -/
def aS_l07Dec : An := ⟨[], [], []⟩
noncomputable def tS_l07Dec (x0 : Bool × SlV × PUnit) (x1 : Int) : T :=
  .call false 130 [Sh1.val (.g [.b, .l, .i .i64]) ((x0.fst), x0.2.1, ((x1) : Int), ())] (.v (.o (.b))) fun y1 =>
  .br (!y1) (
    .ret [Sh1.val (.g [.b, .l, .i .i64]) ((false), (⟨(none), ((0 : Nat)), ((0 : Nat))⟩ : SlV), (((0 : Int)) : Int), ()), .bool (false)]) <|
  .ret [Sh1.val (.g [.b, .l, .i .i64]) ((x0.fst), x0.2.1, ((x1) : Int), ()), .bool (true)]
theorem fS_l07Dec (x0 : Bool × SlV × PUnit) (x1 : Int) : fits Tryz.prog aS_l07Dec 136 [Sh1.val (.g [.b, .l]) (x0), .int .i64 (x1)] (tS_l07Dec x0 x1) :=
  ⟨Tryz.f136, Tryz.f136.body.getD .skip, by kernel_rfl, by kernel_rfl, by kernel_rfl, by kernel_rfl, by kernel_rfl, by kernel_rfl⟩
/-! loop.example/g00793/spec.IntMul -/
def aS_IntMul : An := ⟨[], [], []⟩
noncomputable def tS_IntMul (x0 : Bool × SlV × PUnit) (x1 : Bool × SlV × PUnit) : T :=
  .call false 93 [Sh1.val (.g [.b, .l]) (x0)] (.v (.o (.b))) fun y1 =>
  .br (!y1) (
    .ret [Sh1.val (.g [.b, .l]) ((false), (⟨(none), ((0 : Nat)), ((0 : Nat))⟩ : SlV), ())]) <|
  .call false 93 [Sh1.val (.g [.b, .l]) (x1)] (.v (.o (.b))) fun y2 =>
  .br (!y2) (
    .ret [Sh1.val (.g [.b, .l]) ((false), (⟨(none), ((0 : Nat)), ((0 : Nat))⟩ : SlV), ())]) <|
  .rg <|
  .call true 176 [Sc.val .l (x0.2.1), Sc.val .l (x1.2.1)] (.v (.o (.l))) fun y3 =>
  .call true 95 [.bool (!x0.fst == x1.fst), Sc.val .l (y3)] (.v (.g [.b, .l])) fun y4 =>
  .ret [Sh1.val (.g [.b, .l]) (y4)]
theorem fS_IntMul (x0 : Bool × SlV × PUnit) (x1 : Bool × SlV × PUnit) : fits Tryz.prog aS_IntMul 137 [Sh1.val (.g [.b, .l]) (x0), Sh1.val (.g [.b, .l]) (x1)] (tS_IntMul x0 x1) :=
  ⟨Tryz.f137, Tryz.f137.body.getD .skip, by kernel_rfl, by kernel_rfl, by kernel_rfl, by kernel_rfl, by kernel_rfl, by kernel_rfl⟩
/-! loop.example/g00793/spec.NatOf -/
def aS_NatOf : An := ⟨[(2, [.s 0, .s 3], [.o (.o (.i .i64)), .a 3])], [], []⟩
noncomputable def tS_NatOf (x0 : Int) : T :=
  .lp [.o (.o (.i .i64)), .a 3] [.v (.int .i64 (x0)), .a 3 ((0 : Nat)) []] fun y1 =>
  .br (decide (y1.fst > (0 : Int))) (
    .rq ((1000000000 : Int) ≠ (0 : Int)) <|
    .rq ([Go.Value.int Go.IntKind.i64 (Int.tmod y1.fst (1000000000 : Int))].length = (1 : Nat) * (1 : Nat)) <|
    .rq (one [Go.Value.int Go.IntKind.i64 (Int.tmod y1.fst (1000000000 : Int))] = true ∧ (y1.2.1.fst + (1 : Nat)) * (8 : Nat) ≤ (140737488355328 : Nat) ∧ y1.2.1.fst + (1 : Nat) ≤ (9223372036854775807 : Nat)) <|
    .rq ((1000000000 : Int) ≠ (0 : Int)) <|
    .nx 0 [.v (.int .i64 (Go.IntKind.i64.wrap (Int.tdiv y1.fst (1000000000 : Int)))), .a 3 (y1.2.1.fst + (1 : Nat)) (y1.2.1.snd ++ [Go.Value.int Go.IntKind.i64 (Int.tmod y1.fst (1000000000 : Int))])]) <|
  .fz (y1.2.1.fst) (y1.2.1.snd) 3 fun b2 c2 =>
  .ret [.slice (some { block := b2, off := (0 : Nat) : Go.Addr }) (y1.2.1.fst) (c2)]
theorem fS_NatOf (x0 : Int) : fits Tryz.prog aS_NatOf 138 [.int .i64 (x0)] (tS_NatOf x0) :=
  ⟨Tryz.f138, Tryz.f138.body.getD .skip, by kernel_rfl, by kernel_rfl, by kernel_rfl, by kernel_rfl, by kernel_rfl, by kernel_rfl⟩
/-! loop.example/g00793/spec.l02Cap -/
def aS_l02Cap : An := ⟨[], [], []⟩
noncomputable def tS_l02Cap (x0 : SlV) : T :=
  .call false 180 [Sc.val .l (x0)] (.v (.o (.l))) fun y1 =>
  .br (decide ((↑y1.n : Int) > (50 : Int))) (
    .ret [.slice (none) ((0 : Nat)) ((0 : Nat))]) <|
  .ret [Sc.val .l (y1)]
theorem fS_l02Cap (x0 : SlV) : fits Tryz.prog aS_l02Cap 139 [Sc.val .l (x0)] (tS_l02Cap x0) :=
  ⟨Tryz.f139, Tryz.f139.body.getD .skip, by kernel_rfl, by kernel_rfl, by kernel_rfl, by kernel_rfl, by kernel_rfl, by kernel_rfl⟩
/-! loop.example/g00793/laws.toMoney -/
def aL_toMoney : An := ⟨[], [], []⟩
noncomputable def tL_toMoney (x0 : ByteArray × Bool × SlV × PUnit) : T :=
  .call false 141 [Sh1.val (.g [.b, .l]) (x0.2)] (.v (.g [.b, .l])) fun y1 =>
  .ret [Sh1.val (.g [.s, .b, .l]) ((x0.fst), (y1.fst), y1.2.1, ())]
theorem fL_toMoney (x0 : ByteArray × Bool × SlV × PUnit) : fits Tryz.prog aL_toMoney 140 [Sh1.val (.g [.s, .b, .l]) (x0)] (tL_toMoney x0) :=
  ⟨Tryz.f140, Tryz.f140.body.getD .skip, by kernel_rfl, by kernel_rfl, by kernel_rfl, by kernel_rfl, by kernel_rfl, by kernel_rfl⟩
/-! loop.example/g00793/laws.toSigned -/
def aL_toSigned : An := ⟨[], [], []⟩
noncomputable def tL_toSigned (x0 : Bool × SlV × PUnit) : T :=
  .call false 142 [Sc.val .l (x0.2.1)] (.v (.o (.l))) fun y1 =>
  .ret [Sh1.val (.g [.b, .l]) ((x0.fst), y1, ())]
theorem fL_toSigned (x0 : Bool × SlV × PUnit) : fits Tryz.prog aL_toSigned 141 [Sh1.val (.g [.b, .l]) (x0)] (tL_toSigned x0) :=
  ⟨Tryz.f141, Tryz.f141.body.getD .skip, by kernel_rfl, by kernel_rfl, by kernel_rfl, by kernel_rfl, by kernel_rfl, by kernel_rfl⟩
/-! loop.example/g00793/laws.toIntS -/
def aL_toIntS : An := ⟨[(3, [.s 3, .s 4], [.a 3, .o (.o (.i .i64))])], [], []⟩
noncomputable def tL_toIntS (x0 : SlV) : T :=
  .rq ((0 : Int) ≤ (↑x0.n : Int) ∧ (↑x0.n : Int) ≤ (↑x0.n : Int) ∧ (↑(8 : Nat) : Int) * (↑x0.n : Int) ≤ (281474976710656 : Int) ∧ (↑x0.n : Int) ≤ (9223372036854775807 : Int)) <|
  .lp [.a 3, .o (.o (.i .i64))] [.a 3 ((↑x0.n : Int).toNat) ((Go.madeCells { toList := [Go.Value.int Go.IntKind.i64 (0 : Int)] : Array Go.Value } ((↑x0.n : Int).toNat * (1 : Nat))).toList), .v (.int .i64 ((0 : Int)))] fun y1 =>
  .br (decide (y1.2.fst < (↑x0.n : Int))) (
    .el (x0.a) (x0.n) (y1.2.fst) fun y2 =>
    .ld false (y2.add (Int.toNat y1.2.fst * (1 : Nat))) (.o (.i .i64)) fun y3 =>
    .rq ((0 : Int) ≤ y1.2.fst ∧ y1.2.fst < (↑y1.1.fst : Int)) <|
    .rq (Int.toNat y1.2.fst * (1 : Nat) + [(Sh1.o (Sc.i Go.IntKind.i64)).val y3].length ≤ y1.1.snd.length) <|
    .nx 0 [.a 3 (y1.1.fst) (setl y1.1.snd (Int.toNat y1.2.fst * (1 : Nat)) [(Sh1.o (Sc.i Go.IntKind.i64)).val y3]), .v (.int .i64 (Go.IntKind.i64.wrap (y1.2.fst + (1 : Int))))]) <|
  .fz (y1.1.fst) (y1.1.snd) 3 fun b2 c2 =>
  .ret [.slice (some { block := b2, off := (0 : Nat) : Go.Addr }) (y1.1.fst) (c2)]
theorem fL_toIntS (x0 : SlV) : fits Tryz.prog aL_toIntS 142 [Sc.val .l (x0)] (tL_toIntS x0) :=
  ⟨Tryz.f142, Tryz.f142.body.getD .skip, by kernel_rfl, by kernel_rfl, by kernel_rfl, by kernel_rfl, by kernel_rfl, by kernel_rfl⟩
/-! loop.example/g00793/laws.toDec -/
def aL_toDec : An := ⟨[], [], []⟩
noncomputable def tL_toDec (x0 : Bool × SlV × Int × PUnit) : T :=
  .call false 141 [Sh1.val (.g [.b, .l]) ((x0.fst), x0.2.1, ())] (.v (.g [.b, .l])) fun y1 =>
  .ret [Sh1.val (.g [.b, .l, .i .i64]) ((y1.fst), y1.2.1, ((x0.2.2.fst) : Int), ())]
theorem fL_toDec (x0 : Bool × SlV × Int × PUnit) : fits Tryz.prog aL_toDec 143 [Sh1.val (.g [.b, .l, .i .i64]) (x0)] (tL_toDec x0) :=
  ⟨Tryz.f143, Tryz.f143.body.getD .skip, by kernel_rfl, by kernel_rfl, by kernel_rfl, by kernel_rfl, by kernel_rfl, by kernel_rfl⟩
/-! loop.example/g00793/impl.isLower -/
def aI_isLower : An := ⟨[], [], []⟩
noncomputable def tI_isLower (x0 : Int) : T :=
  .br (decide (x0 ≥ (97 : Int))) (
    .ret [.bool (decide (x0 ≤ (122 : Int)))]) <|
  .ret [.bool (false)]
theorem fI_isLower (x0 : Int) : fits Tryz.prog aI_isLower 144 [.int .u8 (x0)] (tI_isLower x0) :=
  ⟨Tryz.f144, Tryz.f144.body.getD .skip, by kernel_rfl, by kernel_rfl, by kernel_rfl, by kernel_rfl, by kernel_rfl, by kernel_rfl⟩
/-! loop.example/g00793/impl.isDigit -/
def aI_isDigit : An := ⟨[], [], []⟩
noncomputable def tI_isDigit (x0 : Int) : T :=
  .br (decide (x0 ≥ (48 : Int))) (
    .ret [.bool (decide (x0 ≤ (57 : Int)))]) <|
  .ret [.bool (false)]
theorem fI_isDigit (x0 : Int) : fits Tryz.prog aI_isDigit 145 [.int .u8 (x0)] (tI_isDigit x0) :=
  ⟨Tryz.f145, Tryz.f145.body.getD .skip, by kernel_rfl, by kernel_rfl, by kernel_rfl, by kernel_rfl, by kernel_rfl, by kernel_rfl⟩
/-! loop.example/g00793/impl.IntOk -/
def aI_IntOk : An := ⟨[], [], []⟩
noncomputable def tI_IntOk (x0 : Bool × SlV × PUnit) : T :=
  .call false 148 [Sc.val .l (x0.2.1)] (.v (.o (.b))) fun y1 =>
  .br (y1) (
    .br (!x0.fst) (
      .ret [.bool (true)]) <|
    .ret [.bool (decide ((↑x0.2.1.n : Int) > (0 : Int)))]) <|
  .ret [.bool (false)]
theorem fI_IntOk (x0 : Bool × SlV × PUnit) : fits Tryz.prog aI_IntOk 146 [Sh1.val (.g [.b, .l]) (x0)] (tI_IntOk x0) :=
  ⟨Tryz.f146, Tryz.f146.body.getD .skip, by kernel_rfl, by kernel_rfl, by kernel_rfl, by kernel_rfl, by kernel_rfl, by kernel_rfl⟩
/-! loop.example/g00793/impl.currencyOf -/
def aI_currencyOf : An := ⟨[(2, [.s 7, .c 2 0, .c 2 1, .c 2 2, .c 2 3], [.o (.o (.i .i64)), .o (.o (.s)), .o (.o (.s)), .o (.o (.i .i64)), .o (.o (.i .i64))])], [], []⟩
noncomputable def tI_currencyOf (x0 : ByteArray) : T :=
  .ld false ({ block := (0 : Nat), off := (0 : Nat) : Go.Addr }) (.g [.s, .s, .i .i64, .i .i64, .s, .s, .i .i64, .i .i64, .s, .s, .i .i64, .i .i64, .s, .s, .i .i64, .i .i64, .s, .s, .i .i64, .i .i64, .s, .s, .i .i64, .i .i64, .s, .s, .i .i64, .i .i64, .s, .s, .i .i64, .i .i64, .s, .s, .i .i64, .i .i64, .s, .s, .i .i64, .i .i64, .s, .s, .i .i64, .i .i64, .s, .s, .i .i64, .i .i64, .s, .s, .i .i64, .i .i64, .s, .s, .i .i64, .i .i64, .s, .s, .i .i64, .i .i64, .s, .s, .i .i64, .i .i64, .s, .s, .i .i64, .i .i64, .s, .s, .i .i64, .i .i64, .s, .s, .i .i64, .i .i64, .s, .s, .i .i64, .i .i64]) fun y1 =>
  .lp [.o (.o (.i .i64)), .o (.o (.s)), .o (.o (.s)), .o (.o (.i .i64)), .o (.o (.i .i64))] [.v (.int .i64 ((0 : Int))), .v (.string ({ data := { toList := [] : Array UInt8 } : ByteArray })), .v (.string ({ data := { toList := [] : Array UInt8 } : ByteArray })), .v (.int .i64 ((0 : Int))), .v (.int .i64 ((0 : Int)))] fun y2 =>
  .br (decide (y2.fst < (20 : Int))) (
    .rq ((0 : Int) ≤ y2.fst ∧ y2.fst < (↑(20 : Nat) : Int)) <|
    .xs [.string (y1.fst), .string (y1.2.fst), .int .i64 (y1.2.2.fst), .int .i64 (y1.2.2.2.fst), .string (y1.2.2.2.2.fst), .string (y1.2.2.2.2.2.fst), .int .i64 (y1.2.2.2.2.2.2.fst), .int .i64 (y1.2.2.2.2.2.2.2.fst), .string (y1.2.2.2.2.2.2.2.2.fst), .string (y1.2.2.2.2.2.2.2.2.2.fst), .int .i64 (y1.2.2.2.2.2.2.2.2.2.2.fst), .int .i64 (y1.2.2.2.2.2.2.2.2.2.2.2.fst), .string (y1.2.2.2.2.2.2.2.2.2.2.2.2.fst), .string (y1.2.2.2.2.2.2.2.2.2.2.2.2.2.fst), .int .i64 (y1.2.2.2.2.2.2.2.2.2.2.2.2.2.2.fst), .int .i64 (y1.2.2.2.2.2.2.2.2.2.2.2.2.2.2.2.fst), .string (y1.2.2.2.2.2.2.2.2.2.2.2.2.2.2.2.2.fst), .string (y1.2.2.2.2.2.2.2.2.2.2.2.2.2.2.2.2.2.fst), .int .i64 (y1.2.2.2.2.2.2.2.2.2.2.2.2.2.2.2.2.2.2.fst), .int .i64 (y1.2.2.2.2.2.2.2.2.2.2.2.2.2.2.2.2.2.2.2.fst), .string (y1.2.2.2.2.2.2.2.2.2.2.2.2.2.2.2.2.2.2.2.2.fst), .string (y1.2.2.2.2.2.2.2.2.2.2.2.2.2.2.2.2.2.2.2.2.2.fst), .int .i64 (y1.2.2.2.2.2.2.2.2.2.2.2.2.2.2.2.2.2.2.2.2.2.2.fst), .int .i64 (y1.2.2.2.2.2.2.2.2.2.2.2.2.2.2.2.2.2.2.2.2.2.2.2.fst), .string (y1.2.2.2.2.2.2.2.2.2.2.2.2.2.2.2.2.2.2.2.2.2.2.2.2.fst), .string (y1.2.2.2.2.2.2.2.2.2.2.2.2.2.2.2.2.2.2.2.2.2.2.2.2.2.fst), .int .i64 (y1.2.2.2.2.2.2.2.2.2.2.2.2.2.2.2.2.2.2.2.2.2.2.2.2.2.2.fst), .int .i64 (y1.2.2.2.2.2.2.2.2.2.2.2.2.2.2.2.2.2.2.2.2.2.2.2.2.2.2.2.fst), .string (y1.2.2.2.2.2.2.2.2.2.2.2.2.2.2.2.2.2.2.2.2.2.2.2.2.2.2.2.2.fst), .string (y1.2.2.2.2.2.2.2.2.2.2.2.2.2.2.2.2.2.2.2.2.2.2.2.2.2.2.2.2.2.fst), .int .i64 (y1.2.2.2.2.2.2.2.2.2.2.2.2.2.2.2.2.2.2.2.2.2.2.2.2.2.2.2.2.2.2.fst), .int .i64 (y1.2.2.2.2.2.2.2.2.2.2.2.2.2.2.2.2.2.2.2.2.2.2.2.2.2.2.2.2.2.2.2.fst), .string (y1.2.2.2.2.2.2.2.2.2.2.2.2.2.2.2.2.2.2.2.2.2.2.2.2.2.2.2.2.2.2.2.2.fst), .string (y1.2.2.2.2.2.2.2.2.2.2.2.2.2.2.2.2.2.2.2.2.2.2.2.2.2.2.2.2.2.2.2.2.2.fst), .int .i64 (y1.2.2.2.2.2.2.2.2.2.2.2.2.2.2.2.2.2.2.2.2.2.2.2.2.2.2.2.2.2.2.2.2.2.2.fst), .int .i64 (y1.2.2.2.2.2.2.2.2.2.2.2.2.2.2.2.2.2.2.2.2.2.2.2.2.2.2.2.2.2.2.2.2.2.2.2.fst), .string (y1.2.2.2.2.2.2.2.2.2.2.2.2.2.2.2.2.2.2.2.2.2.2.2.2.2.2.2.2.2.2.2.2.2.2.2.2.fst), .string (y1.2.2.2.2.2.2.2.2.2.2.2.2.2.2.2.2.2.2.2.2.2.2.2.2.2.2.2.2.2.2.2.2.2.2.2.2.2.fst), .int .i64 (y1.2.2.2.2.2.2.2.2.2.2.2.2.2.2.2.2.2.2.2.2.2.2.2.2.2.2.2.2.2.2.2.2.2.2.2.2.2.2.fst), .int .i64 (y1.2.2.2.2.2.2.2.2.2.2.2.2.2.2.2.2.2.2.2.2.2.2.2.2.2.2.2.2.2.2.2.2.2.2.2.2.2.2.2.fst), .string (y1.2.2.2.2.2.2.2.2.2.2.2.2.2.2.2.2.2.2.2.2.2.2.2.2.2.2.2.2.2.2.2.2.2.2.2.2.2.2.2.2.fst), .string (y1.2.2.2.2.2.2.2.2.2.2.2.2.2.2.2.2.2.2.2.2.2.2.2.2.2.2.2.2.2.2.2.2.2.2.2.2.2.2.2.2.2.fst), .int .i64 (y1.2.2.2.2.2.2.2.2.2.2.2.2.2.2.2.2.2.2.2.2.2.2.2.2.2.2.2.2.2.2.2.2.2.2.2.2.2.2.2.2.2.2.fst), .int .i64 (y1.2.2.2.2.2.2.2.2.2.2.2.2.2.2.2.2.2.2.2.2.2.2.2.2.2.2.2.2.2.2.2.2.2.2.2.2.2.2.2.2.2.2.2.fst), .string (y1.2.2.2.2.2.2.2.2.2.2.2.2.2.2.2.2.2.2.2.2.2.2.2.2.2.2.2.2.2.2.2.2.2.2.2.2.2.2.2.2.2.2.2.2.fst), .string (y1.2.2.2.2.2.2.2.2.2.2.2.2.2.2.2.2.2.2.2.2.2.2.2.2.2.2.2.2.2.2.2.2.2.2.2.2.2.2.2.2.2.2.2.2.2.fst), .int .i64 (y1.2.2.2.2.2.2.2.2.2.2.2.2.2.2.2.2.2.2.2.2.2.2.2.2.2.2.2.2.2.2.2.2.2.2.2.2.2.2.2.2.2.2.2.2.2.2.fst), .int .i64 (y1.2.2.2.2.2.2.2.2.2.2.2.2.2.2.2.2.2.2.2.2.2.2.2.2.2.2.2.2.2.2.2.2.2.2.2.2.2.2.2.2.2.2.2.2.2.2.2.fst), .string (y1.2.2.2.2.2.2.2.2.2.2.2.2.2.2.2.2.2.2.2.2.2.2.2.2.2.2.2.2.2.2.2.2.2.2.2.2.2.2.2.2.2.2.2.2.2.2.2.2.fst), .string (y1.2.2.2.2.2.2.2.2.2.2.2.2.2.2.2.2.2.2.2.2.2.2.2.2.2.2.2.2.2.2.2.2.2.2.2.2.2.2.2.2.2.2.2.2.2.2.2.2.2.fst), .int .i64 (y1.2.2.2.2.2.2.2.2.2.2.2.2.2.2.2.2.2.2.2.2.2.2.2.2.2.2.2.2.2.2.2.2.2.2.2.2.2.2.2.2.2.2.2.2.2.2.2.2.2.2.fst), .int .i64 (y1.2.2.2.2.2.2.2.2.2.2.2.2.2.2.2.2.2.2.2.2.2.2.2.2.2.2.2.2.2.2.2.2.2.2.2.2.2.2.2.2.2.2.2.2.2.2.2.2.2.2.2.fst), .string (y1.2.2.2.2.2.2.2.2.2.2.2.2.2.2.2.2.2.2.2.2.2.2.2.2.2.2.2.2.2.2.2.2.2.2.2.2.2.2.2.2.2.2.2.2.2.2.2.2.2.2.2.2.fst), .string (y1.2.2.2.2.2.2.2.2.2.2.2.2.2.2.2.2.2.2.2.2.2.2.2.2.2.2.2.2.2.2.2.2.2.2.2.2.2.2.2.2.2.2.2.2.2.2.2.2.2.2.2.2.2.fst), .int .i64 (y1.2.2.2.2.2.2.2.2.2.2.2.2.2.2.2.2.2.2.2.2.2.2.2.2.2.2.2.2.2.2.2.2.2.2.2.2.2.2.2.2.2.2.2.2.2.2.2.2.2.2.2.2.2.2.fst), .int .i64 (y1.2.2.2.2.2.2.2.2.2.2.2.2.2.2.2.2.2.2.2.2.2.2.2.2.2.2.2.2.2.2.2.2.2.2.2.2.2.2.2.2.2.2.2.2.2.2.2.2.2.2.2.2.2.2.2.fst), .string (y1.2.2.2.2.2.2.2.2.2.2.2.2.2.2.2.2.2.2.2.2.2.2.2.2.2.2.2.2.2.2.2.2.2.2.2.2.2.2.2.2.2.2.2.2.2.2.2.2.2.2.2.2.2.2.2.2.fst), .string (y1.2.2.2.2.2.2.2.2.2.2.2.2.2.2.2.2.2.2.2.2.2.2.2.2.2.2.2.2.2.2.2.2.2.2.2.2.2.2.2.2.2.2.2.2.2.2.2.2.2.2.2.2.2.2.2.2.2.fst), .int .i64 (y1.2.2.2.2.2.2.2.2.2.2.2.2.2.2.2.2.2.2.2.2.2.2.2.2.2.2.2.2.2.2.2.2.2.2.2.2.2.2.2.2.2.2.2.2.2.2.2.2.2.2.2.2.2.2.2.2.2.2.fst), .int .i64 (y1.2.2.2.2.2.2.2.2.2.2.2.2.2.2.2.2.2.2.2.2.2.2.2.2.2.2.2.2.2.2.2.2.2.2.2.2.2.2.2.2.2.2.2.2.2.2.2.2.2.2.2.2.2.2.2.2.2.2.2.fst), .string (y1.2.2.2.2.2.2.2.2.2.2.2.2.2.2.2.2.2.2.2.2.2.2.2.2.2.2.2.2.2.2.2.2.2.2.2.2.2.2.2.2.2.2.2.2.2.2.2.2.2.2.2.2.2.2.2.2.2.2.2.2.fst), .string (y1.2.2.2.2.2.2.2.2.2.2.2.2.2.2.2.2.2.2.2.2.2.2.2.2.2.2.2.2.2.2.2.2.2.2.2.2.2.2.2.2.2.2.2.2.2.2.2.2.2.2.2.2.2.2.2.2.2.2.2.2.2.fst), .int .i64 (y1.2.2.2.2.2.2.2.2.2.2.2.2.2.2.2.2.2.2.2.2.2.2.2.2.2.2.2.2.2.2.2.2.2.2.2.2.2.2.2.2.2.2.2.2.2.2.2.2.2.2.2.2.2.2.2.2.2.2.2.2.2.2.fst), .int .i64 (y1.2.2.2.2.2.2.2.2.2.2.2.2.2.2.2.2.2.2.2.2.2.2.2.2.2.2.2.2.2.2.2.2.2.2.2.2.2.2.2.2.2.2.2.2.2.2.2.2.2.2.2.2.2.2.2.2.2.2.2.2.2.2.2.fst), .string (y1.2.2.2.2.2.2.2.2.2.2.2.2.2.2.2.2.2.2.2.2.2.2.2.2.2.2.2.2.2.2.2.2.2.2.2.2.2.2.2.2.2.2.2.2.2.2.2.2.2.2.2.2.2.2.2.2.2.2.2.2.2.2.2.2.fst), .string (y1.2.2.2.2.2.2.2.2.2.2.2.2.2.2.2.2.2.2.2.2.2.2.2.2.2.2.2.2.2.2.2.2.2.2.2.2.2.2.2.2.2.2.2.2.2.2.2.2.2.2.2.2.2.2.2.2.2.2.2.2.2.2.2.2.2.fst), .int .i64 (y1.2.2.2.2.2.2.2.2.2.2.2.2.2.2.2.2.2.2.2.2.2.2.2.2.2.2.2.2.2.2.2.2.2.2.2.2.2.2.2.2.2.2.2.2.2.2.2.2.2.2.2.2.2.2.2.2.2.2.2.2.2.2.2.2.2.2.fst), .int .i64 (y1.2.2.2.2.2.2.2.2.2.2.2.2.2.2.2.2.2.2.2.2.2.2.2.2.2.2.2.2.2.2.2.2.2.2.2.2.2.2.2.2.2.2.2.2.2.2.2.2.2.2.2.2.2.2.2.2.2.2.2.2.2.2.2.2.2.2.2.fst), .string (y1.2.2.2.2.2.2.2.2.2.2.2.2.2.2.2.2.2.2.2.2.2.2.2.2.2.2.2.2.2.2.2.2.2.2.2.2.2.2.2.2.2.2.2.2.2.2.2.2.2.2.2.2.2.2.2.2.2.2.2.2.2.2.2.2.2.2.2.2.fst), .string (y1.2.2.2.2.2.2.2.2.2.2.2.2.2.2.2.2.2.2.2.2.2.2.2.2.2.2.2.2.2.2.2.2.2.2.2.2.2.2.2.2.2.2.2.2.2.2.2.2.2.2.2.2.2.2.2.2.2.2.2.2.2.2.2.2.2.2.2.2.2.fst), .int .i64 (y1.2.2.2.2.2.2.2.2.2.2.2.2.2.2.2.2.2.2.2.2.2.2.2.2.2.2.2.2.2.2.2.2.2.2.2.2.2.2.2.2.2.2.2.2.2.2.2.2.2.2.2.2.2.2.2.2.2.2.2.2.2.2.2.2.2.2.2.2.2.2.fst), .int .i64 (y1.2.2.2.2.2.2.2.2.2.2.2.2.2.2.2.2.2.2.2.2.2.2.2.2.2.2.2.2.2.2.2.2.2.2.2.2.2.2.2.2.2.2.2.2.2.2.2.2.2.2.2.2.2.2.2.2.2.2.2.2.2.2.2.2.2.2.2.2.2.2.2.fst), .string (y1.2.2.2.2.2.2.2.2.2.2.2.2.2.2.2.2.2.2.2.2.2.2.2.2.2.2.2.2.2.2.2.2.2.2.2.2.2.2.2.2.2.2.2.2.2.2.2.2.2.2.2.2.2.2.2.2.2.2.2.2.2.2.2.2.2.2.2.2.2.2.2.2.fst), .string (y1.2.2.2.2.2.2.2.2.2.2.2.2.2.2.2.2.2.2.2.2.2.2.2.2.2.2.2.2.2.2.2.2.2.2.2.2.2.2.2.2.2.2.2.2.2.2.2.2.2.2.2.2.2.2.2.2.2.2.2.2.2.2.2.2.2.2.2.2.2.2.2.2.2.fst), .int .i64 (y1.2.2.2.2.2.2.2.2.2.2.2.2.2.2.2.2.2.2.2.2.2.2.2.2.2.2.2.2.2.2.2.2.2.2.2.2.2.2.2.2.2.2.2.2.2.2.2.2.2.2.2.2.2.2.2.2.2.2.2.2.2.2.2.2.2.2.2.2.2.2.2.2.2.2.fst), .int .i64 (y1.2.2.2.2.2.2.2.2.2.2.2.2.2.2.2.2.2.2.2.2.2.2.2.2.2.2.2.2.2.2.2.2.2.2.2.2.2.2.2.2.2.2.2.2.2.2.2.2.2.2.2.2.2.2.2.2.2.2.2.2.2.2.2.2.2.2.2.2.2.2.2.2.2.2.2.fst), .string (y1.2.2.2.2.2.2.2.2.2.2.2.2.2.2.2.2.2.2.2.2.2.2.2.2.2.2.2.2.2.2.2.2.2.2.2.2.2.2.2.2.2.2.2.2.2.2.2.2.2.2.2.2.2.2.2.2.2.2.2.2.2.2.2.2.2.2.2.2.2.2.2.2.2.2.2.2.fst), .string (y1.2.2.2.2.2.2.2.2.2.2.2.2.2.2.2.2.2.2.2.2.2.2.2.2.2.2.2.2.2.2.2.2.2.2.2.2.2.2.2.2.2.2.2.2.2.2.2.2.2.2.2.2.2.2.2.2.2.2.2.2.2.2.2.2.2.2.2.2.2.2.2.2.2.2.2.2.2.fst), .int .i64 (y1.2.2.2.2.2.2.2.2.2.2.2.2.2.2.2.2.2.2.2.2.2.2.2.2.2.2.2.2.2.2.2.2.2.2.2.2.2.2.2.2.2.2.2.2.2.2.2.2.2.2.2.2.2.2.2.2.2.2.2.2.2.2.2.2.2.2.2.2.2.2.2.2.2.2.2.2.2.2.fst), .int .i64 (y1.2.2.2.2.2.2.2.2.2.2.2.2.2.2.2.2.2.2.2.2.2.2.2.2.2.2.2.2.2.2.2.2.2.2.2.2.2.2.2.2.2.2.2.2.2.2.2.2.2.2.2.2.2.2.2.2.2.2.2.2.2.2.2.2.2.2.2.2.2.2.2.2.2.2.2.2.2.2.2.fst)] (Int.toNat y2.fst * (4 : Nat)) (.g [.s, .s, .i .i64, .i .i64]) fun y3 =>
    .br (ByteArray.toList y3.fst == x0.toList) (
      .ret [Sh1.val (.g [.s, .s, .i .i64, .i .i64]) (y3), .bool (true)]) <|
    .nx 0 [.v (.int .i64 (Go.IntKind.i64.wrap (y2.fst + (1 : Int)))), .v (.string (y2.2.fst)), .v (.string (y2.2.2.fst)), .v (.int .i64 (y2.2.2.2.fst)), .v (.int .i64 (y2.2.2.2.2.fst))]) <|
  .ret [Sh1.val (.g [.s, .s, .i .i64, .i .i64]) (({ data := { toList := [] : Array UInt8 } : ByteArray }), ({ data := { toList := [] : Array UInt8 } : ByteArray }), (((0 : Int)) : Int), (((0 : Int)) : Int), ()), .bool (false)]
theorem fI_currencyOf (x0 : ByteArray) : fits Tryz.prog aI_currencyOf 147 [.string (x0)] (tI_currencyOf x0) :=
  ⟨Tryz.f147, Tryz.f147.body.getD .skip, by kernel_rfl, by kernel_rfl, by kernel_rfl, by kernel_rfl, by kernel_rfl, by kernel_rfl⟩
end Go.Proofs.YtpnjdpomoijaaaaGreatDoor
