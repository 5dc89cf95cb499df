/-
  What each function of the seat comes to, as a tree; each tree is checked against the code.
-/
import Derived.Test.YtfbnocogljmpdaaGreatDoorEngD
import Derived.Test.YtfbnocogljmpdaaGreatDoorChecked
import Derived.KernelRfl
namespace Go.Proofs.YtfbnocogljmpdaaGreatDoor
open Sx
set_option maxRecDepth 100000
abbrev gL_FnExactCmdOk : Nat := 3
abbrev gL_FnExactCmdText : Nat := 4
abbrev gL_FnExactCmdSame : Nat := 5
abbrev gL_szCmd : Nat := 6
abbrev gS_CmdOk : Nat := 7
abbrev gL_toCmd : Nat := 8
abbrev gI_CmdOk : Nat := 9
abbrev gL_eqCmd : Nat := 10
abbrev gS_CmdText : Nat := 11
abbrev gI_CmdText : Nat := 12
abbrev gS_CmdSame : Nat := 13
abbrev gI_CmdSame : Nat := 14
abbrev gL_szMoney : Nat := 15
abbrev gL_szStringS : Nat := 16
abbrev gL_szIntS : Nat := 17
abbrev gL_szDec : Nat := 18
abbrev gL_szRate : Nat := 19
abbrev gS_l22Has : Nat := 20
abbrev gS_l22Op : Nat := 21
abbrev gS_IsWord : Nat := 22
abbrev gS_IsCode : Nat := 23
abbrev gS_l21Money : Nat := 24
abbrev gS_l06Mode : Nat := 25
abbrev gS_l22Weights : Nat := 26
abbrev gS_TaxRateOk : Nat := 27
abbrev gS_DecText : Nat := 28
abbrev gS_DecLow : Nat := 29
abbrev gS_l22Zero : Nat := 30
abbrev gS_RateOk : Nat := 31
abbrev gL_toMoney : Nat := 32
abbrev gL_toStringS : Nat := 33
abbrev gL_toIntS : Nat := 34
abbrev gL_toDec : Nat := 35
abbrev gL_toRate : Nat := 36
abbrev gI_fieldsOf : Nat := 37
abbrev gI_fieldZero : Nat := 38
abbrev gX_Contains_int : Nat := 39
abbrev gI_fieldOk : Nat := 40
abbrev gL_eqMoney : Nat := 41
abbrev gL_eqStringS : Nat := 42
abbrev gL_eqIntS : Nat := 43
abbrev gL_eqDec : Nat := 44
abbrev gL_eqRate : Nat := 45
abbrev gS_OpName : Nat := 46
abbrev gS_RateText : Nat := 47
abbrev gS_MoneyText : Nat := 48
abbrev gS_l22Deal : Nat := 49
abbrev gS_Percent : Nat := 50
abbrev gS_RmName : Nat := 51
abbrev gS_Join : Nat := 52
abbrev gI_OpName : Nat := 53
abbrev gI_fieldText : Nat := 54
abbrev gI_Join : Nat := 55
abbrev gL_szSigned : Nat := 56
abbrev gS_l01In : Nat := 57
abbrev gS_l01All : Nat := 58
abbrev gS_MoneyOk : Nat := 59
abbrev gS_l21Names : Nat := 60
abbrev gS_DecOk : Nat := 61
abbrev gS_DecCmp : Nat := 62
abbrev gS_IntOf : Nat := 63
abbrev gS_Pad : Nat := 64
abbrev gS_NatText : Nat := 65
abbrev gS_DecAt : Nat := 66
abbrev gS_CurKnown : Nat := 67
abbrev gS_IntSign : Nat := 68
abbrev gL_toSigned : Nat := 69
abbrev gI_MoneySame : Nat := 70
abbrev gI_decIsZero : Nat := 71
abbrev gX_Index_int : Nat := 72
abbrev gI_IsWord : Nat := 73
abbrev gI_IsCode : Nat := 74
abbrev gI_payable : Nat := 75
abbrev gI_dealOk : Nat := 76
abbrev gI_TaxRateOk : Nat := 77
abbrev gI_decSame : Nat := 78
abbrev gI_DecLow : Nat := 79
abbrev gI_isMode : Nat := 80
abbrev gI_RateOk : Nat := 81
abbrev gL_eqSigned : Nat := 82
abbrev gS_CurPlaces : Nat := 83
abbrev gS_IntText : Nat := 84
abbrev gS_DecMul : Nat := 85
abbrev gI_nameAt : Nat := 86
abbrev gI_MoneyText : Nat := 87
abbrev gI_dealText : Nat := 88
abbrev gI_Percent : Nat := 89
abbrev gI_RmName : Nat := 90
abbrev gI_RateText : Nat := 91
abbrev gS_IntOk : Nat := 93
abbrev gS_l07Both : Nat := 94
abbrev gS_IntCmp : Nat := 95
abbrev gS_l04Make : Nat := 96
abbrev gS_NatOf : Nat := 97
abbrev gS_NatOk : Nat := 98
abbrev gS_l07Dec : Nat := 99
abbrev gS_IntMul : Nat := 100
abbrev gS_l07Ten : Nat := 101
abbrev gS_NatCut : Nat := 102
abbrev gS_l08Find : Nat := 103
abbrev gI_intSame : Nat := 104
abbrev gI_isLower : Nat := 105
abbrev gI_isDigit : Nat := 106
abbrev gI_MoneyOk : Nat := 107
abbrev gI_areNames : Nat := 108
abbrev gX_ContainsFunc_int : Nat := 109
abbrev gI_dealOk_1 : Nat := 110
abbrev gI_DecOk : Nat := 111
abbrev gI_DecCmp : Nat := 112
abbrev gI_IntOf : Nat := 113
abbrev gI_DecAt : Nat := 114
abbrev gI_CurKnown : Nat := 115
abbrev gI_intSign : Nat := 116
abbrev gI_DecText : Nat := 117
abbrev gI_CurPlaces : Nat := 118
abbrev gI_IntText : Nat := 119
abbrev gI_DecMul : Nat := 120
abbrev gI_roundModes : Nat := 121
abbrev gS_l02Cmp : Nat := 125
abbrev gS_l02Cap : Nat := 126
abbrev gS_l02Mul : Nat := 127
abbrev gS_NatTen : Nat := 128
abbrev gS_NatDiv : Nat := 129
abbrev gS_l08Table : Nat := 130
abbrev gI_sameInts : Nat := 131
abbrev gI_IntOk : Nat := 132
abbrev gX_IndexFunc_int : Nat := 133
abbrev gI_isScale : Nat := 134
abbrev gI_scaled : Nat := 135
abbrev gI_intCmp : Nat := 136
abbrev gI_natOf : Nat := 137
abbrev gI_decOf : Nat := 138
abbrev gI_natDiv : Nat := 139
abbrev gI_natTen : Nat := 140
abbrev gI_signed : Nat := 141
abbrev gI_currencyOf : Nat := 142
abbrev gI_Pad : Nat := 143
abbrev gI_natText : Nat := 144
abbrev gI_intMul : Nat := 146
abbrev gI_roundModes_1 : Nat := 147
abbrev gI_roundModes_2 : Nat := 148
abbrev gI_roundModes_3 : Nat := 149
abbrev gI_roundModes_4 : Nat := 150
abbrev gI_roundModes_5 : Nat := 151
abbrev gI_roundModes_6 : Nat := 152
abbrev gI_roundModes_7 : Nat := 153
abbrev gS_l02Trim : Nat := 156
abbrev gS_l03Div : Nat := 157
abbrev gI_NatOk : Nat := 158
abbrev gI_scaled_1 : Nat := 159
abbrev gI_natMul : Nat := 160
abbrev gI_intAdd : Nat := 161
abbrev gI_intNeg : Nat := 162
abbrev gI_natCmp : Nat := 163
abbrev gI_natCopy : Nat := 164
abbrev gI_natSmall : Nat := 165
abbrev gI_NatOf : Nat := 166
abbrev gI_divStep : Nat := 167
abbrev gI_trim : Nat := 168
abbrev gS_l03Small : Nat := 173
abbrev gS_l03Digit : Nat := 174
abbrev gS_l02Sub : Nat := 175
abbrev gI_natAdd : Nat := 176
abbrev gI_natSub : Nat := 177
abbrev gI_subTimes : Nat := 178
abbrev gI_addBack : Nat := 179
/-! loop.example/g00793/laws.FnExactCmdOk -/
def aL_FnExactCmdOk : An := ⟨[], [], []⟩
noncomputable def tL_FnExactCmdOk (x0 : Int × ByteArray × ByteArray × ByteArray × ByteArray × ByteArray × Bool × SlV × Int × SlV × SlV × Bool × SlV × Int × ByteArray × ByteArray × Bool × SlV × Int × PUnit) : T :=
  .call false 6 [Sh1.val (.g [.i .i64, .s, .s, .s, .s, .s, .b, .l, .i .i64, .l, .l, .b, .l, .i .i64, .s, .s, .b, .l, .i .i64]) (x0), .int .i64 ((1048576 : Int))] (.v (.o (.i .i64))) fun y1 =>
  .br (decide (y1 < (0 : Int))) (
    .ret [.bool (true)]) <|
  .call false 8 [Sh1.val (.g [.i .i64, .s, .s, .s, .s, .s, .b, .l, .i .i64, .l, .l, .b, .l, .i .i64, .s, .s, .b, .l, .i .i64]) (x0)] (.v (.g [.i .i64, .s, .s, .s, .s, .s, .b, .l, .i .i64, .l, .l, .b, .l, .i .i64, .s, .s, .b, .l, .i .i64])) fun y2 =>
  .call false 7 [Sh1.val (.g [.i .i64, .s, .s, .s, .s, .s, .b, .l, .i .i64, .l, .l, .b, .l, .i .i64, .s, .s, .b, .l, .i .i64]) (y2)] (.v (.o (.b))) fun y3 =>
  .call false 8 [Sh1.val (.g [.i .i64, .s, .s, .s, .s, .s, .b, .l, .i .i64, .l, .l, .b, .l, .i .i64, .s, .s, .b, .l, .i .i64]) (x0)] (.v (.g [.i .i64, .s, .s, .s, .s, .s, .b, .l, .i .i64, .l, .l, .b, .l, .i .i64, .s, .s, .b, .l, .i .i64])) fun y4 =>
  .call false 9 [Sh1.val (.g [.i .i64, .s, .s, .s, .s, .s, .b, .l, .i .i64, .l, .l, .b, .l, .i .i64, .s, .s, .b, .l, .i .i64]) (y4)] (.v (.o (.b))) fun y5 =>
  .br (!y5 == y3) (
    .ret [.bool (false)]) <|
  .rg <|
  .call true 8 [Sh1.val (.g [.i .i64, .s, .s, .s, .s, .s, .b, .l, .i .i64, .l, .l, .b, .l, .i .i64, .s, .s, .b, .l, .i .i64]) (x0)] (.v (.g [.i .i64, .s, .s, .s, .s, .s, .b, .l, .i .i64, .l, .l, .b, .l, .i .i64, .s, .s, .b, .l, .i .i64])) fun y6 =>
  .call true 10 [Sh1.val (.g [.i .i64, .s, .s, .s, .s, .s, .b, .l, .i .i64, .l, .l, .b, .l, .i .i64, .s, .s, .b, .l, .i .i64]) (y4), Sh1.val (.g [.i .i64, .s, .s, .s, .s, .s, .b, .l, .i .i64, .l, .l, .b, .l, .i .i64, .s, .s, .b, .l, .i .i64]) (y6)] (.v (.o (.b))) fun y7 =>
  .br (!y7) (
    .ret [.bool (false)]) <|
  .ret [.bool (true)]
theorem fL_FnExactCmdOk (x0 : Int × ByteArray × ByteArray × ByteArray × ByteArray × ByteArray × Bool × SlV × Int × SlV × SlV × Bool × SlV × Int × ByteArray × ByteArray × Bool × SlV × Int × PUnit) : fits Tryz.prog aL_FnExactCmdOk 3 [Sh1.val (.g [.i .i64, .s, .s, .s, .s, .s, .b, .l, .i .i64, .l, .l, .b, .l, .i .i64, .s, .s, .b, .l, .i .i64]) (x0)] (tL_FnExactCmdOk x0) :=
  ⟨Tryz.f3, Tryz.f3.body.getD .skip, by kernel_rfl, by kernel_rfl, by kernel_rfl, by kernel_rfl, by kernel_rfl, by kernel_rfl⟩
/-! loop.example/g00793/laws.FnExactCmdText -/
def aL_FnExactCmdText : An := ⟨[], [], []⟩
noncomputable def tL_FnExactCmdText (x0 : Int × ByteArray × ByteArray × ByteArray × ByteArray × ByteArray × Bool × SlV × Int × SlV × SlV × Bool × SlV × Int × ByteArray × ByteArray × Bool × SlV × Int × PUnit) : T :=
  .call false 6 [Sh1.val (.g [.i .i64, .s, .s, .s, .s, .s, .b, .l, .i .i64, .l, .l, .b, .l, .i .i64, .s, .s, .b, .l, .i .i64]) (x0), .int .i64 ((1048576 : Int))] (.v (.o (.i .i64))) fun y1 =>
  .br (decide (y1 < (0 : Int))) (
    .ret [.bool (true)]) <|
  .call false 8 [Sh1.val (.g [.i .i64, .s, .s, .s, .s, .s, .b, .l, .i .i64, .l, .l, .b, .l, .i .i64, .s, .s, .b, .l, .i .i64]) (x0)] (.v (.g [.i .i64, .s, .s, .s, .s, .s, .b, .l, .i .i64, .l, .l, .b, .l, .i .i64, .s, .s, .b, .l, .i .i64])) fun y2 =>
  .call false 11 [Sh1.val (.g [.i .i64, .s, .s, .s, .s, .s, .b, .l, .i .i64, .l, .l, .b, .l, .i .i64, .s, .s, .b, .l, .i .i64]) (y2)] (.v (.o (.s))) fun y3 =>
  .call false 8 [Sh1.val (.g [.i .i64, .s, .s, .s, .s, .s, .b, .l, .i .i64, .l, .l, .b, .l, .i .i64, .s, .s, .b, .l, .i .i64]) (x0)] (.v (.g [.i .i64, .s, .s, .s, .s, .s, .b, .l, .i .i64, .l, .l, .b, .l, .i .i64, .s, .s, .b, .l, .i .i64])) fun y4 =>
  .call false 12 [Sh1.val (.g [.i .i64, .s, .s, .s, .s, .s, .b, .l, .i .i64, .l, .l, .b, .l, .i .i64, .s, .s, .b, .l, .i .i64]) (y4)] (.v (.o (.s))) fun y5 =>
  .br (!y5.toList == y3.toList) (
    .ret [.bool (false)]) <|
  .rg <|
  .call true 8 [Sh1.val (.g [.i .i64, .s, .s, .s, .s, .s, .b, .l, .i .i64, .l, .l, .b, .l, .i .i64, .s, .s, .b, .l, .i .i64]) (x0)] (.v (.g [.i .i64, .s, .s, .s, .s, .s, .b, .l, .i .i64, .l, .l, .b, .l, .i .i64, .s, .s, .b, .l, .i .i64])) fun y6 =>
  .call true 10 [Sh1.val (.g [.i .i64, .s, .s, .s, .s, .s, .b, .l, .i .i64, .l, .l, .b, .l, .i .i64, .s, .s, .b, .l, .i .i64]) (y4), Sh1.val (.g [.i .i64, .s, .s, .s, .s, .s, .b, .l, .i .i64, .l, .l, .b, .l, .i .i64, .s, .s, .b, .l, .i .i64]) (y6)] (.v (.o (.b))) fun y7 =>
  .br (!y7) (
    .ret [.bool (false)]) <|
  .ret [.bool (true)]
theorem fL_FnExactCmdText (x0 : Int × ByteArray × ByteArray × ByteArray × ByteArray × ByteArray × Bool × SlV × Int × SlV × SlV × Bool × SlV × Int × ByteArray × ByteArray × Bool × SlV × Int × PUnit) : fits Tryz.prog aL_FnExactCmdText 4 [Sh1.val (.g [.i .i64, .s, .s, .s, .s, .s, .b, .l, .i .i64, .l, .l, .b, .l, .i .i64, .s, .s, .b, .l, .i .i64]) (x0)] (tL_FnExactCmdText x0) :=
  ⟨Tryz.f4, Tryz.f4.body.getD .skip, by kernel_rfl, by kernel_rfl, by kernel_rfl, by kernel_rfl, by kernel_rfl, by kernel_rfl⟩
/-! loop.example/g00793/laws.FnExactCmdSame -/
def aL_FnExactCmdSame : An := ⟨[], [], []⟩
noncomputable def tL_FnExactCmdSame (x0 : Int × ByteArray × ByteArray × ByteArray × ByteArray × ByteArray × Bool × SlV × Int × SlV × SlV × Bool × SlV × Int × ByteArray × ByteArray × Bool × SlV × Int × PUnit) (x1 : Int × ByteArray × ByteArray × ByteArray × ByteArray × ByteArray × Bool × SlV × Int × SlV × SlV × Bool × SlV × Int × ByteArray × ByteArray × Bool × SlV × Int × PUnit) : T :=
  .call false 6 [Sh1.val (.g [.i .i64, .s, .s, .s, .s, .s, .b, .l, .i .i64, .l, .l, .b, .l, .i .i64, .s, .s, .b, .l, .i .i64]) (x0), .int .i64 ((1048576 : Int))] (.v (.o (.i .i64))) fun y1 =>
  .br (decide (y1 < (0 : Int))) (
    .ret [.bool (true)]) <|
  .call false 6 [Sh1.val (.g [.i .i64, .s, .s, .s, .s, .s, .b, .l, .i .i64, .l, .l, .b, .l, .i .i64, .s, .s, .b, .l, .i .i64]) (x1), .int .i64 (y1)] (.v (.o (.i .i64))) fun y2 =>
  .br (decide (y2 < (0 : Int))) (
    .ret [.bool (true)]) <|
  .rg <|
  .call true 8 [Sh1.val (.g [.i .i64, .s, .s, .s, .s, .s, .b, .l, .i .i64, .l, .l, .b, .l, .i .i64, .s, .s, .b, .l, .i .i64]) (x0)] (.v (.g [.i .i64, .s, .s, .s, .s, .s, .b, .l, .i .i64, .l, .l, .b, .l, .i .i64, .s, .s, .b, .l, .i .i64])) fun y3 =>
  .call true 8 [Sh1.val (.g [.i .i64, .s, .s, .s, .s, .s, .b, .l, .i .i64, .l, .l, .b, .l, .i .i64, .s, .s, .b, .l, .i .i64]) (x1)] (.v (.g [.i .i64, .s, .s, .s, .s, .s, .b, .l, .i .i64, .l, .l, .b, .l, .i .i64, .s, .s, .b, .l, .i .i64])) fun y4 =>
  .call true 13 [Sh1.val (.g [.i .i64, .s, .s, .s, .s, .s, .b, .l, .i .i64, .l, .l, .b, .l, .i .i64, .s, .s, .b, .l, .i .i64]) (y3), Sh1.val (.g [.i .i64, .s, .s, .s, .s, .s, .b, .l, .i .i64, .l, .l, .b, .l, .i .i64, .s, .s, .b, .l, .i .i64]) (y4)] (.v (.o (.b))) fun y5 =>
  .call false 8 [Sh1.val (.g [.i .i64, .s, .s, .s, .s, .s, .b, .l, .i .i64, .l, .l, .b, .l, .i .i64, .s, .s, .b, .l, .i .i64]) (x0)] (.v (.g [.i .i64, .s, .s, .s, .s, .s, .b, .l, .i .i64, .l, .l, .b, .l, .i .i64, .s, .s, .b, .l, .i .i64])) fun y6 =>
  .call false 8 [Sh1.val (.g [.i .i64, .s, .s, .s, .s, .s, .b, .l, .i .i64, .l, .l, .b, .l, .i .i64, .s, .s, .b, .l, .i .i64]) (x1)] (.v (.g [.i .i64, .s, .s, .s, .s, .s, .b, .l, .i .i64, .l, .l, .b, .l, .i .i64, .s, .s, .b, .l, .i .i64])) fun y7 =>
  .call false 14 [Sh1.val (.g [.i .i64, .s, .s, .s, .s, .s, .b, .l, .i .i64, .l, .l, .b, .l, .i .i64, .s, .s, .b, .l, .i .i64]) (y6), Sh1.val (.g [.i .i64, .s, .s, .s, .s, .s, .b, .l, .i .i64, .l, .l, .b, .l, .i .i64, .s, .s, .b, .l, .i .i64]) (y7)] (.v (.o (.b))) fun y8 =>
  .br (!y8 == y5) (
    .ret [.bool (false)]) <|
  .rg <|
  .call true 8 [Sh1.val (.g [.i .i64, .s, .s, .s, .s, .s, .b, .l, .i .i64, .l, .l, .b, .l, .i .i64, .s, .s, .b, .l, .i .i64]) (x0)] (.v (.g [.i .i64, .s, .s, .s, .s, .s, .b, .l, .i .i64, .l, .l, .b, .l, .i .i64, .s, .s, .b, .l, .i .i64])) fun y9 =>
  .call true 10 [Sh1.val (.g [.i .i64, .s, .s, .s, .s, .s, .b, .l, .i .i64, .l, .l, .b, .l, .i .i64, .s, .s, .b, .l, .i .i64]) (y6), Sh1.val (.g [.i .i64, .s, .s, .s, .s, .s, .b, .l, .i .i64, .l, .l, .b, .l, .i .i64, .s, .s, .b, .l, .i .i64]) (y9)] (.v (.o (.b))) fun y10 =>
  .br (!y10) (
    .ret [.bool (false)]) <|
  .rg <|
  .call true 8 [Sh1.val (.g [.i .i64, .s, .s, .s, .s, .s, .b, .l, .i .i64, .l, .l, .b, .l, .i .i64, .s, .s, .b, .l, .i .i64]) (x1)] (.v (.g [.i .i64, .s, .s, .s, .s, .s, .b, .l, .i .i64, .l, .l, .b, .l, .i .i64, .s, .s, .b, .l, .i .i64])) fun y11 =>
  .call true 10 [Sh1.val (.g [.i .i64, .s, .s, .s, .s, .s, .b, .l, .i .i64, .l, .l, .b, .l, .i .i64, .s, .s, .b, .l, .i .i64]) (y7), Sh1.val (.g [.i .i64, .s, .s, .s, .s, .s, .b, .l, .i .i64, .l, .l, .b, .l, .i .i64, .s, .s, .b, .l, .i .i64]) (y11)] (.v (.o (.b))) fun y12 =>
  .br (!y12) (
    .ret [.bool (false)]) <|
  .ret [.bool (true)]
theorem fL_FnExactCmdSame (x0 : Int × ByteArray × ByteArray × ByteArray × ByteArray × ByteArray × Bool × SlV × Int × SlV × SlV × Bool × SlV × Int × ByteArray × ByteArray × Bool × SlV × Int × PUnit) (x1 : Int × ByteArray × ByteArray × ByteArray × ByteArray × ByteArray × Bool × SlV × Int × SlV × SlV × Bool × SlV × Int × ByteArray × ByteArray × Bool × SlV × Int × PUnit) : fits Tryz.prog aL_FnExactCmdSame 5 [Sh1.val (.g [.i .i64, .s, .s, .s, .s, .s, .b, .l, .i .i64, .l, .l, .b, .l, .i .i64, .s, .s, .b, .l, .i .i64]) (x0), Sh1.val (.g [.i .i64, .s, .s, .s, .s, .s, .b, .l, .i .i64, .l, .l, .b, .l, .i .i64, .s, .s, .b, .l, .i .i64]) (x1)] (tL_FnExactCmdSame x0 x1) :=
  ⟨Tryz.f5, Tryz.f5.body.getD .skip, by kernel_rfl, by kernel_rfl, by kernel_rfl, by kernel_rfl, by kernel_rfl, by kernel_rfl⟩
/-! loop.example/g00793/laws.szCmd -/
def aL_szCmd : An := ⟨[], [], []⟩
noncomputable def tL_szCmd (x0 : Int × ByteArray × ByteArray × ByteArray × ByteArray × ByteArray × Bool × SlV × Int × SlV × SlV × Bool × SlV × Int × ByteArray × ByteArray × Bool × SlV × Int × PUnit) (x1 : Int) : T :=
  .br (decide (Go.IntKind.i64.wrap (x1 - (↑(ByteArray.size x0.2.fst) : Int)) < (0 : Int))) (
    .ret [.int .i64 ((-1 : Int))]) <|
  .br (decide (Go.IntKind.i64.wrap (Go.IntKind.i64.wrap (x1 - (↑(ByteArray.size x0.2.fst) : Int)) - (↑(ByteArray.size x0.2.2.fst) : Int)) < (0 : Int))) (
    .ret [.int .i64 ((-1 : Int))]) <|
  .br (decide (Go.IntKind.i64.wrap (Go.IntKind.i64.wrap (Go.IntKind.i64.wrap (x1 - (↑(ByteArray.size x0.2.fst) : Int)) - (↑(ByteArray.size x0.2.2.fst) : Int)) - (↑(ByteArray.size x0.2.2.2.fst) : Int)) < (0 : Int))) (
    .ret [.int .i64 ((-1 : Int))]) <|
  .br (decide (Go.IntKind.i64.wrap (Go.IntKind.i64.wrap (Go.IntKind.i64.wrap (Go.IntKind.i64.wrap (x1 - (↑(ByteArray.size x0.2.fst) : Int)) - (↑(ByteArray.size x0.2.2.fst) : Int)) - (↑(ByteArray.size x0.2.2.2.fst) : Int)) - (↑(ByteArray.size x0.2.2.2.2.fst) : Int)) < (0 : Int))) (
    .ret [.int .i64 ((-1 : Int))]) <|
  .call false 15 [Sh1.val (.g [.s, .b, .l]) ((x0.2.2.2.2.2.fst), (x0.2.2.2.2.2.2.fst), x0.2.2.2.2.2.2.2.1, ()), .int .i64 (Go.IntKind.i64.wrap (Go.IntKind.i64.wrap (Go.IntKind.i64.wrap (Go.IntKind.i64.wrap (x1 - (↑(ByteArray.size x0.2.fst) : Int)) - (↑(ByteArray.size x0.2.2.fst) : Int)) - (↑(ByteArray.size x0.2.2.2.fst) : Int)) - (↑(ByteArray.size x0.2.2.2.2.fst) : Int)))] (.v (.o (.i .i64))) fun y1 =>
  .br (decide (y1 < (0 : Int))) (
    .ret [.int .i64 ((-1 : Int))]) <|
  .call false 16 [Sc.val .l (x0.2.2.2.2.2.2.2.2.2.1), .int .i64 (y1)] (.v (.o (.i .i64))) fun y2 =>
  .br (decide (y2 < (0 : Int))) (
    .ret [.int .i64 ((-1 : Int))]) <|
  .call false 17 [Sc.val .l (x0.2.2.2.2.2.2.2.2.2.2.1), .int .i64 (y2)] (.v (.o (.i .i64))) fun y3 =>
  .br (decide (y3 < (0 : Int))) (
    .ret [.int .i64 ((-1 : Int))]) <|
  .call false 18 [Sh1.val (.g [.b, .l, .i .i64]) ((x0.2.2.2.2.2.2.2.2.2.2.2.fst), x0.2.2.2.2.2.2.2.2.2.2.2.2.1, ((x0.2.2.2.2.2.2.2.2.2.2.2.2.2.fst) : Int), ()), .int .i64 (y3)] (.v (.o (.i .i64))) fun y4 =>
  .br (decide (y4 < (0 : Int))) (
    .ret [.int .i64 ((-1 : Int))]) <|
  .call false 19 [Sh1.val (.g [.s, .s, .b, .l, .i .i64]) (x0.2.2.2.2.2.2.2.2.2.2.2.2.2.2), .int .i64 (y4)] (.v (.o (.i .i64))) fun y5 =>
  .br (decide (y5 < (0 : Int))) (
    .ret [.int .i64 ((-1 : Int))]) <|
  .ret [.int .i64 (y5)]
theorem fL_szCmd (x0 : Int × ByteArray × ByteArray × ByteArray × ByteArray × ByteArray × Bool × SlV × Int × SlV × SlV × Bool × SlV × Int × ByteArray × ByteArray × Bool × SlV × Int × PUnit) (x1 : Int) : fits Tryz.prog aL_szCmd 6 [Sh1.val (.g [.i .i64, .s, .s, .s, .s, .s, .b, .l, .i .i64, .l, .l, .b, .l, .i .i64, .s, .s, .b, .l, .i .i64]) (x0), .int .i64 (x1)] (tL_szCmd x0 x1) :=
  ⟨Tryz.f6, Tryz.f6.body.getD .skip, by kernel_rfl, by kernel_rfl, by kernel_rfl, by kernel_rfl, by kernel_rfl, by kernel_rfl⟩
/-! loop.example/g00793/spec.CmdOk -/
def aS_CmdOk : An := ⟨[], [(4, [], []), (6, [], []), (8, [], []), (10, [], []), (12, [], []), (14, [], []), (16, [], []), (18, [], [])], []⟩
noncomputable def tS_CmdOk (x0 : Int × ByteArray × ByteArray × ByteArray × ByteArray × ByteArray × Bool × SlV × Int × SlV × SlV × Bool × SlV × Int × ByteArray × ByteArray × Bool × SlV × Int × PUnit) : T :=
  .call false 20 [.int .i64 (x0.fst)] (.t [(.o (.b)), (.o (.b)), (.o (.b)), (.o (.b))]) fun y1 =>
  .jn [] (fun _ =>
    .jn [] (fun _ =>
      .jn [] (fun _ =>
        .jn [] (fun _ =>
          .jn [] (fun _ =>
            .jn [] (fun _ =>
              .jn [] (fun _ =>
                .jn [] (fun _ =>
                  .br (ByteArray.toList x0.2.2.2.2.2.2.2.2.2.2.2.2.2.2.fst == { data := { toList := [] : Array UInt8 } : ByteArray }.toList) (
                    .br (ByteArray.toList x0.2.2.2.2.2.2.2.2.2.2.2.2.2.2.2.fst == { data := { toList := [] : Array UInt8 } : ByteArray }.toList) (
                      .call false 30 [Sh1.val (.g [.b, .l, .i .i64]) (x0.2.2.2.2.2.2.2.2.2.2.2.2.2.2.2.2)] (.v (.o (.b))) fun y10 =>
                      .ret [.bool (y10)]) <|
                    .ret [.bool (false)]) <|
                  .ret [.bool (false)]) <|
                .br (x0.fst == (9 : Int)) (
                  .call false 31 [Sh1.val (.g [.s, .s, .b, .l, .i .i64]) (x0.2.2.2.2.2.2.2.2.2.2.2.2.2.2)] (.v (.o (.b))) fun y9 =>
                  .ret [.bool (y9)]) <|
                .nx 7 []) <|
              .rg <|
              .br (y1.2.fst) (
                .call true 27 [Sh1.val (.g [.b, .l, .i .i64]) ((x0.2.2.2.2.2.2.2.2.2.2.2.fst), x0.2.2.2.2.2.2.2.2.2.2.2.2.1, ((x0.2.2.2.2.2.2.2.2.2.2.2.2.2.fst) : Int), ())] (.v (.o (.b))) fun y8 =>
                .br (!y8) (
                  .ret [.bool (false)]) <|
                .call true 29 [Sh1.val (.g [.b, .l, .i .i64]) ((x0.2.2.2.2.2.2.2.2.2.2.2.fst), x0.2.2.2.2.2.2.2.2.2.2.2.2.1, ((x0.2.2.2.2.2.2.2.2.2.2.2.2.2.fst) : Int), ())] (.v (.g [.b, .l, .i .i64])) fun y9 =>
                .call true 28 [Sh1.val (.g [.b, .l, .i .i64]) (y9)] (.v (.o (.s))) fun y10 =>
                .call true 28 [Sh1.val (.g [.b, .l, .i .i64]) ((x0.2.2.2.2.2.2.2.2.2.2.2.fst), x0.2.2.2.2.2.2.2.2.2.2.2.2.1, ((x0.2.2.2.2.2.2.2.2.2.2.2.2.2.fst) : Int), ())] (.v (.o (.s))) fun y11 =>
                .br (!y10.toList == y11.toList) (
                  .ret [.bool (false)]) <|
                .br (!y1.2.fst) (
                  .call true 30 [Sh1.val (.g [.b, .l, .i .i64]) ((x0.2.2.2.2.2.2.2.2.2.2.2.fst), x0.2.2.2.2.2.2.2.2.2.2.2.2.1, ((x0.2.2.2.2.2.2.2.2.2.2.2.2.2.fst) : Int), ())] (.v (.o (.b))) fun y12 =>
                  .br (!y12) (
                    .ret [.bool (false)]) <|
                  .nx 6 []) <|
                .nx 6 []) <|
              .br (!y1.2.fst) (
                .call true 30 [Sh1.val (.g [.b, .l, .i .i64]) ((x0.2.2.2.2.2.2.2.2.2.2.2.fst), x0.2.2.2.2.2.2.2.2.2.2.2.2.1, ((x0.2.2.2.2.2.2.2.2.2.2.2.2.2.fst) : Int), ())] (.v (.o (.b))) fun y8 =>
                .br (!y8) (
                  .ret [.bool (false)]) <|
                .nx 6 []) <|
              .nx 6 []) <|
            .br (x0.fst == (6 : Int)) (
              .call false 26 [Sc.val .l (x0.2.2.2.2.2.2.2.2.2.1), Sc.val .l (x0.2.2.2.2.2.2.2.2.2.2.1)] (.v (.o (.b))) fun y7 =>
              .br (!y7) (
                .ret [.bool (false)]) <|
              .br (x0.fst != (6 : Int)) (
                .br (decide (Go.IntKind.i64.wrap ((↑x0.2.2.2.2.2.2.2.2.2.1.n : Int) + (↑x0.2.2.2.2.2.2.2.2.2.2.1.n : Int)) > (0 : Int))) (
                  .ret [.bool (false)]) <|
                .nx 5 []) <|
              .nx 5 []) <|
            .br (x0.fst != (6 : Int)) (
              .br (decide (Go.IntKind.i64.wrap ((↑x0.2.2.2.2.2.2.2.2.2.1.n : Int) + (↑x0.2.2.2.2.2.2.2.2.2.2.1.n : Int)) > (0 : Int))) (
                .ret [.bool (false)]) <|
              .nx 5 []) <|
            .nx 5 []) <|
          .br (y1.2.2.2.fst) (
            .call false 25 [.int .i64 (x0.2.2.2.2.2.2.2.2.fst)] (.v (.o (.b))) fun y6 =>
            .br (!y6) (
              .ret [.bool (false)]) <|
            .br (!y1.2.2.2.fst) (
              .br (x0.2.2.2.2.2.2.2.2.fst != (0 : Int)) (
                .ret [.bool (false)]) <|
              .nx 4 []) <|
            .nx 4 []) <|
          .br (!y1.2.2.2.fst) (
            .br (x0.2.2.2.2.2.2.2.2.fst != (0 : Int)) (
              .ret [.bool (false)]) <|
            .nx 4 []) <|
          .nx 4 []) <|
        .br (y1.2.2.fst) (
          .call false 24 [Sh1.val (.g [.s, .b, .l]) ((x0.2.2.2.2.2.fst), (x0.2.2.2.2.2.2.fst), x0.2.2.2.2.2.2.2.1, ())] (.v (.o (.b))) fun y5 =>
          .br (!y5) (
            .ret [.bool (false)]) <|
          .br (!y1.2.2.fst) (
            .br (!ByteArray.toList x0.2.2.2.2.2.fst == { data := { toList := [] : Array UInt8 } : ByteArray }.toList) (
              .ret [.bool (false)]) <|
            .br (x0.2.2.2.2.2.2.fst) (
              .ret [.bool (false)]) <|
            .br (decide ((↑x0.2.2.2.2.2.2.2.1.n : Int) > (0 : Int))) (
              .ret [.bool (false)]) <|
            .nx 3 []) <|
          .nx 3 []) <|
        .br (!y1.2.2.fst) (
          .br (!ByteArray.toList x0.2.2.2.2.2.fst == { data := { toList := [] : Array UInt8 } : ByteArray }.toList) (
            .ret [.bool (false)]) <|
          .br (x0.2.2.2.2.2.2.fst) (
            .ret [.bool (false)]) <|
          .br (decide ((↑x0.2.2.2.2.2.2.2.1.n : Int) > (0 : Int))) (
            .ret [.bool (false)]) <|
          .nx 3 []) <|
        .nx 3 []) <|
      .rg <|
      .call true 23 [.string (x0.2.2.2.2.fst)] (.v (.o (.b))) fun y4 =>
      .br (!(x0.fst == (1 : Int)) == y4) (
        .ret [.bool (false)]) <|
      .br (x0.fst != (1 : Int)) (
        .br (!ByteArray.toList x0.2.2.2.2.fst == { data := { toList := [] : Array UInt8 } : ByteArray }.toList) (
          .ret [.bool (false)]) <|
        .nx 2 []) <|
      .nx 2 []) <|
    .call false 22 [.string (x0.2.2.fst)] (.v (.o (.b))) fun y3 =>
    .br (!y1.fst == y3) (
      .ret [.bool (false)]) <|
    .br (!y1.fst) (
      .br (!ByteArray.toList x0.2.2.fst == { data := { toList := [] : Array UInt8 } : ByteArray }.toList) (
        .ret [.bool (false)]) <|
      .call false 22 [.string (x0.2.2.2.fst)] (.v (.o (.b))) fun y4 =>
      .br (!y1.2.fst == y4) (
        .ret [.bool (false)]) <|
      .br (!y1.2.fst) (
        .br (!ByteArray.toList x0.2.2.2.fst == { data := { toList := [] : Array UInt8 } : ByteArray }.toList) (
          .ret [.bool (false)]) <|
        .nx 1 []) <|
      .nx 1 []) <|
    .call false 22 [.string (x0.2.2.2.fst)] (.v (.o (.b))) fun y4 =>
    .br (!y1.2.fst == y4) (
      .ret [.bool (false)]) <|
    .br (!y1.2.fst) (
      .br (!ByteArray.toList x0.2.2.2.fst == { data := { toList := [] : Array UInt8 } : ByteArray }.toList) (
        .ret [.bool (false)]) <|
      .nx 1 []) <|
    .nx 1 []) <|
  .rg <|
  .call true 21 [.int .i64 (x0.fst)] (.v (.o (.b))) fun y2 =>
  .br (!y2) (
    .ret [.bool (false)]) <|
  .call true 22 [.string (x0.2.fst)] (.v (.o (.b))) fun y3 =>
  .br ((x0.fst == (9 : Int)) == y3) (
    .ret [.bool (false)]) <|
  .br (x0.fst == (9 : Int)) (
    .br (!ByteArray.toList x0.2.fst == { data := { toList := [] : Array UInt8 } : ByteArray }.toList) (
      .ret [.bool (false)]) <|
    .nx 0 []) <|
  .nx 0 []
theorem fS_CmdOk (x0 : Int × ByteArray × ByteArray × ByteArray × ByteArray × ByteArray × Bool × SlV × Int × SlV × SlV × Bool × SlV × Int × ByteArray × ByteArray × Bool × SlV × Int × PUnit) : fits Tryz.prog aS_CmdOk 7 [Sh1.val (.g [.i .i64, .s, .s, .s, .s, .s, .b, .l, .i .i64, .l, .l, .b, .l, .i .i64, .s, .s, .b, .l, .i .i64]) (x0)] (tS_CmdOk x0) :=
  ⟨Tryz.f7, Tryz.f7.body.getD .skip, by kernel_rfl, by kernel_rfl, by kernel_rfl, by kernel_rfl, by kernel_rfl, by kernel_rfl⟩
/-! loop.example/g00793/laws.toCmd -/
def aL_toCmd : An := ⟨[], [], []⟩
noncomputable def tL_toCmd (x0 : Int × ByteArray × ByteArray × ByteArray × ByteArray × ByteArray × Bool × SlV × Int × SlV × SlV × Bool × SlV × Int × ByteArray × ByteArray × Bool × SlV × Int × PUnit) : T :=
  .call false 32 [Sh1.val (.g [.s, .b, .l]) ((x0.2.2.2.2.2.fst), (x0.2.2.2.2.2.2.fst), x0.2.2.2.2.2.2.2.1, ())] (.v (.g [.s, .b, .l])) fun y1 =>
  .call false 33 [Sc.val .l (x0.2.2.2.2.2.2.2.2.2.1)] (.v (.o (.l))) fun y2 =>
  .call false 34 [Sc.val .l (x0.2.2.2.2.2.2.2.2.2.2.1)] (.v (.o (.l))) fun y3 =>
  .call false 35 [Sh1.val (.g [.b, .l, .i .i64]) ((x0.2.2.2.2.2.2.2.2.2.2.2.fst), x0.2.2.2.2.2.2.2.2.2.2.2.2.1, ((x0.2.2.2.2.2.2.2.2.2.2.2.2.2.fst) : Int), ())] (.v (.g [.b, .l, .i .i64])) fun y4 =>
  .call false 36 [Sh1.val (.g [.s, .s, .b, .l, .i .i64]) (x0.2.2.2.2.2.2.2.2.2.2.2.2.2.2)] (.v (.g [.s, .s, .b, .l, .i .i64])) fun y5 =>
  .ret [Sh1.val (.g [.i .i64, .s, .s, .s, .s, .s, .b, .l, .i .i64, .l, .l, .b, .l, .i .i64, .s, .s, .b, .l, .i .i64]) (((x0.fst) : Int), (x0.2.fst), (x0.2.2.fst), (x0.2.2.2.fst), (x0.2.2.2.2.fst), (y1.fst), (y1.2.fst), y1.2.2.1, ((x0.2.2.2.2.2.2.2.2.fst) : Int), y2, y3, (y4.fst), y4.2.1, ((y4.2.2.fst) : Int), (y5.fst), (y5.2.fst), (y5.2.2.fst), y5.2.2.2.1, ((y5.2.2.2.2.fst) : Int), ())]
theorem fL_toCmd (x0 : Int × ByteArray × ByteArray × ByteArray × ByteArray × ByteArray × Bool × SlV × Int × SlV × SlV × Bool × SlV × Int × ByteArray × ByteArray × Bool × SlV × Int × PUnit) : fits Tryz.prog aL_toCmd 8 [Sh1.val (.g [.i .i64, .s, .s, .s, .s, .s, .b, .l, .i .i64, .l, .l, .b, .l, .i .i64, .s, .s, .b, .l, .i .i64]) (x0)] (tL_toCmd x0) :=
  ⟨Tryz.f8, Tryz.f8.body.getD .skip, by kernel_rfl, by kernel_rfl, by kernel_rfl, by kernel_rfl, by kernel_rfl, by kernel_rfl⟩
/-! loop.example/g00793/impl.CmdOk -/
def aI_CmdOk : An := ⟨[(3, [.s 4], [.o (.o (.i .i64))])], [], [(2000003, [.s 1])]⟩
noncomputable def tI_CmdOk (x0 : Int × ByteArray × ByteArray × ByteArray × ByteArray × ByteArray × Bool × SlV × Int × SlV × SlV × Bool × SlV × Int × ByteArray × ByteArray × Bool × SlV × Int × PUnit) : T :=
  .call false 37 [.int .i64 (x0.fst)] (.v (.o (.l))) fun y1 =>
  .es [.int .i64 (x0.fst), .string (x0.2.fst), .string (x0.2.2.fst), .string (x0.2.2.2.fst), .string (x0.2.2.2.2.fst), .string (x0.2.2.2.2.2.fst), .bool (x0.2.2.2.2.2.2.fst), Sc.val .l (x0.2.2.2.2.2.2.2.1), .int .i64 (x0.2.2.2.2.2.2.2.2.fst), Sc.val .l (x0.2.2.2.2.2.2.2.2.2.1), Sc.val .l (x0.2.2.2.2.2.2.2.2.2.2.1), .bool (x0.2.2.2.2.2.2.2.2.2.2.2.fst), Sc.val .l (x0.2.2.2.2.2.2.2.2.2.2.2.2.1), .int .i64 (x0.2.2.2.2.2.2.2.2.2.2.2.2.2.fst), .string (x0.2.2.2.2.2.2.2.2.2.2.2.2.2.2.fst), .string (x0.2.2.2.2.2.2.2.2.2.2.2.2.2.2.2.fst), .bool (x0.2.2.2.2.2.2.2.2.2.2.2.2.2.2.2.2.fst), Sc.val .l (x0.2.2.2.2.2.2.2.2.2.2.2.2.2.2.2.2.2.1), .int .i64 (x0.2.2.2.2.2.2.2.2.2.2.2.2.2.2.2.2.2.2.fst)] 44 fun b2 =>
  .lp [.o (.o (.i .i64))] [.v (.int .i64 ((0 : Int)))] fun y3 =>
  .br (decide (y3.fst ≤ (8 : Int))) (
    .call false 39 [Sc.val .l (y1), .int .i64 (y3.fst)] (.v (.o (.b))) fun y4 =>
    .br (y4) (
      .call false 40 [.pointer (some { block := b2, off := (0 : Nat) : Go.Addr }), .int .i64 (y3.fst)] (.v (.o (.b))) fun y5 =>
      .br (!y5) (
        .ret [.bool (false)]) <|
      .nx 0 [.v (.int .i64 (Go.IntKind.i64.wrap (y3.fst + (1 : Int))))]) <|
    .call false 38 [.pointer (some { block := b2, off := (0 : Nat) : Go.Addr }), .int .i64 (y3.fst)] (.v (.o (.b))) fun y5 =>
    .br (!y5) (
      .ret [.bool (false)]) <|
    .nx 0 [.v (.int .i64 (Go.IntKind.i64.wrap (y3.fst + (1 : Int))))]) <|
  .ret [.bool (decide ((↑y1.n : Int) > (0 : Int)))]
theorem fI_CmdOk (x0 : Int × ByteArray × ByteArray × ByteArray × ByteArray × ByteArray × Bool × SlV × Int × SlV × SlV × Bool × SlV × Int × ByteArray × ByteArray × Bool × SlV × Int × PUnit) : fits Tryz.prog aI_CmdOk 9 [Sh1.val (.g [.i .i64, .s, .s, .s, .s, .s, .b, .l, .i .i64, .l, .l, .b, .l, .i .i64, .s, .s, .b, .l, .i .i64]) (x0)] (tI_CmdOk x0) :=
  ⟨Tryz.f9, Tryz.f9.body.getD .skip, by kernel_rfl, by kernel_rfl, by kernel_rfl, by kernel_rfl, by kernel_rfl, by kernel_rfl⟩
/-! loop.example/g00793/laws.eqCmd -/
def aL_eqCmd : An := ⟨[], [], []⟩
noncomputable def tL_eqCmd (x0 : Int × ByteArray × ByteArray × ByteArray × ByteArray × ByteArray × Bool × SlV × Int × SlV × SlV × Bool × SlV × Int × ByteArray × ByteArray × Bool × SlV × Int × PUnit) (x1 : Int × ByteArray × ByteArray × ByteArray × ByteArray × ByteArray × Bool × SlV × Int × SlV × SlV × Bool × SlV × Int × ByteArray × ByteArray × Bool × SlV × Int × PUnit) : T :=
  .br (x0.fst != x1.fst) (
    .ret [.bool (false)]) <|
  .br (!ByteArray.toList x0.2.fst == ByteArray.toList x1.2.fst) (
    .ret [.bool (false)]) <|
  .br (!ByteArray.toList x0.2.2.fst == ByteArray.toList x1.2.2.fst) (
    .ret [.bool (false)]) <|
  .br (!ByteArray.toList x0.2.2.2.fst == ByteArray.toList x1.2.2.2.fst) (
    .ret [.bool (false)]) <|
  .br (!ByteArray.toList x0.2.2.2.2.fst == ByteArray.toList x1.2.2.2.2.fst) (
    .ret [.bool (false)]) <|
  .call false 41 [Sh1.val (.g [.s, .b, .l]) ((x0.2.2.2.2.2.fst), (x0.2.2.2.2.2.2.fst), x0.2.2.2.2.2.2.2.1, ()), Sh1.val (.g [.s, .b, .l]) ((x1.2.2.2.2.2.fst), (x1.2.2.2.2.2.2.fst), x1.2.2.2.2.2.2.2.1, ())] (.v (.o (.b))) fun y1 =>
  .br (!y1) (
    .ret [.bool (false)]) <|
  .br (x0.2.2.2.2.2.2.2.2.fst != x1.2.2.2.2.2.2.2.2.fst) (
    .ret [.bool (false)]) <|
  .call false 42 [Sc.val .l (x0.2.2.2.2.2.2.2.2.2.1), Sc.val .l (x1.2.2.2.2.2.2.2.2.2.1)] (.v (.o (.b))) fun y2 =>
  .br (!y2) (
    .ret [.bool (false)]) <|
  .call false 43 [Sc.val .l (x0.2.2.2.2.2.2.2.2.2.2.1), Sc.val .l (x1.2.2.2.2.2.2.2.2.2.2.1)] (.v (.o (.b))) fun y3 =>
  .br (!y3) (
    .ret [.bool (false)]) <|
  .call false 44 [Sh1.val (.g [.b, .l, .i .i64]) ((x0.2.2.2.2.2.2.2.2.2.2.2.fst), x0.2.2.2.2.2.2.2.2.2.2.2.2.1, ((x0.2.2.2.2.2.2.2.2.2.2.2.2.2.fst) : Int), ()), Sh1.val (.g [.b, .l, .i .i64]) ((x1.2.2.2.2.2.2.2.2.2.2.2.fst), x1.2.2.2.2.2.2.2.2.2.2.2.2.1, ((x1.2.2.2.2.2.2.2.2.2.2.2.2.2.fst) : Int), ())] (.v (.o (.b))) fun y4 =>
  .br (!y4) (
    .ret [.bool (false)]) <|
  .call false 45 [Sh1.val (.g [.s, .s, .b, .l, .i .i64]) (x0.2.2.2.2.2.2.2.2.2.2.2.2.2.2), Sh1.val (.g [.s, .s, .b, .l, .i .i64]) (x1.2.2.2.2.2.2.2.2.2.2.2.2.2.2)] (.v (.o (.b))) fun y5 =>
  .br (!y5) (
    .ret [.bool (false)]) <|
  .ret [.bool (true)]
theorem fL_eqCmd (x0 : Int × ByteArray × ByteArray × ByteArray × ByteArray × ByteArray × Bool × SlV × Int × SlV × SlV × Bool × SlV × Int × ByteArray × ByteArray × Bool × SlV × Int × PUnit) (x1 : Int × ByteArray × ByteArray × ByteArray × ByteArray × ByteArray × Bool × SlV × Int × SlV × SlV × Bool × SlV × Int × ByteArray × ByteArray × Bool × SlV × Int × PUnit) : fits Tryz.prog aL_eqCmd 10 [Sh1.val (.g [.i .i64, .s, .s, .s, .s, .s, .b, .l, .i .i64, .l, .l, .b, .l, .i .i64, .s, .s, .b, .l, .i .i64]) (x0), Sh1.val (.g [.i .i64, .s, .s, .s, .s, .s, .b, .l, .i .i64, .l, .l, .b, .l, .i .i64, .s, .s, .b, .l, .i .i64]) (x1)] (tL_eqCmd x0 x1) :=
  ⟨Tryz.f10, Tryz.f10.body.getD .skip, by kernel_rfl, by kernel_rfl, by kernel_rfl, by kernel_rfl, by kernel_rfl, by kernel_rfl⟩
/-! loop.example/g00793/spec.CmdText -/
def aS_CmdText : An := ⟨[], [(10, [.s 7], [.a 9]), (12, [.s 7], [.a 9]), (14, [.s 7], [.a 9]), (16, [.s 7], [.a 9]), (18, [.s 7], [.a 9]), (20, [.s 7], [.a 9]), (22, [.s 7], [.a 9])], []⟩
noncomputable def tS_CmdText (x0 : Int × ByteArray × ByteArray × ByteArray × ByteArray × ByteArray × Bool × SlV × Int × SlV × SlV × Bool × SlV × Int × ByteArray × ByteArray × Bool × SlV × Int × PUnit) : T :=
  .call false 7 [Sh1.val (.g [.i .i64, .s, .s, .s, .s, .s, .b, .l, .i .i64, .l, .l, .b, .l, .i .i64, .s, .s, .b, .l, .i .i64]) (x0)] (.v (.o (.b))) fun y1 =>
  .br (!y1) (
    .ret [.string ({ data := { toList := [] : Array UInt8 } : ByteArray })]) <|
  .call false 20 [.int .i64 (x0.fst)] (.t [(.o (.b)), (.o (.b)), (.o (.b)), (.o (.b))]) fun y2 =>
  .call false 46 [.int .i64 (x0.fst)] (.v (.o (.s))) fun y3 =>
  .br (x0.fst == (9 : Int)) (
    .rg <|
    .call true 46 [.int .i64 (x0.fst)] (.v (.o (.s))) fun y4 =>
    .rq (y4.size + { data := { toList := [(32 : UInt8)] : Array UInt8 } : ByteArray }.size ≤ (9223372036854775807 : Nat)) <|
    .call true 47 [Sh1.val (.g [.s, .s, .b, .l, .i .i64]) (x0.2.2.2.2.2.2.2.2.2.2.2.2.2.2)] (.v (.o (.s))) fun y5 =>
    .rq ((y4 ++ { data := { toList := [(32 : UInt8)] : Array UInt8 } : ByteArray }).size + y5.size ≤ (9223372036854775807 : Nat)) <|
    .ret [.string (y4 ++ { data := { toList := [(32 : UInt8)] : Array UInt8 } : ByteArray } ++ y5)]) <|
  .rq ([Go.Value.string x0.2.fst].length = (1 : Nat) * (1 : Nat)) <|
  .rq (one [Go.Value.string x0.2.fst] = true ∧ ((1 : Nat) + (1 : Nat)) * (16 : Nat) ≤ (140737488355328 : Nat) ∧ (1 : Nat) + (1 : Nat) ≤ (9223372036854775807 : Nat)) <|
  .jn [.a 9] (fun y4 =>
    .jn [.a 9] (fun y5 =>
      .jn [.a 9] (fun y6 =>
        .jn [.a 9] (fun y7 =>
          .jn [.a 9] (fun y8 =>
            .jn [.a 9] (fun y9 =>
              .jn [.a 9] (fun y10 =>
                .fz (y10.1.fst) (y10.1.snd) 9 fun b11 c11 =>
                .call false 52 [.slice (some { block := b11, off := (0 : Nat) : Go.Addr }) (y10.1.fst) (c11), .string ({ data := { toList := [(32 : UInt8)] : Array UInt8 } : ByteArray })] (.v (.o (.s))) fun y12 =>
                .ret [.string (y12)]) <|
              .br (y2.2.2.2.fst) (
                .call false 51 [.int .i64 (x0.2.2.2.2.2.2.2.2.fst)] (.v (.o (.s))) fun y10 =>
                .rq ([(Sh1.o Sc.s).val y10].length = (1 : Nat) * (1 : Nat)) <|
                .rq (one [(Sh1.o Sc.s).val y10] = true ∧ (y9.1.fst + (1 : Nat)) * (16 : Nat) ≤ (140737488355328 : Nat) ∧ y9.1.fst + (1 : Nat) ≤ (9223372036854775807 : Nat)) <|
                .nx 6 [.a 9 (y9.1.fst + (1 : Nat)) (y9.1.snd ++ [(Sh1.o Sc.s).val y10])]) <|
              .nx 6 [.a 9 (y9.1.fst) (y9.1.snd)]) <|
            .br (y2.2.fst) (
              .call false 50 [Sh1.val (.g [.b, .l, .i .i64]) ((x0.2.2.2.2.2.2.2.2.2.2.2.fst), x0.2.2.2.2.2.2.2.2.2.2.2.2.1, ((x0.2.2.2.2.2.2.2.2.2.2.2.2.2.fst) : Int), ())] (.v (.o (.s))) fun y9 =>
              .rq ([(Sh1.o Sc.s).val y9].length = (1 : Nat) * (1 : Nat)) <|
              .rq (one [(Sh1.o Sc.s).val y9] = true ∧ (y8.1.fst + (1 : Nat)) * (16 : Nat) ≤ (140737488355328 : Nat) ∧ y8.1.fst + (1 : Nat) ≤ (9223372036854775807 : Nat)) <|
              .nx 5 [.a 9 (y8.1.fst + (1 : Nat)) (y8.1.snd ++ [(Sh1.o Sc.s).val y9])]) <|
            .nx 5 [.a 9 (y8.1.fst) (y8.1.snd)]) <|
          .br (x0.fst == (6 : Int)) (
            .call false 49 [Sc.val .l (x0.2.2.2.2.2.2.2.2.2.1), Sc.val .l (x0.2.2.2.2.2.2.2.2.2.2.1)] (.v (.o (.s))) fun y8 =>
            .rq ([(Sh1.o Sc.s).val y8].length = (1 : Nat) * (1 : Nat)) <|
            .rq (one [(Sh1.o Sc.s).val y8] = true ∧ (y7.1.fst + (1 : Nat)) * (16 : Nat) ≤ (140737488355328 : Nat) ∧ y7.1.fst + (1 : Nat) ≤ (9223372036854775807 : Nat)) <|
            .nx 4 [.a 9 (y7.1.fst + (1 : Nat)) (y7.1.snd ++ [(Sh1.o Sc.s).val y8])]) <|
          .nx 4 [.a 9 (y7.1.fst) (y7.1.snd)]) <|
        .br (y2.2.2.fst) (
          .call false 48 [Sh1.val (.g [.s, .b, .l]) ((x0.2.2.2.2.2.fst), (x0.2.2.2.2.2.2.fst), x0.2.2.2.2.2.2.2.1, ())] (.v (.o (.s))) fun y7 =>
          .rq ([(Sh1.o Sc.s).val y7].length = (1 : Nat) * (1 : Nat)) <|
          .rq (one [(Sh1.o Sc.s).val y7] = true ∧ (y6.1.fst + (1 : Nat)) * (16 : Nat) ≤ (140737488355328 : Nat) ∧ y6.1.fst + (1 : Nat) ≤ (9223372036854775807 : Nat)) <|
          .nx 3 [.a 9 (y6.1.fst + (1 : Nat)) (y6.1.snd ++ [(Sh1.o Sc.s).val y7])]) <|
        .nx 3 [.a 9 (y6.1.fst) (y6.1.snd)]) <|
      .br (x0.fst == (1 : Int)) (
        .rq ([Go.Value.string x0.2.2.2.2.fst].length = (1 : Nat) * (1 : Nat)) <|
        .rq (one [Go.Value.string x0.2.2.2.2.fst] = true ∧ (y5.1.fst + (1 : Nat)) * (16 : Nat) ≤ (140737488355328 : Nat) ∧ y5.1.fst + (1 : Nat) ≤ (9223372036854775807 : Nat)) <|
        .nx 2 [.a 9 (y5.1.fst + (1 : Nat)) (y5.1.snd ++ [Go.Value.string x0.2.2.2.2.fst])]) <|
      .nx 2 [.a 9 (y5.1.fst) (y5.1.snd)]) <|
    .br (y2.2.fst) (
      .rq ([Go.Value.string x0.2.2.2.fst].length = (1 : Nat) * (1 : Nat)) <|
      .rq (one [Go.Value.string x0.2.2.2.fst] = true ∧ (y4.1.fst + (1 : Nat)) * (16 : Nat) ≤ (140737488355328 : Nat) ∧ y4.1.fst + (1 : Nat) ≤ (9223372036854775807 : Nat)) <|
      .nx 1 [.a 9 (y4.1.fst + (1 : Nat)) (y4.1.snd ++ [Go.Value.string x0.2.2.2.fst])]) <|
    .nx 1 [.a 9 (y4.1.fst) (y4.1.snd)]) <|
  .br (y2.fst) (
    .rq ([Go.Value.string x0.2.2.fst].length = (1 : Nat) * (1 : Nat)) <|
    .rq (one [Go.Value.string x0.2.2.fst] = true ∧ ((1 : Nat) + (1 : Nat) + (1 : Nat)) * (16 : Nat) ≤ (140737488355328 : Nat) ∧ (1 : Nat) + (1 : Nat) + (1 : Nat) ≤ (9223372036854775807 : Nat)) <|
    .nx 0 [.a 9 ((1 : Nat) + (1 : Nat) + (1 : Nat)) [.string (y3), .string (x0.2.fst), .string (x0.2.2.fst)]]) <|
  .nx 0 [.a 9 ((1 : Nat) + (1 : Nat)) [.string (y3), .string (x0.2.fst)]]
theorem fS_CmdText (x0 : Int × ByteArray × ByteArray × ByteArray × ByteArray × ByteArray × Bool × SlV × Int × SlV × SlV × Bool × SlV × Int × ByteArray × ByteArray × Bool × SlV × Int × PUnit) : fits Tryz.prog aS_CmdText 11 [Sh1.val (.g [.i .i64, .s, .s, .s, .s, .s, .b, .l, .i .i64, .l, .l, .b, .l, .i .i64, .s, .s, .b, .l, .i .i64]) (x0)] (tS_CmdText x0) :=
  ⟨Tryz.f11, Tryz.f11.body.getD .skip, by kernel_rfl, by kernel_rfl, by kernel_rfl, by kernel_rfl, by kernel_rfl, by kernel_rfl⟩
/-! loop.example/g00793/impl.CmdText -/
def aI_CmdText : An := ⟨[(5, [.s 3, .s 17], [.a 9, .o (.o (.i .i64))])], [], [(2000005, [.s 1])]⟩
noncomputable def tI_CmdText (x0 : Int × ByteArray × ByteArray × ByteArray × ByteArray × ByteArray × Bool × SlV × Int × SlV × SlV × Bool × SlV × Int × ByteArray × ByteArray × Bool × SlV × Int × PUnit) : T :=
  .call false 9 [Sh1.val (.g [.i .i64, .s, .s, .s, .s, .s, .b, .l, .i .i64, .l, .l, .b, .l, .i .i64, .s, .s, .b, .l, .i .i64]) (x0)] (.v (.o (.b))) fun y1 =>
  .br (!y1) (
    .ret [.string ({ data := { toList := [] : Array UInt8 } : ByteArray })]) <|
  .call false 53 [.int .i64 (x0.fst)] (.v (.o (.s))) fun y2 =>
  .call false 37 [.int .i64 (x0.fst)] (.v (.o (.l))) fun y3 =>
  .es [.int .i64 (x0.fst), .string (x0.2.fst), .string (x0.2.2.fst), .string (x0.2.2.2.fst), .string (x0.2.2.2.2.fst), .string (x0.2.2.2.2.2.fst), .bool (x0.2.2.2.2.2.2.fst), Sc.val .l (x0.2.2.2.2.2.2.2.1), .int .i64 (x0.2.2.2.2.2.2.2.2.fst), Sc.val .l (x0.2.2.2.2.2.2.2.2.2.1), Sc.val .l (x0.2.2.2.2.2.2.2.2.2.2.1), .bool (x0.2.2.2.2.2.2.2.2.2.2.2.fst), Sc.val .l (x0.2.2.2.2.2.2.2.2.2.2.2.2.1), .int .i64 (x0.2.2.2.2.2.2.2.2.2.2.2.2.2.fst), .string (x0.2.2.2.2.2.2.2.2.2.2.2.2.2.2.fst), .string (x0.2.2.2.2.2.2.2.2.2.2.2.2.2.2.2.fst), .bool (x0.2.2.2.2.2.2.2.2.2.2.2.2.2.2.2.2.fst), Sc.val .l (x0.2.2.2.2.2.2.2.2.2.2.2.2.2.2.2.2.2.1), .int .i64 (x0.2.2.2.2.2.2.2.2.2.2.2.2.2.2.2.2.2.2.fst)] 44 fun b4 =>
  .lp [.a 9, .o (.o (.i .i64))] [.a 9 ((1 : Nat)) [.string (y2)], .v (.int .i64 ((0 : Int)))] fun y5 =>
  .br (decide (y5.2.fst < (↑y3.n : Int))) (
    .el (y3.a) (y3.n) (y5.2.fst) fun y6 =>
    .ld false (y6.add (Int.toNat y5.2.fst * (1 : Nat))) (.o (.i .i64)) fun y7 =>
    .call false 54 [.pointer (some { block := b4, off := (0 : Nat) : Go.Addr }), .int .i64 (y7)] (.v (.o (.s))) fun y8 =>
    .rq ([(Sh1.o Sc.s).val y8].length = (1 : Nat) * (1 : Nat)) <|
    .rq (one [(Sh1.o Sc.s).val y8] = true ∧ (y5.1.fst + (1 : Nat)) * (16 : Nat) ≤ (140737488355328 : Nat) ∧ y5.1.fst + (1 : Nat) ≤ (9223372036854775807 : Nat)) <|
    .nx 0 [.a 9 (y5.1.fst + (1 : Nat)) (y5.1.snd ++ [(Sh1.o Sc.s).val y8]), .v (.int .i64 (Go.IntKind.i64.wrap (y5.2.fst + (1 : Int))))]) <|
  .fz (y5.1.fst) (y5.1.snd) 9 fun b6 c6 =>
  .call false 55 [.slice (some { block := b6, off := (0 : Nat) : Go.Addr }) (y5.1.fst) (c6), .string ({ data := { toList := [(32 : UInt8)] : Array UInt8 } : ByteArray })] (.v (.o (.s))) fun y7 =>
  .ret [.string (y7)]
theorem fI_CmdText (x0 : Int × ByteArray × ByteArray × ByteArray × ByteArray × ByteArray × Bool × SlV × Int × SlV × SlV × Bool × SlV × Int × ByteArray × ByteArray × Bool × SlV × Int × PUnit) : fits Tryz.prog aI_CmdText 12 [Sh1.val (.g [.i .i64, .s, .s, .s, .s, .s, .b, .l, .i .i64, .l, .l, .b, .l, .i .i64, .s, .s, .b, .l, .i .i64]) (x0)] (tI_CmdText x0) :=
  ⟨Tryz.f12, Tryz.f12.body.getD .skip, by kernel_rfl, by kernel_rfl, by kernel_rfl, by kernel_rfl, by kernel_rfl, by kernel_rfl⟩
/-! loop.example/g00793/spec.CmdSame -/
def aS_CmdSame : An := ⟨[], [], []⟩
noncomputable def tS_CmdSame (x0 : Int × ByteArray × ByteArray × ByteArray × ByteArray × ByteArray × Bool × SlV × Int × SlV × SlV × Bool × SlV × Int × ByteArray × ByteArray × Bool × SlV × Int × PUnit) (x1 : Int × ByteArray × ByteArray × ByteArray × ByteArray × ByteArray × Bool × SlV × Int × SlV × SlV × Bool × SlV × Int × ByteArray × ByteArray × Bool × SlV × Int × PUnit) : T :=
  .rg <|
  .call true 7 [Sh1.val (.g [.i .i64, .s, .s, .s, .s, .s, .b, .l, .i .i64, .l, .l, .b, .l, .i .i64, .s, .s, .b, .l, .i .i64]) (x0)] (.v (.o (.b))) fun y1 =>
  .br (y1) (
    .call true 7 [Sh1.val (.g [.i .i64, .s, .s, .s, .s, .s, .b, .l, .i .i64, .l, .l, .b, .l, .i .i64, .s, .s, .b, .l, .i .i64]) (x1)] (.v (.o (.b))) fun y2 =>
    .br (y2) (
      .call true 11 [Sh1.val (.g [.i .i64, .s, .s, .s, .s, .s, .b, .l, .i .i64, .l, .l, .b, .l, .i .i64, .s, .s, .b, .l, .i .i64]) (x0)] (.v (.o (.s))) fun y3 =>
      .call true 11 [Sh1.val (.g [.i .i64, .s, .s, .s, .s, .s, .b, .l, .i .i64, .l, .l, .b, .l, .i .i64, .s, .s, .b, .l, .i .i64]) (x1)] (.v (.o (.s))) fun y4 =>
      .ret [.bool (y3.toList == y4.toList)]) <|
    .ret [.bool (false)]) <|
  .ret [.bool (false)]
theorem fS_CmdSame (x0 : Int × ByteArray × ByteArray × ByteArray × ByteArray × ByteArray × Bool × SlV × Int × SlV × SlV × Bool × SlV × Int × ByteArray × ByteArray × Bool × SlV × Int × PUnit) (x1 : Int × ByteArray × ByteArray × ByteArray × ByteArray × ByteArray × Bool × SlV × Int × SlV × SlV × Bool × SlV × Int × ByteArray × ByteArray × Bool × SlV × Int × PUnit) : fits Tryz.prog aS_CmdSame 13 [Sh1.val (.g [.i .i64, .s, .s, .s, .s, .s, .b, .l, .i .i64, .l, .l, .b, .l, .i .i64, .s, .s, .b, .l, .i .i64]) (x0), Sh1.val (.g [.i .i64, .s, .s, .s, .s, .s, .b, .l, .i .i64, .l, .l, .b, .l, .i .i64, .s, .s, .b, .l, .i .i64]) (x1)] (tS_CmdSame x0 x1) :=
  ⟨Tryz.f13, Tryz.f13.body.getD .skip, by kernel_rfl, by kernel_rfl, by kernel_rfl, by kernel_rfl, by kernel_rfl, by kernel_rfl⟩
/-! loop.example/g00793/impl.CmdSame -/
def aI_CmdSame : An := ⟨[], [], []⟩
noncomputable def tI_CmdSame (x0 : Int × ByteArray × ByteArray × ByteArray × ByteArray × ByteArray × Bool × SlV × Int × SlV × SlV × Bool × SlV × Int × ByteArray × ByteArray × Bool × SlV × Int × PUnit) (x1 : Int × ByteArray × ByteArray × ByteArray × ByteArray × ByteArray × Bool × SlV × Int × SlV × SlV × Bool × SlV × Int × ByteArray × ByteArray × Bool × SlV × Int × PUnit) : T :=
  .rg <|
  .call true 9 [Sh1.val (.g [.i .i64, .s, .s, .s, .s, .s, .b, .l, .i .i64, .l, .l, .b, .l, .i .i64, .s, .s, .b, .l, .i .i64]) (x0)] (.v (.o (.b))) fun y1 =>
  .br (y1) (
    .call true 9 [Sh1.val (.g [.i .i64, .s, .s, .s, .s, .s, .b, .l, .i .i64, .l, .l, .b, .l, .i .i64, .s, .s, .b, .l, .i .i64]) (x1)] (.v (.o (.b))) fun y2 =>
    .br (y2) (
      .call true 12 [Sh1.val (.g [.i .i64, .s, .s, .s, .s, .s, .b, .l, .i .i64, .l, .l, .b, .l, .i .i64, .s, .s, .b, .l, .i .i64]) (x0)] (.v (.o (.s))) fun y3 =>
      .call true 12 [Sh1.val (.g [.i .i64, .s, .s, .s, .s, .s, .b, .l, .i .i64, .l, .l, .b, .l, .i .i64, .s, .s, .b, .l, .i .i64]) (x1)] (.v (.o (.s))) fun y4 =>
      .ret [.bool (y3.toList == y4.toList)]) <|
    .ret [.bool (false)]) <|
  .ret [.bool (false)]
theorem fI_CmdSame (x0 : Int × ByteArray × ByteArray × ByteArray × ByteArray × ByteArray × Bool × SlV × Int × SlV × SlV × Bool × SlV × Int × ByteArray × ByteArray × Bool × SlV × Int × PUnit) (x1 : Int × ByteArray × ByteArray × ByteArray × ByteArray × ByteArray × Bool × SlV × Int × SlV × SlV × Bool × SlV × Int × ByteArray × ByteArray × Bool × SlV × Int × PUnit) : fits Tryz.prog aI_CmdSame 14 [Sh1.val (.g [.i .i64, .s, .s, .s, .s, .s, .b, .l, .i .i64, .l, .l, .b, .l, .i .i64, .s, .s, .b, .l, .i .i64]) (x0), Sh1.val (.g [.i .i64, .s, .s, .s, .s, .s, .b, .l, .i .i64, .l, .l, .b, .l, .i .i64, .s, .s, .b, .l, .i .i64]) (x1)] (tI_CmdSame x0 x1) :=
  ⟨Tryz.f14, Tryz.f14.body.getD .skip, by kernel_rfl, by kernel_rfl, by kernel_rfl, by kernel_rfl, by kernel_rfl, by kernel_rfl⟩
/-! loop.example/g00793/laws.szMoney -/
def aL_szMoney : An := ⟨[], [], []⟩
noncomputable def tL_szMoney (x0 : ByteArray × Bool × SlV × PUnit) (x1 : Int) : T :=
  .br (decide (Go.IntKind.i64.wrap (x1 - (↑(ByteArray.size x0.fst) : Int)) < (0 : Int))) (
    .ret [.int .i64 ((-1 : Int))]) <|
  .call false 56 [Sh1.val (.g [.b, .l]) (x0.2), .int .i64 (Go.IntKind.i64.wrap (x1 - (↑(ByteArray.size x0.fst) : Int)))] (.v (.o (.i .i64))) fun y1 =>
  .br (decide (y1 < (0 : Int))) (
    .ret [.int .i64 ((-1 : Int))]) <|
  .ret [.int .i64 (y1)]
theorem fL_szMoney (x0 : ByteArray × Bool × SlV × PUnit) (x1 : Int) : fits Tryz.prog aL_szMoney 15 [Sh1.val (.g [.s, .b, .l]) (x0), .int .i64 (x1)] (tL_szMoney x0 x1) :=
  ⟨Tryz.f15, Tryz.f15.body.getD .skip, by kernel_rfl, by kernel_rfl, by kernel_rfl, by kernel_rfl, by kernel_rfl, by kernel_rfl⟩
/-! loop.example/g00793/laws.szStringS -/
def aL_szStringS : An := ⟨[(5, [.s 1, .s 5], [.o (.o (.i .i64)), .o (.o (.i .i64))])], [], []⟩
noncomputable def tL_szStringS (x0 : SlV) (x1 : Int) : T :=
  .br (decide (Go.IntKind.i64.wrap (x1 - (↑x0.n : Int)) < (0 : Int))) (
    .ret [.int .i64 ((-1 : Int))]) <|
  .lp [.o (.o (.i .i64)), .o (.o (.i .i64))] [.v (.int .i64 (Go.IntKind.i64.wrap (x1 - (↑x0.n : Int)))), .v (.int .i64 ((0 : Int)))] fun y1 =>
  .br (decide (y1.2.fst < (↑x0.n : Int))) (
    .el (x0.a) (x0.n) (y1.2.fst) fun y2 =>
    .ld false (y2.add (Int.toNat y1.2.fst * (1 : Nat))) (.o (.s)) fun y3 =>
    .br (decide (Go.IntKind.i64.wrap (y1.fst - (↑y3.size : Int)) < (0 : Int))) (
      .ret [.int .i64 ((-1 : Int))]) <|
    .nx 0 [.v (.int .i64 (Go.IntKind.i64.wrap (y1.fst - (↑y3.size : Int)))), .v (.int .i64 (Go.IntKind.i64.wrap (y1.2.fst + (1 : Int))))]) <|
  .ret [.int .i64 (y1.fst)]
theorem fL_szStringS (x0 : SlV) (x1 : Int) : fits Tryz.prog aL_szStringS 16 [Sc.val .l (x0), .int .i64 (x1)] (tL_szStringS x0 x1) :=
  ⟨Tryz.f16, Tryz.f16.body.getD .skip, by kernel_rfl, by kernel_rfl, by kernel_rfl, by kernel_rfl, by kernel_rfl, by kernel_rfl⟩
/-! loop.example/g00793/laws.szIntS -/
def aL_szIntS : An := ⟨[], [], []⟩
noncomputable def tL_szIntS (x0 : SlV) (x1 : Int) : T :=
  .br (decide (Go.IntKind.i64.wrap (x1 - (↑x0.n : Int)) < (0 : Int))) (
    .ret [.int .i64 ((-1 : Int))]) <|
  .ret [.int .i64 (Go.IntKind.i64.wrap (x1 - (↑x0.n : Int)))]
theorem fL_szIntS (x0 : SlV) (x1 : Int) : fits Tryz.prog aL_szIntS 17 [Sc.val .l (x0), .int .i64 (x1)] (tL_szIntS x0 x1) :=
  ⟨Tryz.f17, Tryz.f17.body.getD .skip, by kernel_rfl, by kernel_rfl, by kernel_rfl, by kernel_rfl, by kernel_rfl, by kernel_rfl⟩
/-! loop.example/g00793/laws.szDec -/
def aL_szDec : An := ⟨[], [], []⟩
noncomputable def tL_szDec (x0 : Bool × SlV × Int × PUnit) (x1 : Int) : T :=
  .call false 56 [Sh1.val (.g [.b, .l]) ((x0.fst), x0.2.1, ()), .int .i64 (x1)] (.v (.o (.i .i64))) fun y1 =>
  .br (decide (y1 < (0 : Int))) (
    .ret [.int .i64 ((-1 : Int))]) <|
  .ret [.int .i64 (y1)]
theorem fL_szDec (x0 : Bool × SlV × Int × PUnit) (x1 : Int) : fits Tryz.prog aL_szDec 18 [Sh1.val (.g [.b, .l, .i .i64]) (x0), .int .i64 (x1)] (tL_szDec x0 x1) :=
  ⟨Tryz.f18, Tryz.f18.body.getD .skip, by kernel_rfl, by kernel_rfl, by kernel_rfl, by kernel_rfl, by kernel_rfl, by kernel_rfl⟩
/-! loop.example/g00793/laws.szRate -/
def aL_szRate : An := ⟨[], [], []⟩
noncomputable def tL_szRate (x0 : ByteArray × ByteArray × Bool × SlV × Int × PUnit) (x1 : Int) : T :=
  .br (decide (Go.IntKind.i64.wrap (x1 - (↑(ByteArray.size x0.fst) : Int)) < (0 : Int))) (
    .ret [.int .i64 ((-1 : Int))]) <|
  .br (decide (Go.IntKind.i64.wrap (Go.IntKind.i64.wrap (x1 - (↑(ByteArray.size x0.fst) : Int)) - (↑(ByteArray.size x0.2.fst) : Int)) < (0 : Int))) (
    .ret [.int .i64 ((-1 : Int))]) <|
  .call false 18 [Sh1.val (.g [.b, .l, .i .i64]) (x0.2.2), .int .i64 (Go.IntKind.i64.wrap (Go.IntKind.i64.wrap (x1 - (↑(ByteArray.size x0.fst) : Int)) - (↑(ByteArray.size x0.2.fst) : Int)))] (.v (.o (.i .i64))) fun y1 =>
  .br (decide (y1 < (0 : Int))) (
    .ret [.int .i64 ((-1 : Int))]) <|
  .ret [.int .i64 (y1)]
theorem fL_szRate (x0 : ByteArray × ByteArray × Bool × SlV × Int × PUnit) (x1 : Int) : fits Tryz.prog aL_szRate 19 [Sh1.val (.g [.s, .s, .b, .l, .i .i64]) (x0), .int .i64 (x1)] (tL_szRate x0 x1) :=
  ⟨Tryz.f19, Tryz.f19.body.getD .skip, by kernel_rfl, by kernel_rfl, by kernel_rfl, by kernel_rfl, by kernel_rfl, by kernel_rfl⟩
/-! loop.example/g00793/spec.l22Has -/
def aS_l22Has : An := ⟨[], [], []⟩
noncomputable def tS_l22Has (x0 : Int) : T :=
  .br (x0 == (4 : Int)) (
    .call false 57 [.int .i64 (x0), .int .i64 ((2 : Int)), .int .i64 ((7 : Int))] (.v (.o (.b))) fun y1 =>
    .br (x0 == (5 : Int)) (
      .ret [.bool (true), .bool (x0 == (7 : Int)), .bool (y1), .bool (true)]) <|
    .br (x0 == (7 : Int)) (
      .ret [.bool (true), .bool (x0 == (7 : Int)), .bool (y1), .bool (true)]) <|
    .ret [.bool (true), .bool (x0 == (7 : Int)), .bool (y1), .bool (x0 == (8 : Int))]) <|
  .br (x0 == (5 : Int)) (
    .call false 57 [.int .i64 (x0), .int .i64 ((2 : Int)), .int .i64 ((7 : Int))] (.v (.o (.b))) fun y1 =>
    .br (x0 == (5 : Int)) (
      .ret [.bool (true), .bool (x0 == (7 : Int)), .bool (y1), .bool (true)]) <|
    .br (x0 == (7 : Int)) (
      .ret [.bool (true), .bool (x0 == (7 : Int)), .bool (y1), .bool (true)]) <|
    .ret [.bool (true), .bool (x0 == (7 : Int)), .bool (y1), .bool (x0 == (8 : Int))]) <|
  .call false 57 [.int .i64 (x0), .int .i64 ((2 : Int)), .int .i64 ((7 : Int))] (.v (.o (.b))) fun y1 =>
  .br (x0 == (5 : Int)) (
    .ret [.bool (x0 == (7 : Int)), .bool (x0 == (7 : Int)), .bool (y1), .bool (true)]) <|
  .br (x0 == (7 : Int)) (
    .ret [.bool (x0 == (7 : Int)), .bool (x0 == (7 : Int)), .bool (y1), .bool (true)]) <|
  .ret [.bool (x0 == (7 : Int)), .bool (x0 == (7 : Int)), .bool (y1), .bool (x0 == (8 : Int))]
theorem fS_l22Has (x0 : Int) : fits Tryz.prog aS_l22Has 20 [.int .i64 (x0)] (tS_l22Has x0) :=
  ⟨Tryz.f20, Tryz.f20.body.getD .skip, by kernel_rfl, by kernel_rfl, by kernel_rfl, by kernel_rfl, by kernel_rfl, by kernel_rfl⟩
/-! loop.example/g00793/spec.l22Op -/
def aS_l22Op : An := ⟨[], [], []⟩
noncomputable def tS_l22Op (x0 : Int) : T :=
  .call false 57 [.int .i64 (x0), .int .i64 ((1 : Int)), .int .i64 ((9 : Int))] (.v (.o (.b))) fun y1 =>
  .ret [.bool (y1)]
theorem fS_l22Op (x0 : Int) : fits Tryz.prog aS_l22Op 21 [.int .i64 (x0)] (tS_l22Op x0) :=
  ⟨Tryz.f21, Tryz.f21.body.getD .skip, by kernel_rfl, by kernel_rfl, by kernel_rfl, by kernel_rfl, by kernel_rfl, by kernel_rfl⟩
/-! loop.example/g00793/spec.IsWord -/
def aS_IsWord : An := ⟨[], [], []⟩
noncomputable def tS_IsWord (x0 : ByteArray) : T :=
  .call false 58 [.string (x0), .int .u8 ((97 : Int)), .int .u8 ((122 : Int)), .int .u8 ((48 : Int)), .int .u8 ((57 : Int))] (.v (.o (.b))) fun y1 =>
  .br (y1) (
    .br (decide ((↑x0.size : Int) ≤ (12 : Int))) (
      .rq ((0 : Int) ≤ (0 : Int) ∧ (0 : Int) < (↑x0.size : Int)) <|
      .ret [.bool (decide (at0 x0 (Int.toNat (0 : Int)) ≥ (97 : Int)))]) <|
    .ret [.bool (false)]) <|
  .ret [.bool (false)]
theorem fS_IsWord (x0 : ByteArray) : fits Tryz.prog aS_IsWord 22 [.string (x0)] (tS_IsWord x0) :=
  ⟨Tryz.f22, Tryz.f22.body.getD .skip, by kernel_rfl, by kernel_rfl, by kernel_rfl, by kernel_rfl, by kernel_rfl, by kernel_rfl⟩
/-! loop.example/g00793/spec.IsCode -/
def aS_IsCode : An := ⟨[], [], []⟩
noncomputable def tS_IsCode (x0 : ByteArray) : T :=
  .call false 58 [.string (x0), .int .u8 ((65 : Int)), .int .u8 ((90 : Int)), .int .u8 ((65 : Int)), .int .u8 ((90 : Int))] (.v (.o (.b))) fun y1 =>
  .br (y1) (
    .ret [.bool ((↑x0.size : Int) == (3 : Int))]) <|
  .ret [.bool (false)]
theorem fS_IsCode (x0 : ByteArray) : fits Tryz.prog aS_IsCode 23 [.string (x0)] (tS_IsCode x0) :=
  ⟨Tryz.f23, Tryz.f23.body.getD .skip, by kernel_rfl, by kernel_rfl, by kernel_rfl, by kernel_rfl, by kernel_rfl, by kernel_rfl⟩
/-! loop.example/g00793/spec.l21Money -/
def aS_l21Money : An := ⟨[], [], []⟩
noncomputable def tS_l21Money (x0 : ByteArray × Bool × SlV × PUnit) : T :=
  .call false 59 [Sh1.val (.g [.s, .b, .l]) (x0)] (.v (.o (.b))) fun y1 =>
  .br (y1) (
    .ret [.bool (!x0.2.fst)]) <|
  .ret [.bool (false)]
theorem fS_l21Money (x0 : ByteArray × Bool × SlV × PUnit) : fits Tryz.prog aS_l21Money 24 [Sh1.val (.g [.s, .b, .l]) (x0)] (tS_l21Money x0) :=
  ⟨Tryz.f24, Tryz.f24.body.getD .skip, by kernel_rfl, by kernel_rfl, by kernel_rfl, by kernel_rfl, by kernel_rfl, by kernel_rfl⟩
/-! loop.example/g00793/spec.l06Mode -/
def aS_l06Mode : An := ⟨[], [], []⟩
noncomputable def tS_l06Mode (x0 : Int) : T :=
  .call false 57 [.int .i64 (x0), .int .i64 ((0 : Int)), .int .i64 ((6 : Int))] (.v (.o (.b))) fun y1 =>
  .ret [.bool (y1)]
theorem fS_l06Mode (x0 : Int) : fits Tryz.prog aS_l06Mode 25 [.int .i64 (x0)] (tS_l06Mode x0) :=
  ⟨Tryz.f25, Tryz.f25.body.getD .skip, by kernel_rfl, by kernel_rfl, by kernel_rfl, by kernel_rfl, by kernel_rfl, by kernel_rfl⟩
/-! loop.example/g00793/spec.l22Weights -/
def aS_l22Weights : An := ⟨[(2, [.s 9], [.o (.o (.i .i64))])], [], []⟩
noncomputable def tS_l22Weights (x0 : SlV) (x1 : SlV) : T :=
  .lp [.o (.o (.i .i64))] [.v (.int .i64 ((0 : Int)))] fun y1 =>
  .br (decide (y1.fst < (↑x1.n : Int))) (
    .el (x1.a) (x1.n) (y1.fst) fun y2 =>
    .ld false (y2.add (Int.toNat y1.fst * (1 : Nat))) (.o (.i .i64)) fun y3 =>
    .call false 57 [.int .i64 (y3), .int .i64 ((0 : Int)), .int .i64 ((1000000000 : Int))] (.v (.o (.b))) fun y4 =>
    .br (!y4) (
      .ret [.bool (false)]) <|
    .nx 0 [.v (.int .i64 (Go.IntKind.i64.wrap (y1.fst + (1 : Int))))]) <|
  .br ((↑x0.n : Int) == (↑x1.n : Int)) (
    .call false 57 [.int .i64 ((↑x1.n : Int)), .int .i64 ((1 : Int)), .int .i64 ((30 : Int))] (.v (.o (.b))) fun y2 =>
    .br (y2) (
      .call false 60 [Sc.val .l (x0)] (.v (.o (.b))) fun y3 =>
      .ret [.bool (y3)]) <|
    .ret [.bool (false)]) <|
  .ret [.bool (false)]
theorem fS_l22Weights (x0 : SlV) (x1 : SlV) : fits Tryz.prog aS_l22Weights 26 [Sc.val .l (x0), Sc.val .l (x1)] (tS_l22Weights x0 x1) :=
  ⟨Tryz.f26, Tryz.f26.body.getD .skip, by kernel_rfl, by kernel_rfl, by kernel_rfl, by kernel_rfl, by kernel_rfl, by kernel_rfl⟩
/-! loop.example/g00793/spec.TaxRateOk -/
def aS_TaxRateOk : An := ⟨[], [], []⟩
noncomputable def tS_TaxRateOk (x0 : Bool × SlV × Int × PUnit) : T :=
  .rg <|
  .call true 61 [Sh1.val (.g [.b, .l, .i .i64]) (x0)] (.v (.o (.b))) fun y1 =>
  .br (y1) (
    .br (!x0.fst) (
      .br (decide ((↑x0.2.1.n : Int) ≤ (1 : Int))) (
        .call true 63 [.int .i64 ((1 : Int))] (.v (.g [.b, .l])) fun y2 =>
        .call true 62 [Sh1.val (.g [.b, .l, .i .i64]) (x0), Sh1.val (.g [.b, .l, .i .i64]) ((y2.fst), y2.2.1, (((0 : Int)) : Int), ())] (.v (.o (.i .i64))) fun y3 =>
        .ret [.bool (decide (y3 ≤ (0 : Int)))]) <|
      .ret [.bool (false)]) <|
    .ret [.bool (false)]) <|
  .ret [.bool (false)]
theorem fS_TaxRateOk (x0 : Bool × SlV × Int × PUnit) : fits Tryz.prog aS_TaxRateOk 27 [Sh1.val (.g [.b, .l, .i .i64]) (x0)] (tS_TaxRateOk x0) :=
  ⟨Tryz.f27, Tryz.f27.body.getD .skip, by kernel_rfl, by kernel_rfl, by kernel_rfl, by kernel_rfl, by kernel_rfl, by kernel_rfl⟩
/-! loop.example/g00793/spec.DecText -/
def aS_DecText : An := ⟨[], [], []⟩
noncomputable def tS_DecText (x0 : Bool × SlV × Int × PUnit) : T :=
  .call false 61 [Sh1.val (.g [.b, .l, .i .i64]) (x0)] (.v (.o (.b))) fun y1 =>
  .br (!y1) (
    .ret [.string ({ data := { toList := [] : Array UInt8 } : ByteArray })]) <|
  .rg <|
  .call true 65 [Sc.val .l (x0.2.1)] (.v (.o (.s))) fun y2 =>
  .call true 64 [.string (y2), .int .i64 (Go.IntKind.i64.wrap (x0.2.2.fst + (1 : Int)))] (.v (.o (.s))) fun y3 =>
  .br (decide (x0.2.2.fst > (0 : Int))) (
    .rg <|
    .rq ((0 : Int) ≤ (0 : Int) ∧ (0 : Int) ≤ Go.IntKind.i64.wrap ((↑y3.size : Int) - x0.2.2.fst) ∧ Go.IntKind.i64.wrap ((↑y3.size : Int) - x0.2.2.fst) ≤ (↑y3.size : Int)) <|
    .rq ((y3.extract (Int.toNat (0 : Int)) (Go.IntKind.i64.wrap ((↑y3.size : Int) - x0.2.2.fst)).toNat).size + { data := { toList := [(46 : UInt8)] : Array UInt8 } : ByteArray }.size ≤ (9223372036854775807 : Nat)) <|
    .rq ((0 : Int) ≤ Go.IntKind.i64.wrap ((↑y3.size : Int) - x0.2.2.fst) ∧ Go.IntKind.i64.wrap ((↑y3.size : Int) - x0.2.2.fst) ≤ (↑y3.size : Int) ∧ (↑y3.size : Int) ≤ (↑y3.size : Int)) <|
    .rq ((y3.extract (Int.toNat (0 : Int)) (Go.IntKind.i64.wrap ((↑y3.size : Int) - x0.2.2.fst)).toNat ++ { data := { toList := [(46 : UInt8)] : Array UInt8 } : ByteArray }).size + (y3.extract (Go.IntKind.i64.wrap ((↑y3.size : Int) - x0.2.2.fst)).toNat (↑y3.size : Int).toNat).size ≤ (9223372036854775807 : Nat)) <|
    .br (x0.fst) (
      .rq ({ data := { toList := [(45 : UInt8)] : Array UInt8 } : ByteArray }.size + (y3.extract (Int.toNat (0 : Int)) (Go.IntKind.i64.wrap ((↑y3.size : Int) - x0.2.2.fst)).toNat ++ { data := { toList := [(46 : UInt8)] : Array UInt8 } : ByteArray } ++ y3.extract (Go.IntKind.i64.wrap ((↑y3.size : Int) - x0.2.2.fst)).toNat (↑y3.size : Int).toNat).size ≤ (9223372036854775807 : Nat)) <|
      .ret [.string ({ data := { toList := [(45 : UInt8)] : Array UInt8 } : ByteArray } ++ (y3.extract (Int.toNat (0 : Int)) (Go.IntKind.i64.wrap ((↑y3.size : Int) - x0.2.2.fst)).toNat ++ { data := { toList := [(46 : UInt8)] : Array UInt8 } : ByteArray } ++ y3.extract (Go.IntKind.i64.wrap ((↑y3.size : Int) - x0.2.2.fst)).toNat (↑y3.size : Int).toNat))]) <|
    .ret [.string (y3.extract (Int.toNat (0 : Int)) (Go.IntKind.i64.wrap ((↑y3.size : Int) - x0.2.2.fst)).toNat ++ { data := { toList := [(46 : UInt8)] : Array UInt8 } : ByteArray } ++ y3.extract (Go.IntKind.i64.wrap ((↑y3.size : Int) - x0.2.2.fst)).toNat (↑y3.size : Int).toNat)]) <|
  .br (x0.fst) (
    .rq ({ data := { toList := [(45 : UInt8)] : Array UInt8 } : ByteArray }.size + y3.size ≤ (9223372036854775807 : Nat)) <|
    .ret [.string ({ data := { toList := [(45 : UInt8)] : Array UInt8 } : ByteArray } ++ y3)]) <|
  .ret [.string (y3)]
theorem fS_DecText (x0 : Bool × SlV × Int × PUnit) : fits Tryz.prog aS_DecText 28 [Sh1.val (.g [.b, .l, .i .i64]) (x0)] (tS_DecText x0) :=
  ⟨Tryz.f28, Tryz.f28.body.getD .skip, by kernel_rfl, by kernel_rfl, by kernel_rfl, by kernel_rfl, by kernel_rfl, by kernel_rfl⟩
/-! loop.example/g00793/spec.DecLow -/
def aS_DecLow : An := ⟨[(2, [.s 3, .c 2 0, .c 2 1, .c 2 2], [.o (.o (.i .i64)), .o (.o (.b)), .o (.o (.l)), .o (.o (.i .i64))])], [], []⟩
noncomputable def tS_DecLow (x0 : Bool × SlV × Int × PUnit) : T :=
  .lp [.o (.o (.i .i64)), .o (.o (.b)), .o (.o (.l)), .o (.o (.i .i64))] [.v (.int .i64 ((0 : Int))), .v (.bool (false)), .v (.slice (none) ((0 : Nat)) ((0 : Nat))), .v (.int .i64 ((0 : Int)))] fun y1 =>
  .br (decide (y1.fst ≤ (30 : Int))) (
    .call false 66 [Sh1.val (.g [.b, .l, .i .i64]) (x0), .int .i64 (y1.fst)] (.t [(.g [.b, .l, .i .i64]), (.o (.b))]) fun y2 =>
    .br (y2.2.fst) (
      .ret [Sh1.val (.g [.b, .l, .i .i64]) (y2.1)]) <|
    .nx 0 [.v (.int .i64 (Go.IntKind.i64.wrap (y1.fst + (1 : Int)))), .v (.bool (y1.2.fst)), .v (Sc.val .l (y1.2.2.1)), .v (.int .i64 (y1.2.2.2.fst))]) <|
  .ret [Sh1.val (.g [.b, .l, .i .i64]) ((false), (⟨(none), ((0 : Nat)), ((0 : Nat))⟩ : SlV), (((0 : Int)) : Int), ())]
theorem fS_DecLow (x0 : Bool × SlV × Int × PUnit) : fits Tryz.prog aS_DecLow 29 [Sh1.val (.g [.b, .l, .i .i64]) (x0)] (tS_DecLow x0) :=
  ⟨Tryz.f29, Tryz.f29.body.getD .skip, by kernel_rfl, by kernel_rfl, by kernel_rfl, by kernel_rfl, by kernel_rfl, by kernel_rfl⟩
/-! loop.example/g00793/spec.l22Zero -/
def aS_l22Zero : An := ⟨[], [], []⟩
noncomputable def tS_l22Zero (x0 : Bool × SlV × Int × PUnit) : T :=
  .br (x0.2.2.fst == (0 : Int)) (
    .br (!x0.fst) (
      .ret [.bool ((↑x0.2.1.n : Int) == (0 : Int))]) <|
    .ret [.bool (false)]) <|
  .ret [.bool (false)]
theorem fS_l22Zero (x0 : Bool × SlV × Int × PUnit) : fits Tryz.prog aS_l22Zero 30 [Sh1.val (.g [.b, .l, .i .i64]) (x0)] (tS_l22Zero x0) :=
  ⟨Tryz.f30, Tryz.f30.body.getD .skip, by kernel_rfl, by kernel_rfl, by kernel_rfl, by kernel_rfl, by kernel_rfl, by kernel_rfl⟩
/-! loop.example/g00793/spec.RateOk -/
def aS_RateOk : An := ⟨[], [], []⟩
noncomputable def tS_RateOk (x0 : ByteArray × ByteArray × Bool × SlV × Int × PUnit) : T :=
  .call false 67 [.string (x0.fst)] (.v (.o (.b))) fun y1 =>
  .br (y1) (
    .call false 67 [.string (x0.2.fst)] (.v (.o (.b))) fun y2 =>
    .br (y2) (
      .br (!ByteArray.toList x0.fst == ByteArray.toList x0.2.fst) (
        .call false 61 [Sh1.val (.g [.b, .l, .i .i64]) (x0.2.2)] (.v (.o (.b))) fun y3 =>
        .br (y3) (
          .call false 68 [Sh1.val (.g [.b, .l]) ((x0.2.2.fst), x0.2.2.2.1, ())] (.v (.o (.i .i64))) fun y4 =>
          .br (decide (y4 > (0 : Int))) (
            .ret [.bool (decide ((↑x0.2.2.2.1.n : Int) ≤ (2 : Int)))]) <|
          .ret [.bool (false)]) <|
        .ret [.bool (false)]) <|
      .ret [.bool (false)]) <|
    .ret [.bool (false)]) <|
  .ret [.bool (false)]
theorem fS_RateOk (x0 : ByteArray × ByteArray × Bool × SlV × Int × PUnit) : fits Tryz.prog aS_RateOk 31 [Sh1.val (.g [.s, .s, .b, .l, .i .i64]) (x0)] (tS_RateOk x0) :=
  ⟨Tryz.f31, Tryz.f31.body.getD .skip, by kernel_rfl, by kernel_rfl, by kernel_rfl, by kernel_rfl, by kernel_rfl, by kernel_rfl⟩
/-! loop.example/g00793/laws.toMoney -/
def aL_toMoney : An := ⟨[], [], []⟩
noncomputable def tL_toMoney (x0 : ByteArray × Bool × SlV × PUnit) : T :=
  .call false 69 [Sh1.val (.g [.b, .l]) (x0.2)] (.v (.g [.b, .l])) fun y1 =>
  .ret [Sh1.val (.g [.s, .b, .l]) ((x0.fst), (y1.fst), y1.2.1, ())]
theorem fL_toMoney (x0 : ByteArray × Bool × SlV × PUnit) : fits Tryz.prog aL_toMoney 32 [Sh1.val (.g [.s, .b, .l]) (x0)] (tL_toMoney x0) :=
  ⟨Tryz.f32, Tryz.f32.body.getD .skip, by kernel_rfl, by kernel_rfl, by kernel_rfl, by kernel_rfl, by kernel_rfl, by kernel_rfl⟩
/-! loop.example/g00793/laws.toStringS -/
def aL_toStringS : An := ⟨[(3, [.s 3, .s 4], [.a 9, .o (.o (.i .i64))])], [], []⟩
noncomputable def tL_toStringS (x0 : SlV) : T :=
  .rq ((0 : Int) ≤ (↑x0.n : Int) ∧ (↑x0.n : Int) ≤ (↑x0.n : Int) ∧ (↑(16 : Nat) : Int) * (↑x0.n : Int) ≤ (281474976710656 : Int) ∧ (↑x0.n : Int) ≤ (9223372036854775807 : Int)) <|
  .lp [.a 9, .o (.o (.i .i64))] [.a 9 ((↑x0.n : Int).toNat) ((Go.madeCells { toList := [Go.Value.string { data := { toList := [] : Array UInt8 } : ByteArray }] : Array Go.Value } ((↑x0.n : Int).toNat * (1 : Nat))).toList), .v (.int .i64 ((0 : Int)))] fun y1 =>
  .br (decide (y1.2.fst < (↑x0.n : Int))) (
    .el (x0.a) (x0.n) (y1.2.fst) fun y2 =>
    .ld false (y2.add (Int.toNat y1.2.fst * (1 : Nat))) (.o (.s)) fun y3 =>
    .rq ((0 : Int) ≤ y1.2.fst ∧ y1.2.fst < (↑y1.1.fst : Int)) <|
    .rq (Int.toNat y1.2.fst * (1 : Nat) + [(Sh1.o Sc.s).val y3].length ≤ y1.1.snd.length) <|
    .nx 0 [.a 9 (y1.1.fst) (setl y1.1.snd (Int.toNat y1.2.fst * (1 : Nat)) [(Sh1.o Sc.s).val y3]), .v (.int .i64 (Go.IntKind.i64.wrap (y1.2.fst + (1 : Int))))]) <|
  .fz (y1.1.fst) (y1.1.snd) 9 fun b2 c2 =>
  .ret [.slice (some { block := b2, off := (0 : Nat) : Go.Addr }) (y1.1.fst) (c2)]
theorem fL_toStringS (x0 : SlV) : fits Tryz.prog aL_toStringS 33 [Sc.val .l (x0)] (tL_toStringS x0) :=
  ⟨Tryz.f33, Tryz.f33.body.getD .skip, by kernel_rfl, by kernel_rfl, by kernel_rfl, by kernel_rfl, by kernel_rfl, by kernel_rfl⟩
/-! loop.example/g00793/laws.toIntS -/
def aL_toIntS : An := ⟨[(3, [.s 3, .s 4], [.a 3, .o (.o (.i .i64))])], [], []⟩
noncomputable def tL_toIntS (x0 : SlV) : T :=
  .rq ((0 : Int) ≤ (↑x0.n : Int) ∧ (↑x0.n : Int) ≤ (↑x0.n : Int) ∧ (↑(8 : Nat) : Int) * (↑x0.n : Int) ≤ (281474976710656 : Int) ∧ (↑x0.n : Int) ≤ (9223372036854775807 : Int)) <|
  .lp [.a 3, .o (.o (.i .i64))] [.a 3 ((↑x0.n : Int).toNat) ((Go.madeCells { toList := [Go.Value.int Go.IntKind.i64 (0 : Int)] : Array Go.Value } ((↑x0.n : Int).toNat * (1 : Nat))).toList), .v (.int .i64 ((0 : Int)))] fun y1 =>
  .br (decide (y1.2.fst < (↑x0.n : Int))) (
    .el (x0.a) (x0.n) (y1.2.fst) fun y2 =>
    .ld false (y2.add (Int.toNat y1.2.fst * (1 : Nat))) (.o (.i .i64)) fun y3 =>
    .rq ((0 : Int) ≤ y1.2.fst ∧ y1.2.fst < (↑y1.1.fst : Int)) <|
    .rq (Int.toNat y1.2.fst * (1 : Nat) + [(Sh1.o (Sc.i Go.IntKind.i64)).val y3].length ≤ y1.1.snd.length) <|
    .nx 0 [.a 3 (y1.1.fst) (setl y1.1.snd (Int.toNat y1.2.fst * (1 : Nat)) [(Sh1.o (Sc.i Go.IntKind.i64)).val y3]), .v (.int .i64 (Go.IntKind.i64.wrap (y1.2.fst + (1 : Int))))]) <|
  .fz (y1.1.fst) (y1.1.snd) 3 fun b2 c2 =>
  .ret [.slice (some { block := b2, off := (0 : Nat) : Go.Addr }) (y1.1.fst) (c2)]
theorem fL_toIntS (x0 : SlV) : fits Tryz.prog aL_toIntS 34 [Sc.val .l (x0)] (tL_toIntS x0) :=
  ⟨Tryz.f34, Tryz.f34.body.getD .skip, by kernel_rfl, by kernel_rfl, by kernel_rfl, by kernel_rfl, by kernel_rfl, by kernel_rfl⟩
/-! loop.example/g00793/laws.toDec -/
def aL_toDec : An := ⟨[], [], []⟩
noncomputable def tL_toDec (x0 : Bool × SlV × Int × PUnit) : T :=
  .call false 69 [Sh1.val (.g [.b, .l]) ((x0.fst), x0.2.1, ())] (.v (.g [.b, .l])) fun y1 =>
  .ret [Sh1.val (.g [.b, .l, .i .i64]) ((y1.fst), y1.2.1, ((x0.2.2.fst) : Int), ())]
theorem fL_toDec (x0 : Bool × SlV × Int × PUnit) : fits Tryz.prog aL_toDec 35 [Sh1.val (.g [.b, .l, .i .i64]) (x0)] (tL_toDec x0) :=
  ⟨Tryz.f35, Tryz.f35.body.getD .skip, by kernel_rfl, by kernel_rfl, by kernel_rfl, by kernel_rfl, by kernel_rfl, by kernel_rfl⟩
/-! loop.example/g00793/laws.toRate -/
def aL_toRate : An := ⟨[], [], []⟩
noncomputable def tL_toRate (x0 : ByteArray × ByteArray × Bool × SlV × Int × PUnit) : T :=
  .call false 35 [Sh1.val (.g [.b, .l, .i .i64]) (x0.2.2)] (.v (.g [.b, .l, .i .i64])) fun y1 =>
  .ret [Sh1.val (.g [.s, .s, .b, .l, .i .i64]) ((x0.fst), (x0.2.fst), (y1.fst), y1.2.1, ((y1.2.2.fst) : Int), ())]
theorem fL_toRate (x0 : ByteArray × ByteArray × Bool × SlV × Int × PUnit) : fits Tryz.prog aL_toRate 36 [Sh1.val (.g [.s, .s, .b, .l, .i .i64]) (x0)] (tL_toRate x0) :=
  ⟨Tryz.f36, Tryz.f36.body.getD .skip, by kernel_rfl, by kernel_rfl, by kernel_rfl, by kernel_rfl, by kernel_rfl, by kernel_rfl⟩
/-! loop.example/g00793/impl.fieldsOf -/
def aI_fieldsOf : An := ⟨[], [], []⟩
noncomputable def tI_fieldsOf (x0 : Int) : T :=
  .br (x0 == (1 : Int)) (
    .fz ((2 : Nat)) [.int .i64 ((0 : Int)), .int .i64 ((3 : Int))] 3 fun b1 c1 =>
    .ret [.slice (some { block := b1, off := (0 : Nat) : Go.Addr }) ((2 : Nat)) (c1)]) <|
  .br (x0 == (2 : Int)) (
    .fz ((2 : Nat)) [.int .i64 ((0 : Int)), .int .i64 ((4 : Int))] 3 fun b1 c1 =>
    .ret [.slice (some { block := b1, off := (0 : Nat) : Go.Addr }) ((2 : Nat)) (c1)]) <|
  .br (x0 == (3 : Int)) (
    .fz ((2 : Nat)) [.int .i64 ((0 : Int)), .int .i64 ((4 : Int))] 3 fun b1 c1 =>
    .ret [.slice (some { block := b1, off := (0 : Nat) : Go.Addr }) ((2 : Nat)) (c1)]) <|
  .br (x0 == (4 : Int)) (
    .fz ((3 : Nat)) [.int .i64 ((0 : Int)), .int .i64 ((1 : Int)), .int .i64 ((4 : Int))] 3 fun b1 c1 =>
    .ret [.slice (some { block := b1, off := (0 : Nat) : Go.Addr }) ((3 : Nat)) (c1)]) <|
  .br (x0 == (5 : Int)) (
    .fz ((4 : Nat)) [.int .i64 ((0 : Int)), .int .i64 ((1 : Int)), .int .i64 ((4 : Int)), .int .i64 ((7 : Int))] 3 fun b1 c1 =>
    .ret [.slice (some { block := b1, off := (0 : Nat) : Go.Addr }) ((4 : Nat)) (c1)]) <|
  .br (x0 == (6 : Int)) (
    .fz ((3 : Nat)) [.int .i64 ((0 : Int)), .int .i64 ((4 : Int)), .int .i64 ((5 : Int))] 3 fun b1 c1 =>
    .ret [.slice (some { block := b1, off := (0 : Nat) : Go.Addr }) ((3 : Nat)) (c1)]) <|
  .br (x0 == (7 : Int)) (
    .fz ((6 : Nat)) [.int .i64 ((0 : Int)), .int .i64 ((1 : Int)), .int .i64 ((2 : Int)), .int .i64 ((4 : Int)), .int .i64 ((6 : Int)), .int .i64 ((7 : Int))] 3 fun b1 c1 =>
    .ret [.slice (some { block := b1, off := (0 : Nat) : Go.Addr }) ((6 : Nat)) (c1)]) <|
  .br (x0 == (8 : Int)) (
    .fz ((2 : Nat)) [.int .i64 ((0 : Int)), .int .i64 ((7 : Int))] 3 fun b1 c1 =>
    .ret [.slice (some { block := b1, off := (0 : Nat) : Go.Addr }) ((2 : Nat)) (c1)]) <|
  .br (x0 == (9 : Int)) (
    .fz ((1 : Nat)) [.int .i64 ((8 : Int))] 3 fun b1 c1 =>
    .ret [.slice (some { block := b1, off := (0 : Nat) : Go.Addr }) ((1 : Nat)) (c1)]) <|
  .ret [.slice (none) ((0 : Nat)) ((0 : Nat))]
theorem fI_fieldsOf (x0 : Int) : fits Tryz.prog aI_fieldsOf 37 [.int .i64 (x0)] (tI_fieldsOf x0) :=
  ⟨Tryz.f37, Tryz.f37.body.getD .skip, by kernel_rfl, by kernel_rfl, by kernel_rfl, by kernel_rfl, by kernel_rfl, by kernel_rfl⟩
/-! loop.example/g00793/impl.fieldZero -/
def aI_fieldZero : An := ⟨[], [], []⟩
noncomputable def tI_fieldZero (x0 : Go.Addr) (x1 : Int) : T :=
  .br (x1 == (0 : Int)) (
    .ld false (x0.add (1 : Nat)) (.o (.s)) fun y1 =>
    .ret [.bool (y1.toList == { data := { toList := [] : Array UInt8 } : ByteArray }.toList)]) <|
  .br (x1 == (1 : Int)) (
    .ld false (x0.add (2 : Nat)) (.o (.s)) fun y1 =>
    .ret [.bool (y1.toList == { data := { toList := [] : Array UInt8 } : ByteArray }.toList)]) <|
  .br (x1 == (2 : Int)) (
    .ld false (x0.add (3 : Nat)) (.o (.s)) fun y1 =>
    .ret [.bool (y1.toList == { data := { toList := [] : Array UInt8 } : ByteArray }.toList)]) <|
  .br (x1 == (3 : Int)) (
    .ld false (x0.add (4 : Nat)) (.o (.s)) fun y1 =>
    .ret [.bool (y1.toList == { data := { toList := [] : Array UInt8 } : ByteArray }.toList)]) <|
  .br (x1 == (4 : Int)) (
    .ld false (x0.add (5 : Nat)) (.g [.s, .b, .l]) fun y1 =>
    .call false 70 [Sh1.val (.g [.s, .b, .l]) (y1), Sh1.val (.g [.s, .b, .l]) (({ data := { toList := [] : Array UInt8 } : ByteArray }), (false), (⟨(none), ((0 : Nat)), ((0 : Nat))⟩ : SlV), ())] (.v (.o (.b))) fun y2 =>
    .ret [.bool (y2)]) <|
  .br (x1 == (5 : Int)) (
    .ld false (x0.add (9 : Nat)) (.o (.l)) fun y1 =>
    .br ((↑y1.n : Int) == (0 : Int)) (
      .ld false (x0.add (10 : Nat)) (.o (.l)) fun y2 =>
      .ret [.bool ((↑y2.n : Int) == (0 : Int))]) <|
    .ret [.bool (false)]) <|
  .br (x1 == (6 : Int)) (
    .ld false (x0.add (11 : Nat)) (.g [.b, .l, .i .i64]) fun y1 =>
    .call false 71 [Sh1.val (.g [.b, .l, .i .i64]) (y1)] (.v (.o (.b))) fun y2 =>
    .ret [.bool (y2)]) <|
  .br (x1 == (7 : Int)) (
    .ld false (x0.add (8 : Nat)) (.o (.i .i64)) fun y1 =>
    .ret [.bool (y1 == (0 : Int))]) <|
  .ld false ((x0.add (14 : Nat)).add (0 : Nat)) (.o (.s)) fun y1 =>
  .br (y1.toList == { data := { toList := [] : Array UInt8 } : ByteArray }.toList) (
    .ld false ((x0.add (14 : Nat)).add (1 : Nat)) (.o (.s)) fun y2 =>
    .br (y2.toList == { data := { toList := [] : Array UInt8 } : ByteArray }.toList) (
      .ld false ((x0.add (14 : Nat)).add (2 : Nat)) (.g [.b, .l, .i .i64]) fun y3 =>
      .call false 71 [Sh1.val (.g [.b, .l, .i .i64]) (y3)] (.v (.o (.b))) fun y4 =>
      .ret [.bool (y4)]) <|
    .ret [.bool (false)]) <|
  .ret [.bool (false)]
theorem fI_fieldZero (x0 : Go.Addr) (x1 : Int) : fits Tryz.prog aI_fieldZero 38 [.pointer (some x0), .int .i64 (x1)] (tI_fieldZero x0 x1) :=
  ⟨Tryz.f38, Tryz.f38.body.getD .skip, by kernel_rfl, by kernel_rfl, by kernel_rfl, by kernel_rfl, by kernel_rfl, by kernel_rfl⟩
/-! slices.Contains[[]int,int] -/
def aX_Contains_int : An := ⟨[], [], []⟩
noncomputable def tX_Contains_int (x0 : SlV) (x1 : Int) : T :=
  .call false 72 [Sc.val .l (x0), .int .i64 (x1)] (.v (.o (.i .i64))) fun y1 =>
  .ret [.bool (decide (y1 ≥ (0 : Int)))]
theorem fX_Contains_int (x0 : SlV) (x1 : Int) : fits Tryz.prog aX_Contains_int 39 [Sc.val .l (x0), .int .i64 (x1)] (tX_Contains_int x0 x1) :=
  ⟨Tryz.f39, Tryz.f39.body.getD .skip, by kernel_rfl, by kernel_rfl, by kernel_rfl, by kernel_rfl, by kernel_rfl, by kernel_rfl⟩
/-! loop.example/g00793/impl.fieldOk -/
def aI_fieldOk : An := ⟨[], [], []⟩
noncomputable def tI_fieldOk (x0 : Go.Addr) (x1 : Int) : T :=
  .br (x1 == (0 : Int)) (
    .ld false (x0.add (1 : Nat)) (.o (.s)) fun y1 =>
    .call false 73 [.string (y1)] (.v (.o (.b))) fun y2 =>
    .ret [.bool (y2)]) <|
  .br (x1 == (1 : Int)) (
    .ld false (x0.add (2 : Nat)) (.o (.s)) fun y1 =>
    .call false 73 [.string (y1)] (.v (.o (.b))) fun y2 =>
    .ret [.bool (y2)]) <|
  .br (x1 == (2 : Int)) (
    .ld false (x0.add (3 : Nat)) (.o (.s)) fun y1 =>
    .call false 73 [.string (y1)] (.v (.o (.b))) fun y2 =>
    .ret [.bool (y2)]) <|
  .br (x1 == (3 : Int)) (
    .ld false (x0.add (4 : Nat)) (.o (.s)) fun y1 =>
    .call false 74 [.string (y1)] (.v (.o (.b))) fun y2 =>
    .ret [.bool (y2)]) <|
  .br (x1 == (4 : Int)) (
    .ld false (x0.add (5 : Nat)) (.g [.s, .b, .l]) fun y1 =>
    .call false 75 [Sh1.val (.g [.s, .b, .l]) (y1)] (.v (.o (.b))) fun y2 =>
    .ret [.bool (y2)]) <|
  .br (x1 == (5 : Int)) (
    .rg <|
    .ld true (x0.add (9 : Nat)) (.o (.l)) fun y1 =>
    .ld true (x0.add (10 : Nat)) (.o (.l)) fun y2 =>
    .call true 76 [Sc.val .l (y1), Sc.val .l (y2)] (.v (.o (.b))) fun y3 =>
    .ret [.bool (y3)]) <|
  .br (x1 == (6 : Int)) (
    .rg <|
    .ld true (x0.add (11 : Nat)) (.g [.b, .l, .i .i64]) fun y1 =>
    .call true 77 [Sh1.val (.g [.b, .l, .i .i64]) (y1)] (.v (.o (.b))) fun y2 =>
    .br (y2) (
      .ld true (x0.add (11 : Nat)) (.g [.b, .l, .i .i64]) fun y3 =>
      .ld true (x0.add (11 : Nat)) (.g [.b, .l, .i .i64]) fun y4 =>
      .call true 79 [Sh1.val (.g [.b, .l, .i .i64]) (y4)] (.v (.g [.b, .l, .i .i64])) fun y5 =>
      .call true 78 [Sh1.val (.g [.b, .l, .i .i64]) (y3), Sh1.val (.g [.b, .l, .i .i64]) (y5)] (.v (.o (.b))) fun y6 =>
      .ret [.bool (y6)]) <|
    .ret [.bool (false)]) <|
  .br (x1 == (7 : Int)) (
    .ld false (x0.add (8 : Nat)) (.o (.i .i64)) fun y1 =>
    .call false 80 [.int .i64 (y1)] (.v (.o (.b))) fun y2 =>
    .ret [.bool (y2)]) <|
  .ld false (x0.add (14 : Nat)) (.g [.s, .s, .b, .l, .i .i64]) fun y1 =>
  .call false 81 [Sh1.val (.g [.s, .s, .b, .l, .i .i64]) (y1)] (.v (.o (.b))) fun y2 =>
  .ret [.bool (y2)]
theorem fI_fieldOk (x0 : Go.Addr) (x1 : Int) : fits Tryz.prog aI_fieldOk 40 [.pointer (some x0), .int .i64 (x1)] (tI_fieldOk x0 x1) :=
  ⟨Tryz.f40, Tryz.f40.body.getD .skip, by kernel_rfl, by kernel_rfl, by kernel_rfl, by kernel_rfl, by kernel_rfl, by kernel_rfl⟩
/-! loop.example/g00793/laws.eqMoney -/
def aL_eqMoney : An := ⟨[], [], []⟩
noncomputable def tL_eqMoney (x0 : ByteArray × Bool × SlV × PUnit) (x1 : ByteArray × Bool × SlV × PUnit) : T :=
  .br (!ByteArray.toList x0.fst == ByteArray.toList x1.fst) (
    .ret [.bool (false)]) <|
  .call false 82 [Sh1.val (.g [.b, .l]) (x0.2), Sh1.val (.g [.b, .l]) (x1.2)] (.v (.o (.b))) fun y1 =>
  .br (!y1) (
    .ret [.bool (false)]) <|
  .ret [.bool (true)]
theorem fL_eqMoney (x0 : ByteArray × Bool × SlV × PUnit) (x1 : ByteArray × Bool × SlV × PUnit) : fits Tryz.prog aL_eqMoney 41 [Sh1.val (.g [.s, .b, .l]) (x0), Sh1.val (.g [.s, .b, .l]) (x1)] (tL_eqMoney x0 x1) :=
  ⟨Tryz.f41, Tryz.f41.body.getD .skip, by kernel_rfl, by kernel_rfl, by kernel_rfl, by kernel_rfl, by kernel_rfl, by kernel_rfl⟩
/-! loop.example/g00793/laws.eqStringS -/
def aL_eqStringS : An := ⟨[(4, [.s 5], [.o (.o (.i .i64))])], [], []⟩
noncomputable def tL_eqStringS (x0 : SlV) (x1 : SlV) : T :=
  .br ((↑x0.n : Int) != (↑x1.n : Int)) (
    .ret [.bool (false)]) <|
  .lp [.o (.o (.i .i64))] [.v (.int .i64 ((0 : Int)))] fun y1 =>
  .br (decide (y1.fst < (↑x0.n : Int))) (
    .rg <|
    .el (x0.a) (x0.n) (y1.fst) fun y2 =>
    .ld true (y2.add (Int.toNat y1.fst * (1 : Nat))) (.o (.s)) fun y3 =>
    .el (x1.a) (x1.n) (y1.fst) fun y4 =>
    .ld true (y4.add (Int.toNat y1.fst * (1 : Nat))) (.o (.s)) fun y5 =>
    .br (!y3.toList == y5.toList) (
      .ret [.bool (false)]) <|
    .nx 0 [.v (.int .i64 (Go.IntKind.i64.wrap (y1.fst + (1 : Int))))]) <|
  .ret [.bool (true)]
theorem fL_eqStringS (x0 : SlV) (x1 : SlV) : fits Tryz.prog aL_eqStringS 42 [Sc.val .l (x0), Sc.val .l (x1)] (tL_eqStringS x0 x1) :=
  ⟨Tryz.f42, Tryz.f42.body.getD .skip, by kernel_rfl, by kernel_rfl, by kernel_rfl, by kernel_rfl, by kernel_rfl, by kernel_rfl⟩
/-! loop.example/g00793/laws.eqIntS -/
def aL_eqIntS : An := ⟨[(4, [.s 5], [.o (.o (.i .i64))])], [], []⟩
noncomputable def tL_eqIntS (x0 : SlV) (x1 : SlV) : T :=
  .br ((↑x0.n : Int) != (↑x1.n : Int)) (
    .ret [.bool (false)]) <|
  .lp [.o (.o (.i .i64))] [.v (.int .i64 ((0 : Int)))] fun y1 =>
  .br (decide (y1.fst < (↑x0.n : Int))) (
    .rg <|
    .el (x0.a) (x0.n) (y1.fst) fun y2 =>
    .ld true (y2.add (Int.toNat y1.fst * (1 : Nat))) (.o (.i .i64)) fun y3 =>
    .el (x1.a) (x1.n) (y1.fst) fun y4 =>
    .ld true (y4.add (Int.toNat y1.fst * (1 : Nat))) (.o (.i .i64)) fun y5 =>
    .br (y3 != y5) (
      .ret [.bool (false)]) <|
    .nx 0 [.v (.int .i64 (Go.IntKind.i64.wrap (y1.fst + (1 : Int))))]) <|
  .ret [.bool (true)]
theorem fL_eqIntS (x0 : SlV) (x1 : SlV) : fits Tryz.prog aL_eqIntS 43 [Sc.val .l (x0), Sc.val .l (x1)] (tL_eqIntS x0 x1) :=
  ⟨Tryz.f43, Tryz.f43.body.getD .skip, by kernel_rfl, by kernel_rfl, by kernel_rfl, by kernel_rfl, by kernel_rfl, by kernel_rfl⟩
/-! loop.example/g00793/laws.eqDec -/
def aL_eqDec : An := ⟨[], [], []⟩
noncomputable def tL_eqDec (x0 : Bool × SlV × Int × PUnit) (x1 : Bool × SlV × Int × PUnit) : T :=
  .call false 82 [Sh1.val (.g [.b, .l]) ((x0.fst), x0.2.1, ()), Sh1.val (.g [.b, .l]) ((x1.fst), x1.2.1, ())] (.v (.o (.b))) fun y1 =>
  .br (!y1) (
    .ret [.bool (false)]) <|
  .br (x0.2.2.fst != x1.2.2.fst) (
    .ret [.bool (false)]) <|
  .ret [.bool (true)]
theorem fL_eqDec (x0 : Bool × SlV × Int × PUnit) (x1 : Bool × SlV × Int × PUnit) : fits Tryz.prog aL_eqDec 44 [Sh1.val (.g [.b, .l, .i .i64]) (x0), Sh1.val (.g [.b, .l, .i .i64]) (x1)] (tL_eqDec x0 x1) :=
  ⟨Tryz.f44, Tryz.f44.body.getD .skip, by kernel_rfl, by kernel_rfl, by kernel_rfl, by kernel_rfl, by kernel_rfl, by kernel_rfl⟩
/-! loop.example/g00793/laws.eqRate -/
def aL_eqRate : An := ⟨[], [], []⟩
noncomputable def tL_eqRate (x0 : ByteArray × ByteArray × Bool × SlV × Int × PUnit) (x1 : ByteArray × ByteArray × Bool × SlV × Int × PUnit) : T :=
  .br (!ByteArray.toList x0.fst == ByteArray.toList x1.fst) (
    .ret [.bool (false)]) <|
  .br (!ByteArray.toList x0.2.fst == ByteArray.toList x1.2.fst) (
    .ret [.bool (false)]) <|
  .call false 44 [Sh1.val (.g [.b, .l, .i .i64]) (x0.2.2), Sh1.val (.g [.b, .l, .i .i64]) (x1.2.2)] (.v (.o (.b))) fun y1 =>
  .br (!y1) (
    .ret [.bool (false)]) <|
  .ret [.bool (true)]
theorem fL_eqRate (x0 : ByteArray × ByteArray × Bool × SlV × Int × PUnit) (x1 : ByteArray × ByteArray × Bool × SlV × Int × PUnit) : fits Tryz.prog aL_eqRate 45 [Sh1.val (.g [.s, .s, .b, .l, .i .i64]) (x0), Sh1.val (.g [.s, .s, .b, .l, .i .i64]) (x1)] (tL_eqRate x0 x1) :=
  ⟨Tryz.f45, Tryz.f45.body.getD .skip, by kernel_rfl, by kernel_rfl, by kernel_rfl, by kernel_rfl, by kernel_rfl, by kernel_rfl⟩
/-! loop.example/g00793/spec.OpName -/
def aS_OpName : An := ⟨[], [], []⟩
noncomputable def tS_OpName (x0 : Int) : T :=
  .call false 21 [.int .i64 (x0)] (.v (.o (.b))) fun y1 =>
  .br (!y1) (
    .ret [.string ({ data := { toList := [] : Array UInt8 } : ByteArray })]) <|
  .rq ((0 : Int) ≤ x0 ∧ x0 < (↑(10 : Nat) : Int)) <|
  .xs [.string ({ data := { toList := [] : Array UInt8 } : ByteArray }), .string ({ data := { toList := [(111 : UInt8), (112 : UInt8), (101 : UInt8), (110 : UInt8)] : Array UInt8 } : ByteArray }), .string ({ data := { toList := [(112 : UInt8), (117 : UInt8), (116 : UInt8)] : Array UInt8 } : ByteArray }), .string ({ data := { toList := [(116 : UInt8), (97 : UInt8), (107 : UInt8), (101 : UInt8)] : Array UInt8 } : ByteArray }), .string ({ data := { toList := [(109 : UInt8), (111 : UInt8), (118 : UInt8), (101 : UInt8)] : Array UInt8 } : ByteArray }), .string ({ data := { toList := [(115 : UInt8), (119 : UInt8), (97 : UInt8), (112 : UInt8)] : Array UInt8 } : ByteArray }), .string ({ data := { toList := [(100 : UInt8), (101 : UInt8), (97 : UInt8), (108 : UInt8)] : Array UInt8 } : ByteArray }), .string ({ data := { toList := [(116 : UInt8), (97 : UInt8), (120 : UInt8)] : Array UInt8 } : ByteArray }), .string ({ data := { toList := [(99 : UInt8), (97 : UInt8), (115 : UInt8), (104 : UInt8)] : Array UInt8 } : ByteArray }), .string ({ data := { toList := [(114 : UInt8), (97 : UInt8), (116 : UInt8), (101 : UInt8)] : Array UInt8 } : ByteArray })] (x0.toNat * (1 : Nat)) (.o (.s)) fun y2 =>
  .ret [.string (y2)]
theorem fS_OpName (x0 : Int) : fits Tryz.prog aS_OpName 46 [.int .i64 (x0)] (tS_OpName x0) :=
  ⟨Tryz.f46, Tryz.f46.body.getD .skip, by kernel_rfl, by kernel_rfl, by kernel_rfl, by kernel_rfl, by kernel_rfl, by kernel_rfl⟩
/-! loop.example/g00793/spec.RateText -/
def aS_RateText : An := ⟨[], [], []⟩
noncomputable def tS_RateText (x0 : ByteArray × ByteArray × Bool × SlV × Int × PUnit) : T :=
  .call false 31 [Sh1.val (.g [.s, .s, .b, .l, .i .i64]) (x0)] (.v (.o (.b))) fun y1 =>
  .br (!y1) (
    .ret [.string ({ data := { toList := [] : Array UInt8 } : ByteArray })]) <|
  .rg <|
  .rq (ByteArray.size x0.fst + { data := { toList := [(32 : UInt8)] : Array UInt8 } : ByteArray }.size ≤ (9223372036854775807 : Nat)) <|
  .rq ((x0.fst ++ { data := { toList := [(32 : UInt8)] : Array UInt8 } : ByteArray }).size + ByteArray.size x0.2.fst ≤ (9223372036854775807 : Nat)) <|
  .rq ((x0.fst ++ { data := { toList := [(32 : UInt8)] : Array UInt8 } : ByteArray } ++ x0.2.fst).size + { data := { toList := [(32 : UInt8)] : Array UInt8 } : ByteArray }.size ≤ (9223372036854775807 : Nat)) <|
  .call true 28 [Sh1.val (.g [.b, .l, .i .i64]) (x0.2.2)] (.v (.o (.s))) fun y2 =>
  .rq ((x0.fst ++ { data := { toList := [(32 : UInt8)] : Array UInt8 } : ByteArray } ++ x0.2.fst ++ { data := { toList := [(32 : UInt8)] : Array UInt8 } : ByteArray }).size + y2.size ≤ (9223372036854775807 : Nat)) <|
  .ret [.string (x0.fst ++ { data := { toList := [(32 : UInt8)] : Array UInt8 } : ByteArray } ++ x0.2.fst ++ { data := { toList := [(32 : UInt8)] : Array UInt8 } : ByteArray } ++ y2)]
theorem fS_RateText (x0 : ByteArray × ByteArray × Bool × SlV × Int × PUnit) : fits Tryz.prog aS_RateText 47 [Sh1.val (.g [.s, .s, .b, .l, .i .i64]) (x0)] (tS_RateText x0) :=
  ⟨Tryz.f47, Tryz.f47.body.getD .skip, by kernel_rfl, by kernel_rfl, by kernel_rfl, by kernel_rfl, by kernel_rfl, by kernel_rfl⟩
/-! loop.example/g00793/spec.MoneyText -/
def aS_MoneyText : An := ⟨[], [], []⟩
noncomputable def tS_MoneyText (x0 : ByteArray × Bool × SlV × PUnit) : T :=
  .call false 59 [Sh1.val (.g [.s, .b, .l]) (x0)] (.v (.o (.b))) fun y1 =>
  .br (!y1) (
    .ret [.string ({ data := { toList := [] : Array UInt8 } : ByteArray })]) <|
  .rg <|
  .rq (ByteArray.size x0.fst + { data := { toList := [(32 : UInt8)] : Array UInt8 } : ByteArray }.size ≤ (9223372036854775807 : Nat)) <|
  .call true 83 [.string (x0.fst)] (.v (.o (.i .i64))) fun y2 =>
  .call true 28 [Sh1.val (.g [.b, .l, .i .i64]) ((x0.2.fst), x0.2.2.1, ((y2) : Int), ())] (.v (.o (.s))) fun y3 =>
  .rq ((x0.fst ++ { data := { toList := [(32 : UInt8)] : Array UInt8 } : ByteArray }).size + y3.size ≤ (9223372036854775807 : Nat)) <|
  .ret [.string (x0.fst ++ { data := { toList := [(32 : UInt8)] : Array UInt8 } : ByteArray } ++ y3)]
theorem fS_MoneyText (x0 : ByteArray × Bool × SlV × PUnit) : fits Tryz.prog aS_MoneyText 48 [Sh1.val (.g [.s, .b, .l]) (x0)] (tS_MoneyText x0) :=
  ⟨Tryz.f48, Tryz.f48.body.getD .skip, by kernel_rfl, by kernel_rfl, by kernel_rfl, by kernel_rfl, by kernel_rfl, by kernel_rfl⟩
/-! loop.example/g00793/spec.l22Deal -/
def aS_l22Deal : An := ⟨[(3, [.s 5, .s 11], [.a 9, .o (.o (.i .i64))])], [], []⟩
noncomputable def tS_l22Deal (x0 : SlV) (x1 : SlV) : T :=
  .lp [.a 9, .o (.o (.i .i64))] [.a 9 ((0 : Nat)) [], .v (.int .i64 ((0 : Int)))] fun y1 =>
  .br (decide (y1.2.fst < (↑x0.n : Int))) (
    .el (x0.a) (x0.n) (y1.2.fst) fun y2 =>
    .ld false (y2.add (Int.toNat y1.2.fst * (1 : Nat))) (.o (.s)) fun y3 =>
    .rq (y3.size + { data := { toList := [(58 : UInt8)] : Array UInt8 } : ByteArray }.size ≤ (9223372036854775807 : Nat)) <|
    .el (x1.a) (x1.n) (y1.2.fst) fun y4 =>
    .ld false (y4.add (Int.toNat y1.2.fst * (1 : Nat))) (.o (.i .i64)) fun y5 =>
    .call false 84 [.int .i64 (y5)] (.v (.o (.s))) fun y6 =>
    .rq ((y3 ++ { data := { toList := [(58 : UInt8)] : Array UInt8 } : ByteArray }).size + y6.size ≤ (9223372036854775807 : Nat)) <|
    .rq ([Go.Value.string (y3 ++ { data := { toList := [(58 : UInt8)] : Array UInt8 } : ByteArray } ++ y6)].length = (1 : Nat) * (1 : Nat)) <|
    .rq (one [Go.Value.string (y3 ++ { data := { toList := [(58 : UInt8)] : Array UInt8 } : ByteArray } ++ y6)] = true ∧ (y1.1.fst + (1 : Nat)) * (16 : Nat) ≤ (140737488355328 : Nat) ∧ y1.1.fst + (1 : Nat) ≤ (9223372036854775807 : Nat)) <|
    .nx 0 [.a 9 (y1.1.fst + (1 : Nat)) (y1.1.snd ++ [Go.Value.string (y3 ++ { data := { toList := [(58 : UInt8)] : Array UInt8 } : ByteArray } ++ y6)]), .v (.int .i64 (Go.IntKind.i64.wrap (y1.2.fst + (1 : Int))))]) <|
  .fz (y1.1.fst) (y1.1.snd) 9 fun b2 c2 =>
  .call false 52 [.slice (some { block := b2, off := (0 : Nat) : Go.Addr }) (y1.1.fst) (c2), .string ({ data := { toList := [(44 : UInt8)] : Array UInt8 } : ByteArray })] (.v (.o (.s))) fun y3 =>
  .ret [.string (y3)]
theorem fS_l22Deal (x0 : SlV) (x1 : SlV) : fits Tryz.prog aS_l22Deal 49 [Sc.val .l (x0), Sc.val .l (x1)] (tS_l22Deal x0 x1) :=
  ⟨Tryz.f49, Tryz.f49.body.getD .skip, by kernel_rfl, by kernel_rfl, by kernel_rfl, by kernel_rfl, by kernel_rfl, by kernel_rfl⟩
/-! loop.example/g00793/spec.Percent -/
def aS_Percent : An := ⟨[], [], []⟩
noncomputable def tS_Percent (x0 : Bool × SlV × Int × PUnit) : T :=
  .call false 27 [Sh1.val (.g [.b, .l, .i .i64]) (x0)] (.v (.o (.b))) fun y1 =>
  .br (!y1) (
    .ret [.string ({ data := { toList := [] : Array UInt8 } : ByteArray })]) <|
  .call false 29 [Sh1.val (.g [.b, .l, .i .i64]) (x0)] (.v (.g [.b, .l, .i .i64])) fun y2 =>
  .call false 63 [.int .i64 ((100 : Int))] (.v (.g [.b, .l])) fun y3 =>
  .call false 85 [Sh1.val (.g [.b, .l, .i .i64]) (y2), Sh1.val (.g [.b, .l, .i .i64]) ((y3.fst), y3.2.1, (((0 : Int)) : Int), ())] (.t [(.g [.b, .l, .i .i64]), (.o (.b))]) fun y4 =>
  .br (!y4.2.fst) (
    .ret [.string ({ data := { toList := [] : Array UInt8 } : ByteArray })]) <|
  .call false 29 [Sh1.val (.g [.b, .l, .i .i64]) (y4.1)] (.v (.g [.b, .l, .i .i64])) fun y5 =>
  .call false 28 [Sh1.val (.g [.b, .l, .i .i64]) (y5)] (.v (.o (.s))) fun y6 =>
  .rq (y6.size + { data := { toList := [(37 : UInt8)] : Array UInt8 } : ByteArray }.size ≤ (9223372036854775807 : Nat)) <|
  .ret [.string (y6 ++ { data := { toList := [(37 : UInt8)] : Array UInt8 } : ByteArray })]
theorem fS_Percent (x0 : Bool × SlV × Int × PUnit) : fits Tryz.prog aS_Percent 50 [Sh1.val (.g [.b, .l, .i .i64]) (x0)] (tS_Percent x0) :=
  ⟨Tryz.f50, Tryz.f50.body.getD .skip, by kernel_rfl, by kernel_rfl, by kernel_rfl, by kernel_rfl, by kernel_rfl, by kernel_rfl⟩
/-! loop.example/g00793/spec.RmName -/
def aS_RmName : An := ⟨[], [], []⟩
noncomputable def tS_RmName (x0 : Int) : T :=
  .call false 25 [.int .i64 (x0)] (.v (.o (.b))) fun y1 =>
  .br (!y1) (
    .ret [.string ({ data := { toList := [] : Array UInt8 } : ByteArray })]) <|
  .rq ((0 : Int) ≤ x0 ∧ x0 < (↑(7 : Nat) : Int)) <|
  .xs [.string ({ data := { toList := [(100 : UInt8), (111 : UInt8), (119 : UInt8), (110 : UInt8)] : Array UInt8 } : ByteArray }), .string ({ data := { toList := [(117 : UInt8), (112 : UInt8)] : Array UInt8 } : ByteArray }), .string ({ data := { toList := [(102 : UInt8), (108 : UInt8), (111 : UInt8), (111 : UInt8), (114 : UInt8)] : Array UInt8 } : ByteArray }), .string ({ data := { toList := [(99 : UInt8), (101 : UInt8), (105 : UInt8), (108 : UInt8)] : Array UInt8 } : ByteArray }), .string ({ data := { toList := [(104 : UInt8), (97 : UInt8), (108 : UInt8), (102 : UInt8), (100 : UInt8), (111 : UInt8), (119 : UInt8), (110 : UInt8)] : Array UInt8 } : ByteArray }), .string ({ data := { toList := [(104 : UInt8), (97 : UInt8), (108 : UInt8), (102 : UInt8), (117 : UInt8), (112 : UInt8)] : Array UInt8 } : ByteArray }), .string ({ data := { toList := [(104 : UInt8), (97 : UInt8), (108 : UInt8), (102 : UInt8), (101 : UInt8), (118 : UInt8), (101 : UInt8), (110 : UInt8)] : Array UInt8 } : ByteArray })] (x0.toNat * (1 : Nat)) (.o (.s)) fun y2 =>
  .ret [.string (y2)]
theorem fS_RmName (x0 : Int) : fits Tryz.prog aS_RmName 51 [.int .i64 (x0)] (tS_RmName x0) :=
  ⟨Tryz.f51, Tryz.f51.body.getD .skip, by kernel_rfl, by kernel_rfl, by kernel_rfl, by kernel_rfl, by kernel_rfl, by kernel_rfl⟩
/-! loop.example/g00793/spec.Join -/
def aS_Join : An := ⟨[(3, [.s 5, .s 10], [.o (.o (.s)), .o (.o (.i .i64))])], [], []⟩
noncomputable def tS_Join (x0 : SlV) (x1 : ByteArray) : T :=
  .lp [.o (.o (.s)), .o (.o (.i .i64))] [.v (.string ({ data := { toList := [] : Array UInt8 } : ByteArray })), .v (.int .i64 ((0 : Int)))] fun y1 =>
  .br (decide (y1.2.fst < (↑x0.n : Int))) (
    .el (x0.a) (x0.n) (y1.2.fst) fun y2 =>
    .ld false (y2.add (Int.toNat y1.2.fst * (1 : Nat))) (.o (.s)) fun y3 =>
    .br (decide (y1.2.fst > (0 : Int))) (
      .rq (ByteArray.size y1.fst + x1.size ≤ (9223372036854775807 : Nat)) <|
      .rq ((y1.fst ++ x1).size + y3.size ≤ (9223372036854775807 : Nat)) <|
      .nx 0 [.v (.string (y1.fst ++ x1 ++ y3)), .v (.int .i64 (Go.IntKind.i64.wrap (y1.2.fst + (1 : Int))))]) <|
    .rq (ByteArray.size y1.fst + y3.size ≤ (9223372036854775807 : Nat)) <|
    .nx 0 [.v (.string (y1.fst ++ y3)), .v (.int .i64 (Go.IntKind.i64.wrap (y1.2.fst + (1 : Int))))]) <|
  .ret [.string (y1.fst)]
theorem fS_Join (x0 : SlV) (x1 : ByteArray) : fits Tryz.prog aS_Join 52 [Sc.val .l (x0), .string (x1)] (tS_Join x0 x1) :=
  ⟨Tryz.f52, Tryz.f52.body.getD .skip, by kernel_rfl, by kernel_rfl, by kernel_rfl, by kernel_rfl, by kernel_rfl, by kernel_rfl⟩
/-! loop.example/g00793/impl.OpName -/
def aI_OpName : An := ⟨[], [], []⟩
noncomputable def tI_OpName (x0 : Int) : T :=
  .fz ((10 : Nat)) [.string ({ data := { toList := [] : Array UInt8 } : ByteArray }), .string ({ data := { toList := [(111 : UInt8), (112 : UInt8), (101 : UInt8), (110 : UInt8)] : Array UInt8 } : ByteArray }), .string ({ data := { toList := [(112 : UInt8), (117 : UInt8), (116 : UInt8)] : Array UInt8 } : ByteArray }), .string ({ data := { toList := [(116 : UInt8), (97 : UInt8), (107 : UInt8), (101 : UInt8)] : Array UInt8 } : ByteArray }), .string ({ data := { toList := [(109 : UInt8), (111 : UInt8), (118 : UInt8), (101 : UInt8)] : Array UInt8 } : ByteArray }), .string ({ data := { toList := [(115 : UInt8), (119 : UInt8), (97 : UInt8), (112 : UInt8)] : Array UInt8 } : ByteArray }), .string ({ data := { toList := [(100 : UInt8), (101 : UInt8), (97 : UInt8), (108 : UInt8)] : Array UInt8 } : ByteArray }), .string ({ data := { toList := [(116 : UInt8), (97 : UInt8), (120 : UInt8)] : Array UInt8 } : ByteArray }), .string ({ data := { toList := [(99 : UInt8), (97 : UInt8), (115 : UInt8), (104 : UInt8)] : Array UInt8 } : ByteArray }), .string ({ data := { toList := [(114 : UInt8), (97 : UInt8), (116 : UInt8), (101 : UInt8)] : Array UInt8 } : ByteArray })] 9 fun b1 c1 =>
  .call false 86 [.int .i64 (x0), .slice (some { block := b1, off := (0 : Nat) : Go.Addr }) ((10 : Nat)) (c1)] (.v (.o (.s))) fun y2 =>
  .ret [.string (y2)]
theorem fI_OpName (x0 : Int) : fits Tryz.prog aI_OpName 53 [.int .i64 (x0)] (tI_OpName x0) :=
  ⟨Tryz.f53, Tryz.f53.body.getD .skip, by kernel_rfl, by kernel_rfl, by kernel_rfl, by kernel_rfl, by kernel_rfl, by kernel_rfl⟩
/-! loop.example/g00793/impl.fieldText -/
def aI_fieldText : An := ⟨[], [], []⟩
noncomputable def tI_fieldText (x0 : Go.Addr) (x1 : Int) : T :=
  .br (x1 == (0 : Int)) (
    .ld false (x0.add (1 : Nat)) (.o (.s)) fun y1 =>
    .ret [.string (y1)]) <|
  .br (x1 == (1 : Int)) (
    .ld false (x0.add (2 : Nat)) (.o (.s)) fun y1 =>
    .ret [.string (y1)]) <|
  .br (x1 == (2 : Int)) (
    .ld false (x0.add (3 : Nat)) (.o (.s)) fun y1 =>
    .ret [.string (y1)]) <|
  .br (x1 == (3 : Int)) (
    .ld false (x0.add (4 : Nat)) (.o (.s)) fun y1 =>
    .ret [.string (y1)]) <|
  .br (x1 == (4 : Int)) (
    .ld false (x0.add (5 : Nat)) (.g [.s, .b, .l]) fun y1 =>
    .call false 87 [Sh1.val (.g [.s, .b, .l]) (y1)] (.v (.o (.s))) fun y2 =>
    .ret [.string (y2)]) <|
  .br (x1 == (5 : Int)) (
    .rg <|
    .ld true (x0.add (9 : Nat)) (.o (.l)) fun y1 =>
    .ld true (x0.add (10 : Nat)) (.o (.l)) fun y2 =>
    .call true 88 [Sc.val .l (y1), Sc.val .l (y2)] (.v (.o (.s))) fun y3 =>
    .ret [.string (y3)]) <|
  .br (x1 == (6 : Int)) (
    .ld false (x0.add (11 : Nat)) (.g [.b, .l, .i .i64]) fun y1 =>
    .call false 89 [Sh1.val (.g [.b, .l, .i .i64]) (y1)] (.v (.o (.s))) fun y2 =>
    .ret [.string (y2)]) <|
  .br (x1 == (7 : Int)) (
    .ld false (x0.add (8 : Nat)) (.o (.i .i64)) fun y1 =>
    .call false 90 [.int .i64 (y1)] (.v (.o (.s))) fun y2 =>
    .ret [.string (y2)]) <|
  .ld false (x0.add (14 : Nat)) (.g [.s, .s, .b, .l, .i .i64]) fun y1 =>
  .call false 91 [Sh1.val (.g [.s, .s, .b, .l, .i .i64]) (y1)] (.v (.o (.s))) fun y2 =>
  .ret [.string (y2)]
theorem fI_fieldText (x0 : Go.Addr) (x1 : Int) : fits Tryz.prog aI_fieldText 54 [.pointer (some x0), .int .i64 (x1)] (tI_fieldText x0 x1) :=
  ⟨Tryz.f54, Tryz.f54.body.getD .skip, by kernel_rfl, by kernel_rfl, by kernel_rfl, by kernel_rfl, by kernel_rfl, by kernel_rfl⟩
/-! loop.example/g00793/impl.Join -/
def aI_Join : An := ⟨[], [], []⟩
noncomputable def tI_Join (x0 : SlV) (x1 : ByteArray) : T :=
  .call false 92 [Sc.val .l (x0), .string (x1)] (.v (.o (.s))) fun y1 =>
  .ret [.string (y1)]
theorem fI_Join (x0 : SlV) (x1 : ByteArray) : fits Tryz.prog aI_Join 55 [Sc.val .l (x0), .string (x1)] (tI_Join x0 x1) :=
  ⟨Tryz.f55, Tryz.f55.body.getD .skip, by kernel_rfl, by kernel_rfl, by kernel_rfl, by kernel_rfl, by kernel_rfl, by kernel_rfl⟩
/-! loop.example/g00793/laws.szSigned -/
def aL_szSigned : An := ⟨[], [], []⟩
noncomputable def tL_szSigned (x0 : Bool × SlV × PUnit) (x1 : Int) : T :=
  .call false 17 [Sc.val .l (x0.2.1), .int .i64 (x1)] (.v (.o (.i .i64))) fun y1 =>
  .br (decide (y1 < (0 : Int))) (
    .ret [.int .i64 ((-1 : Int))]) <|
  .ret [.int .i64 (y1)]
theorem fL_szSigned (x0 : Bool × SlV × PUnit) (x1 : Int) : fits Tryz.prog aL_szSigned 56 [Sh1.val (.g [.b, .l]) (x0), .int .i64 (x1)] (tL_szSigned x0 x1) :=
  ⟨Tryz.f56, Tryz.f56.body.getD .skip, by kernel_rfl, by kernel_rfl, by kernel_rfl, by kernel_rfl, by kernel_rfl, by kernel_rfl⟩
/-! loop.example/g00793/spec.l01In -/
def aS_l01In : An := ⟨[], [], []⟩
noncomputable def tS_l01In (x0 : Int) (x1 : Int) (x2 : Int) : T :=
  .br (decide (x0 ≥ x1)) (
    .ret [.bool (decide (x0 ≤ x2))]) <|
  .ret [.bool (false)]
theorem fS_l01In (x0 : Int) (x1 : Int) (x2 : Int) : fits Tryz.prog aS_l01In 57 [.int .i64 (x0), .int .i64 (x1), .int .i64 (x2)] (tS_l01In x0 x1 x2) :=
  ⟨Tryz.f57, Tryz.f57.body.getD .skip, by kernel_rfl, by kernel_rfl, by kernel_rfl, by kernel_rfl, by kernel_rfl, by kernel_rfl⟩
/-! loop.example/g00793/spec.l01All -/
def aS_l01All : An := ⟨[(2, [.s 11], [.o (.o (.i .i64))])], [], []⟩
noncomputable def tS_l01All (x0 : ByteArray) (x1 : Int) (x2 : Int) (x3 : Int) (x4 : Int) : T :=
  .lp [.o (.o (.i .i64))] [.v (.int .i64 ((0 : Int)))] fun y1 =>
  .br (decide (y1.fst < (↑x0.size : Int))) (
    .rq ((0 : Int) ≤ y1.fst ∧ y1.fst < (↑x0.size : Int)) <|
    .br (decide (at0 x0 (Int.toNat y1.fst) < x1)) (
      .rq ((0 : Int) ≤ y1.fst ∧ y1.fst < (↑x0.size : Int)) <|
      .br (decide (at0 x0 (Int.toNat y1.fst) < x3)) (
        .ret [.bool (false)]) <|
      .rq ((0 : Int) ≤ y1.fst ∧ y1.fst < (↑x0.size : Int)) <|
      .br (decide (at0 x0 (Int.toNat y1.fst) > x4)) (
        .ret [.bool (false)]) <|
      .nx 0 [.v (.int .i64 (Go.IntKind.i64.wrap (y1.fst + (1 : Int))))]) <|
    .rq ((0 : Int) ≤ y1.fst ∧ y1.fst < (↑x0.size : Int)) <|
    .br (decide (at0 x0 (Int.toNat y1.fst) > x2)) (
      .rq ((0 : Int) ≤ y1.fst ∧ y1.fst < (↑x0.size : Int)) <|
      .br (decide (at0 x0 (Int.toNat y1.fst) < x3)) (
        .ret [.bool (false)]) <|
      .rq ((0 : Int) ≤ y1.fst ∧ y1.fst < (↑x0.size : Int)) <|
      .br (decide (at0 x0 (Int.toNat y1.fst) > x4)) (
        .ret [.bool (false)]) <|
      .nx 0 [.v (.int .i64 (Go.IntKind.i64.wrap (y1.fst + (1 : Int))))]) <|
    .nx 0 [.v (.int .i64 (Go.IntKind.i64.wrap (y1.fst + (1 : Int))))]) <|
  .ret [.bool (decide ((↑x0.size : Int) > (0 : Int)))]
theorem fS_l01All (x0 : ByteArray) (x1 : Int) (x2 : Int) (x3 : Int) (x4 : Int) : fits Tryz.prog aS_l01All 58 [.string (x0), .int .u8 (x1), .int .u8 (x2), .int .u8 (x3), .int .u8 (x4)] (tS_l01All x0 x1 x2 x3 x4) :=
  ⟨Tryz.f58, Tryz.f58.body.getD .skip, by kernel_rfl, by kernel_rfl, by kernel_rfl, by kernel_rfl, by kernel_rfl, by kernel_rfl⟩
/-! loop.example/g00793/spec.MoneyOk -/
def aS_MoneyOk : An := ⟨[], [], []⟩
noncomputable def tS_MoneyOk (x0 : ByteArray × Bool × SlV × PUnit) : T :=
  .call false 67 [.string (x0.fst)] (.v (.o (.b))) fun y1 =>
  .br (y1) (
    .call false 93 [Sh1.val (.g [.b, .l]) (x0.2)] (.v (.o (.b))) fun y2 =>
    .br (y2) (
      .ret [.bool (decide ((↑x0.2.2.1.n : Int) ≤ (4 : Int)))]) <|
    .ret [.bool (false)]) <|
  .ret [.bool (false)]
theorem fS_MoneyOk (x0 : ByteArray × Bool × SlV × PUnit) : fits Tryz.prog aS_MoneyOk 59 [Sh1.val (.g [.s, .b, .l]) (x0)] (tS_MoneyOk x0) :=
  ⟨Tryz.f59, Tryz.f59.body.getD .skip, by kernel_rfl, by kernel_rfl, by kernel_rfl, by kernel_rfl, by kernel_rfl, by kernel_rfl⟩
/-! loop.example/g00793/spec.l21Names -/
def aS_l21Names : An := ⟨[(2, [.s 7], [.o (.o (.i .i64))])], [], []⟩
noncomputable def tS_l21Names (x0 : SlV) : T :=
  .lp [.o (.o (.i .i64))] [.v (.int .i64 ((0 : Int)))] fun y1 =>
  .br (decide (y1.fst < (↑x0.n : Int))) (
    .el (x0.a) (x0.n) (y1.fst) fun y2 =>
    .ld false (y2.add (Int.toNat y1.fst * (1 : Nat))) (.o (.s)) fun y3 =>
    .call false 22 [.string (y3)] (.v (.o (.b))) fun y4 =>
    .br (!y4) (
      .ret [.bool (false)]) <|
    .nx 0 [.v (.int .i64 (Go.IntKind.i64.wrap (y1.fst + (1 : Int))))]) <|
  .ret [.bool (true)]
theorem fS_l21Names (x0 : SlV) : fits Tryz.prog aS_l21Names 60 [Sc.val .l (x0)] (tS_l21Names x0) :=
  ⟨Tryz.f60, Tryz.f60.body.getD .skip, by kernel_rfl, by kernel_rfl, by kernel_rfl, by kernel_rfl, by kernel_rfl, by kernel_rfl⟩
/-! loop.example/g00793/spec.DecOk -/
def aS_DecOk : An := ⟨[], [], []⟩
noncomputable def tS_DecOk (x0 : Bool × SlV × Int × PUnit) : T :=
  .call false 93 [Sh1.val (.g [.b, .l]) ((x0.fst), x0.2.1, ())] (.v (.o (.b))) fun y1 =>
  .br (y1) (
    .br (decide ((↑x0.2.1.n : Int) ≤ (6 : Int))) (
      .call false 57 [.int .i64 (x0.2.2.fst), .int .i64 ((0 : Int)), .int .i64 ((30 : Int))] (.v (.o (.b))) fun y2 =>
      .ret [.bool (y2)]) <|
    .ret [.bool (false)]) <|
  .ret [.bool (false)]
theorem fS_DecOk (x0 : Bool × SlV × Int × PUnit) : fits Tryz.prog aS_DecOk 61 [Sh1.val (.g [.b, .l, .i .i64]) (x0)] (tS_DecOk x0) :=
  ⟨Tryz.f61, Tryz.f61.body.getD .skip, by kernel_rfl, by kernel_rfl, by kernel_rfl, by kernel_rfl, by kernel_rfl, by kernel_rfl⟩
/-! loop.example/g00793/spec.DecCmp -/
def aS_DecCmp : An := ⟨[], [], []⟩
noncomputable def tS_DecCmp (x0 : Bool × SlV × Int × PUnit) (x1 : Bool × SlV × Int × PUnit) : T :=
  .call false 61 [Sh1.val (.g [.b, .l, .i .i64]) (x0)] (.v (.o (.b))) fun y1 =>
  .br (!y1) (
    .ret [.int .i64 ((0 : Int))]) <|
  .call false 61 [Sh1.val (.g [.b, .l, .i .i64]) (x1)] (.v (.o (.b))) fun y2 =>
  .br (!y2) (
    .ret [.int .i64 ((0 : Int))]) <|
  .call false 94 [Sh1.val (.g [.b, .l, .i .i64]) (x0), Sh1.val (.g [.b, .l, .i .i64]) (x1)] (.t [(.g [.b, .l]), (.g [.b, .l]), (.o (.i .i64))]) fun y3 =>
  .call false 95 [Sh1.val (.g [.b, .l]) (y3.1), Sh1.val (.g [.b, .l]) (y3.2.1)] (.v (.o (.i .i64))) fun y4 =>
  .ret [.int .i64 (y4)]
theorem fS_DecCmp (x0 : Bool × SlV × Int × PUnit) (x1 : Bool × SlV × Int × PUnit) : fits Tryz.prog aS_DecCmp 62 [Sh1.val (.g [.b, .l, .i .i64]) (x0), Sh1.val (.g [.b, .l, .i .i64]) (x1)] (tS_DecCmp x0 x1) :=
  ⟨Tryz.f62, Tryz.f62.body.getD .skip, by kernel_rfl, by kernel_rfl, by kernel_rfl, by kernel_rfl, by kernel_rfl, by kernel_rfl⟩
/-! loop.example/g00793/spec.IntOf -/
def aS_IntOf : An := ⟨[], [], []⟩
noncomputable def tS_IntOf (x0 : Int) : T :=
  .br (x0 == (-9223372036854775808 : Int)) (
    .fz ((3 : Nat)) [.int .i64 ((854775808 : Int)), .int .i64 ((223372036 : Int)), .int .i64 ((9 : Int))] 3 fun b1 c1 =>
    .call false 96 [.bool (true), .slice (some { block := b1, off := (0 : Nat) : Go.Addr }) ((3 : Nat)) (c1)] (.v (.g [.b, .l])) fun y2 =>
    .ret [Sh1.val (.g [.b, .l]) (y2)]) <|
  .br (decide (x0 < (0 : Int))) (
    .call false 97 [.int .i64 (Go.IntKind.i64.wrap ((0 : Int) - x0))] (.v (.o (.l))) fun y1 =>
    .call false 96 [.bool (true), Sc.val .l (y1)] (.v (.g [.b, .l])) fun y2 =>
    .ret [Sh1.val (.g [.b, .l]) (y2)]) <|
  .call false 97 [.int .i64 (x0)] (.v (.o (.l))) fun y1 =>
  .call false 96 [.bool (false), Sc.val .l (y1)] (.v (.g [.b, .l])) fun y2 =>
  .ret [Sh1.val (.g [.b, .l]) (y2)]
theorem fS_IntOf (x0 : Int) : fits Tryz.prog aS_IntOf 63 [.int .i64 (x0)] (tS_IntOf x0) :=
  ⟨Tryz.f63, Tryz.f63.body.getD .skip, by kernel_rfl, by kernel_rfl, by kernel_rfl, by kernel_rfl, by kernel_rfl, by kernel_rfl⟩
/-! loop.example/g00793/spec.Pad -/
def aS_Pad : An := ⟨[(3, [.s 0], [.o (.o (.s))])], [], []⟩
noncomputable def tS_Pad (x0 : ByteArray) (x1 : Int) : T :=
  .br (decide (x1 > (2000 : Int))) (
    .ret [.string (x0)]) <|
  .lp [.o (.o (.s))] [.v (.string (x0))] fun y1 =>
  .br (decide ((↑(ByteArray.size y1.fst) : Int) < x1)) (
    .rq ({ data := { toList := [(48 : UInt8)] : Array UInt8 } : ByteArray }.size + ByteArray.size y1.fst ≤ (9223372036854775807 : Nat)) <|
    .nx 0 [.v (.string ({ data := { toList := [(48 : UInt8)] : Array UInt8 } : ByteArray } ++ y1.fst))]) <|
  .ret [.string (y1.fst)]
theorem fS_Pad (x0 : ByteArray) (x1 : Int) : fits Tryz.prog aS_Pad 64 [.string (x0), .int .i64 (x1)] (tS_Pad x0 x1) :=
  ⟨Tryz.f64, Tryz.f64.body.getD .skip, by kernel_rfl, by kernel_rfl, by kernel_rfl, by kernel_rfl, by kernel_rfl, by kernel_rfl⟩
/-! loop.example/g00793/spec.NatText -/
def aS_NatText : An := ⟨[(7, [.s 3, .s 4], [.o (.o (.s)), .o (.o (.i .i64))])], [], []⟩
noncomputable def tS_NatText (x0 : SlV) : T :=
  .call false 98 [Sc.val .l (x0)] (.v (.o (.b))) fun y1 =>
  .br (!y1) (
    .ret [.string ({ data := { toList := [] : Array UInt8 } : ByteArray })]) <|
  .br ((↑x0.n : Int) == (0 : Int)) (
    .ret [.string ({ data := { toList := [(48 : UInt8)] : Array UInt8 } : ByteArray })]) <|
  .el (x0.a) (x0.n) (Go.IntKind.i64.wrap ((↑x0.n : Int) - (1 : Int))) fun y2 =>
  .ld false (y2.add ((Go.IntKind.i64.wrap ((↑x0.n : Int) - (1 : Int))).toNat * (1 : Nat))) (.o (.i .i64)) fun y3 =>
  .call false 84 [.int .i64 (y3)] (.v (.o (.s))) fun y4 =>
  .lp [.o (.o (.s)), .o (.o (.i .i64))] [.v (.string (y4)), .v (.int .i64 (Go.IntKind.i64.wrap ((↑x0.n : Int) - (2 : Int))))] fun y5 =>
  .br (decide (y5.2.fst ≥ (0 : Int))) (
    .el (x0.a) (x0.n) (y5.2.fst) fun y6 =>
    .ld false (y6.add (Int.toNat y5.2.fst * (1 : Nat))) (.o (.i .i64)) fun y7 =>
    .call false 84 [.int .i64 (y7)] (.v (.o (.s))) fun y8 =>
    .call false 64 [.string (y8), .int .i64 ((9 : Int))] (.v (.o (.s))) fun y9 =>
    .rq (ByteArray.size y5.fst + y9.size ≤ (9223372036854775807 : Nat)) <|
    .nx 0 [.v (.string (y5.fst ++ y9)), .v (.int .i64 (Go.IntKind.i64.wrap (y5.2.fst - (1 : Int))))]) <|
  .ret [.string (y5.fst)]
theorem fS_NatText (x0 : SlV) : fits Tryz.prog aS_NatText 65 [Sc.val .l (x0)] (tS_NatText x0) :=
  ⟨Tryz.f65, Tryz.f65.body.getD .skip, by kernel_rfl, by kernel_rfl, by kernel_rfl, by kernel_rfl, by kernel_rfl, by kernel_rfl⟩
/-! loop.example/g00793/spec.DecAt -/
def aS_DecAt : An := ⟨[], [], []⟩
noncomputable def tS_DecAt (x0 : Bool × SlV × Int × PUnit) (x1 : Int) : T :=
  .call false 61 [Sh1.val (.g [.b, .l, .i .i64]) (x0)] (.v (.o (.b))) fun y1 =>
  .br (!y1) (
    .ret [Sh1.val (.g [.b, .l, .i .i64]) ((false), (⟨(none), ((0 : Nat)), ((0 : Nat))⟩ : SlV), (((0 : Int)) : Int), ()), .bool (false)]) <|
  .call false 57 [.int .i64 (x1), .int .i64 ((0 : Int)), .int .i64 ((30 : Int))] (.v (.o (.b))) fun y2 =>
  .br (!y2) (
    .ret [Sh1.val (.g [.b, .l, .i .i64]) ((false), (⟨(none), ((0 : Nat)), ((0 : Nat))⟩ : SlV), (((0 : Int)) : Int), ()), .bool (false)]) <|
  .br (decide (x1 ≥ x0.2.2.fst)) (
    .rg <|
    .call true 101 [.int .i64 (Go.IntKind.i64.wrap (x1 - x0.2.2.fst))] (.v (.g [.b, .l])) fun y3 =>
    .call true 100 [Sh1.val (.g [.b, .l]) ((x0.fst), x0.2.1, ()), Sh1.val (.g [.b, .l]) (y3)] (.v (.g [.b, .l])) fun y4 =>
    .call true 99 [Sh1.val (.g [.b, .l]) (y4), .int .i64 (x1)] (.t [(.g [.b, .l, .i .i64]), (.o (.b))]) fun y5 =>
    .ret [Sh1.val (.g [.b, .l, .i .i64]) (y5.1), .bool (y5.2.fst)]) <|
  .call false 102 [Sc.val .l (x0.2.1), .int .i64 (Go.IntKind.i64.wrap (x0.2.2.fst - x1))] (.t [(.o (.l)), (.o (.l))]) fun y3 =>
  .br (decide ((↑y3.2.1.n : Int) > (0 : Int))) (
    .ret [Sh1.val (.g [.b, .l, .i .i64]) ((false), (⟨(none), ((0 : Nat)), ((0 : Nat))⟩ : SlV), (((0 : Int)) : Int), ()), .bool (false)]) <|
  .call false 99 [Sh1.val (.g [.b, .l]) ((x0.fst), y3.1, ()), .int .i64 (x1)] (.t [(.g [.b, .l, .i .i64]), (.o (.b))]) fun y4 =>
  .ret [Sh1.val (.g [.b, .l, .i .i64]) (y4.1), .bool (y4.2.fst)]
theorem fS_DecAt (x0 : Bool × SlV × Int × PUnit) (x1 : Int) : fits Tryz.prog aS_DecAt 66 [Sh1.val (.g [.b, .l, .i .i64]) (x0), .int .i64 (x1)] (tS_DecAt x0 x1) :=
  ⟨Tryz.f66, Tryz.f66.body.getD .skip, by kernel_rfl, by kernel_rfl, by kernel_rfl, by kernel_rfl, by kernel_rfl, by kernel_rfl⟩
/-! loop.example/g00793/spec.CurKnown -/
def aS_CurKnown : An := ⟨[], [], []⟩
noncomputable def tS_CurKnown (x0 : ByteArray) : T :=
  .call false 103 [.string (x0)] (.v (.g [.s, .s, .i .i64, .i .i64])) fun y1 =>
  .ret [.bool (!ByteArray.toList y1.fst == { data := { toList := [] : Array UInt8 } : ByteArray }.toList)]
theorem fS_CurKnown (x0 : ByteArray) : fits Tryz.prog aS_CurKnown 67 [.string (x0)] (tS_CurKnown x0) :=
  ⟨Tryz.f67, Tryz.f67.body.getD .skip, by kernel_rfl, by kernel_rfl, by kernel_rfl, by kernel_rfl, by kernel_rfl, by kernel_rfl⟩
/-! loop.example/g00793/spec.IntSign -/
def aS_IntSign : An := ⟨[], [], []⟩
noncomputable def tS_IntSign (x0 : Bool × SlV × PUnit) : T :=
  .call false 95 [Sh1.val (.g [.b, .l]) (x0), Sh1.val (.g [.b, .l]) ((false), (⟨(none), ((0 : Nat)), ((0 : Nat))⟩ : SlV), ())] (.v (.o (.i .i64))) fun y1 =>
  .ret [.int .i64 (y1)]
theorem fS_IntSign (x0 : Bool × SlV × PUnit) : fits Tryz.prog aS_IntSign 68 [Sh1.val (.g [.b, .l]) (x0)] (tS_IntSign x0) :=
  ⟨Tryz.f68, Tryz.f68.body.getD .skip, by kernel_rfl, by kernel_rfl, by kernel_rfl, by kernel_rfl, by kernel_rfl, by kernel_rfl⟩
/-! loop.example/g00793/laws.toSigned -/
def aL_toSigned : An := ⟨[], [], []⟩
noncomputable def tL_toSigned (x0 : Bool × SlV × PUnit) : T :=
  .call false 34 [Sc.val .l (x0.2.1)] (.v (.o (.l))) fun y1 =>
  .ret [Sh1.val (.g [.b, .l]) ((x0.fst), y1, ())]
theorem fL_toSigned (x0 : Bool × SlV × PUnit) : fits Tryz.prog aL_toSigned 69 [Sh1.val (.g [.b, .l]) (x0)] (tL_toSigned x0) :=
  ⟨Tryz.f69, Tryz.f69.body.getD .skip, by kernel_rfl, by kernel_rfl, by kernel_rfl, by kernel_rfl, by kernel_rfl, by kernel_rfl⟩
/-! loop.example/g00793/impl.MoneySame -/
def aI_MoneySame : An := ⟨[], [], []⟩
noncomputable def tI_MoneySame (x0 : ByteArray × Bool × SlV × PUnit) (x1 : ByteArray × Bool × SlV × PUnit) : T :=
  .br (ByteArray.toList x0.fst == ByteArray.toList x1.fst) (
    .call false 104 [Sh1.val (.g [.b, .l]) (x0.2), Sh1.val (.g [.b, .l]) (x1.2)] (.v (.o (.b))) fun y1 =>
    .ret [.bool (y1)]) <|
  .ret [.bool (false)]
theorem fI_MoneySame (x0 : ByteArray × Bool × SlV × PUnit) (x1 : ByteArray × Bool × SlV × PUnit) : fits Tryz.prog aI_MoneySame 70 [Sh1.val (.g [.s, .b, .l]) (x0), Sh1.val (.g [.s, .b, .l]) (x1)] (tI_MoneySame x0 x1) :=
  ⟨Tryz.f70, Tryz.f70.body.getD .skip, by kernel_rfl, by kernel_rfl, by kernel_rfl, by kernel_rfl, by kernel_rfl, by kernel_rfl⟩
/-! loop.example/g00793/impl.decIsZero -/
def aI_decIsZero : An := ⟨[], [], []⟩
noncomputable def tI_decIsZero (x0 : Bool × SlV × Int × PUnit) : T :=
  .call false 78 [Sh1.val (.g [.b, .l, .i .i64]) (x0), Sh1.val (.g [.b, .l, .i .i64]) ((false), (⟨(none), ((0 : Nat)), ((0 : Nat))⟩ : SlV), (((0 : Int)) : Int), ())] (.v (.o (.b))) fun y1 =>
  .ret [.bool (y1)]
theorem fI_decIsZero (x0 : Bool × SlV × Int × PUnit) : fits Tryz.prog aI_decIsZero 71 [Sh1.val (.g [.b, .l, .i .i64]) (x0)] (tI_decIsZero x0) :=
  ⟨Tryz.f71, Tryz.f71.body.getD .skip, by kernel_rfl, by kernel_rfl, by kernel_rfl, by kernel_rfl, by kernel_rfl, by kernel_rfl⟩
/-! slices.Index[[]int,int] -/
def aX_Index_int : An := ⟨[(2, [.s 8], [.o (.o (.i .i64))])], [], []⟩
noncomputable def tX_Index_int (x0 : SlV) (x1 : Int) : T :=
  .lp [.o (.o (.i .i64))] [.v (.int .i64 ((0 : Int)))] fun y1 =>
  .br (decide (y1.fst < (↑x0.n : Int))) (
    .el (x0.a) (x0.n) (y1.fst) fun y2 =>
    .ld false (y2.add (Int.toNat y1.fst * (1 : Nat))) (.o (.i .i64)) fun y3 =>
    .br (x1 == y3) (
      .ret [.int .i64 (y1.fst)]) <|
    .nx 0 [.v (.int .i64 (Go.IntKind.i64.wrap (y1.fst + (1 : Int))))]) <|
  .ret [.int .i64 ((-1 : Int))]
theorem fX_Index_int (x0 : SlV) (x1 : Int) : fits Tryz.prog aX_Index_int 72 [Sc.val .l (x0), .int .i64 (x1)] (tX_Index_int x0 x1) :=
  ⟨Tryz.f72, Tryz.f72.body.getD .skip, by kernel_rfl, by kernel_rfl, by kernel_rfl, by kernel_rfl, by kernel_rfl, by kernel_rfl⟩
/-! loop.example/g00793/impl.IsWord -/
def aI_IsWord : An := ⟨[(4, [.s 3], [.o (.o (.i .i64))])], [], []⟩
noncomputable def tI_IsWord (x0 : ByteArray) : T :=
  .br (decide ((↑x0.size : Int) < (1 : Int))) (
    .ret [.bool (false)]) <|
  .br (decide ((↑x0.size : Int) > (12 : Int))) (
    .ret [.bool (false)]) <|
  .rq ((0 : Int) ≤ (0 : Int) ∧ (0 : Int) < (↑x0.size : Int)) <|
  .call false 105 [.int .u8 (at0 x0 (Int.toNat (0 : Int)))] (.v (.o (.b))) fun y1 =>
  .br (!y1) (
    .ret [.bool (false)]) <|
  .lp [.o (.o (.i .i64))] [.v (.int .i64 ((1 : Int)))] fun y2 =>
  .br (decide (y2.fst < (↑x0.size : Int))) (
    .rq ((0 : Int) ≤ y2.fst ∧ y2.fst < (↑x0.size : Int)) <|
    .call false 105 [.int .u8 (at0 x0 (Int.toNat y2.fst))] (.v (.o (.b))) fun y3 =>
    .br (!y3) (
      .rq ((0 : Int) ≤ y2.fst ∧ y2.fst < (↑x0.size : Int)) <|
      .call false 106 [.int .u8 (at0 x0 (Int.toNat y2.fst))] (.v (.o (.b))) fun y4 =>
      .br (!y4) (
        .ret [.bool (false)]) <|
      .nx 0 [.v (.int .i64 (Go.IntKind.i64.wrap (y2.fst + (1 : Int))))]) <|
    .nx 0 [.v (.int .i64 (Go.IntKind.i64.wrap (y2.fst + (1 : Int))))]) <|
  .ret [.bool (true)]
theorem fI_IsWord (x0 : ByteArray) : fits Tryz.prog aI_IsWord 73 [.string (x0)] (tI_IsWord x0) :=
  ⟨Tryz.f73, Tryz.f73.body.getD .skip, by kernel_rfl, by kernel_rfl, by kernel_rfl, by kernel_rfl, by kernel_rfl, by kernel_rfl⟩
/-! loop.example/g00793/impl.IsCode -/
def aI_IsCode : An := ⟨[(4, [.s 3], [.o (.o (.i .i64))])], [], []⟩
noncomputable def tI_IsCode (x0 : ByteArray) : T :=
  .br ((↑x0.size : Int) != (3 : Int)) (
    .ret [.bool (false)]) <|
  .lp [.o (.o (.i .i64))] [.v (.int .i64 ((0 : Int)))] fun y1 =>
  .br (decide (y1.fst < (3 : Int))) (
    .rq ((0 : Int) ≤ y1.fst ∧ y1.fst < (↑x0.size : Int)) <|
    .br (decide (at0 x0 (Int.toNat y1.fst) < (65 : Int))) (
      .ret [.bool (false)]) <|
    .rq ((0 : Int) ≤ y1.fst ∧ y1.fst < (↑x0.size : Int)) <|
    .br (decide (at0 x0 (Int.toNat y1.fst) > (90 : Int))) (
      .ret [.bool (false)]) <|
    .nx 0 [.v (.int .i64 (Go.IntKind.i64.wrap (y1.fst + (1 : Int))))]) <|
  .ret [.bool (true)]
theorem fI_IsCode (x0 : ByteArray) : fits Tryz.prog aI_IsCode 74 [.string (x0)] (tI_IsCode x0) :=
  ⟨Tryz.f74, Tryz.f74.body.getD .skip, by kernel_rfl, by kernel_rfl, by kernel_rfl, by kernel_rfl, by kernel_rfl, by kernel_rfl⟩
/-! loop.example/g00793/impl.payable -/
def aI_payable : An := ⟨[], [], []⟩
noncomputable def tI_payable (x0 : ByteArray × Bool × SlV × PUnit) : T :=
  .call false 107 [Sh1.val (.g [.s, .b, .l]) (x0)] (.v (.o (.b))) fun y1 =>
  .br (y1) (
    .ret [.bool (!x0.2.fst)]) <|
  .ret [.bool (false)]
theorem fI_payable (x0 : ByteArray × Bool × SlV × PUnit) : fits Tryz.prog aI_payable 75 [Sh1.val (.g [.s, .b, .l]) (x0)] (tI_payable x0) :=
  ⟨Tryz.f75, Tryz.f75.body.getD .skip, by kernel_rfl, by kernel_rfl, by kernel_rfl, by kernel_rfl, by kernel_rfl, by kernel_rfl⟩
/-! loop.example/g00793/impl.dealOk -/
def aI_dealOk : An := ⟨[], [], []⟩
noncomputable def tI_dealOk (x0 : SlV) (x1 : SlV) : T :=
  .br ((↑x0.n : Int) != (↑x1.n : Int)) (
    .ret [.bool (false)]) <|
  .br (decide ((↑x1.n : Int) < (1 : Int))) (
    .ret [.bool (false)]) <|
  .br (decide ((↑x1.n : Int) > (30 : Int))) (
    .ret [.bool (false)]) <|
  .call false 108 [Sc.val .l (x0)] (.v (.o (.b))) fun y1 =>
  .br (!y1) (
    .ret [.bool (false)]) <|
  .call false 109 [Sc.val .l (x1), (Go.Value.func (Go.Fn.func (110 : Nat)) { toList := [] : Array Go.Value } { toList := [] : Array Go.Value })] (.v (.o (.b))) fun y2 =>
  .ret [.bool (!y2)]
theorem fI_dealOk (x0 : SlV) (x1 : SlV) : fits Tryz.prog aI_dealOk 76 [Sc.val .l (x0), Sc.val .l (x1)] (tI_dealOk x0 x1) :=
  ⟨Tryz.f76, Tryz.f76.body.getD .skip, by kernel_rfl, by kernel_rfl, by kernel_rfl, by kernel_rfl, by kernel_rfl, by kernel_rfl⟩
/-! loop.example/g00793/impl.TaxRateOk -/
def aI_TaxRateOk : An := ⟨[], [], []⟩
noncomputable def tI_TaxRateOk (x0 : Bool × SlV × Int × PUnit) : T :=
  .rg <|
  .call true 111 [Sh1.val (.g [.b, .l, .i .i64]) (x0)] (.v (.o (.b))) fun y1 =>
  .br (y1) (
    .br (decide ((↑x0.2.1.n : Int) ≤ (1 : Int))) (
      .br (!x0.fst) (
        .call true 113 [.int .i64 ((1 : Int))] (.v (.g [.b, .l])) fun y2 =>
        .call true 112 [Sh1.val (.g [.b, .l, .i .i64]) (x0), Sh1.val (.g [.b, .l, .i .i64]) ((y2.fst), y2.2.1, (((0 : Int)) : Int), ())] (.v (.o (.i .i64))) fun y3 =>
        .ret [.bool (decide (y3 ≤ (0 : Int)))]) <|
      .ret [.bool (false)]) <|
    .ret [.bool (false)]) <|
  .ret [.bool (false)]
theorem fI_TaxRateOk (x0 : Bool × SlV × Int × PUnit) : fits Tryz.prog aI_TaxRateOk 77 [Sh1.val (.g [.b, .l, .i .i64]) (x0)] (tI_TaxRateOk x0) :=
  ⟨Tryz.f77, Tryz.f77.body.getD .skip, by kernel_rfl, by kernel_rfl, by kernel_rfl, by kernel_rfl, by kernel_rfl, by kernel_rfl⟩
/-! loop.example/g00793/impl.decSame -/
def aI_decSame : An := ⟨[], [], []⟩
noncomputable def tI_decSame (x0 : Bool × SlV × Int × PUnit) (x1 : Bool × SlV × Int × PUnit) : T :=
  .call false 104 [Sh1.val (.g [.b, .l]) ((x0.fst), x0.2.1, ()), Sh1.val (.g [.b, .l]) ((x1.fst), x1.2.1, ())] (.v (.o (.b))) fun y1 =>
  .br (y1) (
    .ret [.bool (x0.2.2.fst == x1.2.2.fst)]) <|
  .ret [.bool (false)]
theorem fI_decSame (x0 : Bool × SlV × Int × PUnit) (x1 : Bool × SlV × Int × PUnit) : fits Tryz.prog aI_decSame 78 [Sh1.val (.g [.b, .l, .i .i64]) (x0), Sh1.val (.g [.b, .l, .i .i64]) (x1)] (tI_decSame x0 x1) :=
  ⟨Tryz.f78, Tryz.f78.body.getD .skip, by kernel_rfl, by kernel_rfl, by kernel_rfl, by kernel_rfl, by kernel_rfl, by kernel_rfl⟩
/-! loop.example/g00793/impl.DecLow -/
def aI_DecLow : An := ⟨[(2, [.s 3, .c 2 0, .c 2 1, .c 2 2], [.o (.o (.i .i64)), .o (.o (.b)), .o (.o (.l)), .o (.o (.i .i64))])], [], []⟩
noncomputable def tI_DecLow (x0 : Bool × SlV × Int × PUnit) : T :=
  .lp [.o (.o (.i .i64)), .o (.o (.b)), .o (.o (.l)), .o (.o (.i .i64))] [.v (.int .i64 ((0 : Int))), .v (.bool (false)), .v (.slice (none) ((0 : Nat)) ((0 : Nat))), .v (.int .i64 ((0 : Int)))] fun y1 =>
  .br (decide (y1.fst ≤ x0.2.2.fst)) (
    .br (decide (y1.fst ≤ (30 : Int))) (
      .call false 114 [Sh1.val (.g [.b, .l, .i .i64]) (x0), .int .i64 (y1.fst)] (.t [(.g [.b, .l, .i .i64]), (.o (.b))]) fun y2 =>
      .br (y2.2.fst) (
        .ret [Sh1.val (.g [.b, .l, .i .i64]) (y2.1)]) <|
      .nx 0 [.v (.int .i64 (Go.IntKind.i64.wrap (y1.fst + (1 : Int)))), .v (.bool (y1.2.fst)), .v (Sc.val .l (y1.2.2.1)), .v (.int .i64 (y1.2.2.2.fst))]) <|
    .ret [Sh1.val (.g [.b, .l, .i .i64]) ((false), (⟨(none), ((0 : Nat)), ((0 : Nat))⟩ : SlV), (((0 : Int)) : Int), ())]) <|
  .ret [Sh1.val (.g [.b, .l, .i .i64]) ((false), (⟨(none), ((0 : Nat)), ((0 : Nat))⟩ : SlV), (((0 : Int)) : Int), ())]
theorem fI_DecLow (x0 : Bool × SlV × Int × PUnit) : fits Tryz.prog aI_DecLow 79 [Sh1.val (.g [.b, .l, .i .i64]) (x0)] (tI_DecLow x0) :=
  ⟨Tryz.f79, Tryz.f79.body.getD .skip, by kernel_rfl, by kernel_rfl, by kernel_rfl, by kernel_rfl, by kernel_rfl, by kernel_rfl⟩
/-! loop.example/g00793/impl.isMode -/
def aI_isMode : An := ⟨[], [], []⟩
noncomputable def tI_isMode (x0 : Int) : T :=
  .br (decide (x0 ≥ (0 : Int))) (
    .ret [.bool (decide (x0 ≤ (6 : Int)))]) <|
  .ret [.bool (false)]
theorem fI_isMode (x0 : Int) : fits Tryz.prog aI_isMode 80 [.int .i64 (x0)] (tI_isMode x0) :=
  ⟨Tryz.f80, Tryz.f80.body.getD .skip, by kernel_rfl, by kernel_rfl, by kernel_rfl, by kernel_rfl, by kernel_rfl, by kernel_rfl⟩
/-! loop.example/g00793/impl.RateOk -/
def aI_RateOk : An := ⟨[], [], []⟩
noncomputable def tI_RateOk (x0 : ByteArray × ByteArray × Bool × SlV × Int × PUnit) : T :=
  .call false 115 [.string (x0.fst)] (.v (.o (.b))) fun y1 =>
  .br (y1) (
    .call false 115 [.string (x0.2.fst)] (.v (.o (.b))) fun y2 =>
    .br (y2) (
      .br (!ByteArray.toList x0.fst == ByteArray.toList x0.2.fst) (
        .call false 111 [Sh1.val (.g [.b, .l, .i .i64]) (x0.2.2)] (.v (.o (.b))) fun y3 =>
        .br (y3) (
          .call false 116 [Sh1.val (.g [.b, .l]) ((x0.2.2.fst), x0.2.2.2.1, ())] (.v (.o (.i .i64))) fun y4 =>
          .br (decide (y4 > (0 : Int))) (
            .ret [.bool (decide ((↑x0.2.2.2.1.n : Int) ≤ (2 : Int)))]) <|
          .ret [.bool (false)]) <|
        .ret [.bool (false)]) <|
      .ret [.bool (false)]) <|
    .ret [.bool (false)]) <|
  .ret [.bool (false)]
theorem fI_RateOk (x0 : ByteArray × ByteArray × Bool × SlV × Int × PUnit) : fits Tryz.prog aI_RateOk 81 [Sh1.val (.g [.s, .s, .b, .l, .i .i64]) (x0)] (tI_RateOk x0) :=
  ⟨Tryz.f81, Tryz.f81.body.getD .skip, by kernel_rfl, by kernel_rfl, by kernel_rfl, by kernel_rfl, by kernel_rfl, by kernel_rfl⟩
/-! loop.example/g00793/laws.eqSigned -/
def aL_eqSigned : An := ⟨[], [], []⟩
noncomputable def tL_eqSigned (x0 : Bool × SlV × PUnit) (x1 : Bool × SlV × PUnit) : T :=
  .br (!x0.fst == x1.fst) (
    .ret [.bool (false)]) <|
  .call false 43 [Sc.val .l (x0.2.1), Sc.val .l (x1.2.1)] (.v (.o (.b))) fun y1 =>
  .br (!y1) (
    .ret [.bool (false)]) <|
  .ret [.bool (true)]
theorem fL_eqSigned (x0 : Bool × SlV × PUnit) (x1 : Bool × SlV × PUnit) : fits Tryz.prog aL_eqSigned 82 [Sh1.val (.g [.b, .l]) (x0), Sh1.val (.g [.b, .l]) (x1)] (tL_eqSigned x0 x1) :=
  ⟨Tryz.f82, Tryz.f82.body.getD .skip, by kernel_rfl, by kernel_rfl, by kernel_rfl, by kernel_rfl, by kernel_rfl, by kernel_rfl⟩
/-! loop.example/g00793/spec.CurPlaces -/
def aS_CurPlaces : An := ⟨[], [], []⟩
noncomputable def tS_CurPlaces (x0 : ByteArray) : T :=
  .call false 103 [.string (x0)] (.v (.g [.s, .s, .i .i64, .i .i64])) fun y1 =>
  .ret [.int .i64 (y1.2.2.fst)]
theorem fS_CurPlaces (x0 : ByteArray) : fits Tryz.prog aS_CurPlaces 83 [.string (x0)] (tS_CurPlaces x0) :=
  ⟨Tryz.f83, Tryz.f83.body.getD .skip, by kernel_rfl, by kernel_rfl, by kernel_rfl, by kernel_rfl, by kernel_rfl, by kernel_rfl⟩
/-! loop.example/g00793/spec.IntText -/
def aS_IntText : An := ⟨[(6, [.s 0, .s 3], [.o (.o (.i .i64)), .o (.o (.s))])], [], []⟩
noncomputable def tS_IntText (x0 : Int) : T :=
  .br (decide (x0 < (0 : Int))) (
    .rq ((10 : Int) ≠ (0 : Int)) <|
    .br (Go.IntKind.i64.wrap (x0.tdiv (10 : Int)) == (0 : Int)) (
      .fz ((1 : Nat)) [.int .u8 (Go.IntKind.u8.wrap (Go.IntKind.i64.wrap ((48 : Int) - x0)))] 5 fun b1 c1 =>
      .rd ({ a := some { block := b1, off := (0 : Nat) : Go.Addr }, n := (1 : Nat), c := c1 : SlV }) ((1 : Nat)) fun y2 =>
      .rq (bytesOf y2 ≠ none) <|
      .rq ({ data := { toList := [(45 : UInt8)] : Array UInt8 } : ByteArray }.size + (bytesD y2).size ≤ (9223372036854775807 : Nat)) <|
      .ret [.string ({ data := { toList := [(45 : UInt8)] : Array UInt8 } : ByteArray } ++ bytesD y2)]) <|
    .no) <|
  .lp [.o (.o (.i .i64)), .o (.o (.s))] [.v (.int .i64 (x0)), .v (.string ({ data := { toList := [] : Array UInt8 } : ByteArray }))] fun y1 =>
  .br (decide (y1.fst > (9 : Int))) (
    .rq ((10 : Int) ≠ (0 : Int)) <|
    .fz ((1 : Nat)) [.int .u8 (Go.IntKind.u8.wrap (Go.IntKind.i64.wrap ((48 : Int) + Int.tmod y1.fst (10 : Int))))] 5 fun b2 c2 =>
    .rd ({ a := some { block := b2, off := (0 : Nat) : Go.Addr }, n := (1 : Nat), c := c2 : SlV }) ((1 : Nat)) fun y3 =>
    .rq (bytesOf y3 ≠ none) <|
    .rq ((bytesD y3).size + ByteArray.size y1.2.fst ≤ (9223372036854775807 : Nat)) <|
    .rq ((10 : Int) ≠ (0 : Int)) <|
    .nx 0 [.v (.int .i64 (Go.IntKind.i64.wrap (Int.tdiv y1.fst (10 : Int)))), .v (.string (bytesD y3 ++ y1.2.fst))]) <|
  .fz ((1 : Nat)) [.int .u8 (Go.IntKind.u8.wrap (Go.IntKind.i64.wrap ((48 : Int) + y1.fst)))] 5 fun b2 c2 =>
  .rd ({ a := some { block := b2, off := (0 : Nat) : Go.Addr }, n := (1 : Nat), c := c2 : SlV }) ((1 : Nat)) fun y3 =>
  .rq (bytesOf y3 ≠ none) <|
  .rq ((bytesD y3).size + ByteArray.size y1.2.fst ≤ (9223372036854775807 : Nat)) <|
  .ret [.string (bytesD y3 ++ y1.2.fst)]
theorem fS_IntText (x0 : Int) : fits Tryz.prog aS_IntText 84 [.int .i64 (x0)] (tS_IntText x0) :=
  ⟨Tryz.f84, Tryz.f84.body.getD .skip, by kernel_rfl, by kernel_rfl, by kernel_rfl, by kernel_rfl, by kernel_rfl, by kernel_rfl⟩
/-! loop.example/g00793/spec.DecMul -/
def aS_DecMul : An := ⟨[], [], []⟩
noncomputable def tS_DecMul (x0 : Bool × SlV × Int × PUnit) (x1 : Bool × SlV × Int × PUnit) : T :=
  .call false 61 [Sh1.val (.g [.b, .l, .i .i64]) (x0)] (.v (.o (.b))) fun y1 =>
  .br (!y1) (
    .ret [Sh1.val (.g [.b, .l, .i .i64]) ((false), (⟨(none), ((0 : Nat)), ((0 : Nat))⟩ : SlV), (((0 : Int)) : Int), ()), .bool (false)]) <|
  .call false 61 [Sh1.val (.g [.b, .l, .i .i64]) (x1)] (.v (.o (.b))) fun y2 =>
  .br (!y2) (
    .ret [Sh1.val (.g [.b, .l, .i .i64]) ((false), (⟨(none), ((0 : Nat)), ((0 : Nat))⟩ : SlV), (((0 : Int)) : Int), ()), .bool (false)]) <|
  .rg <|
  .call true 100 [Sh1.val (.g [.b, .l]) ((x0.fst), x0.2.1, ()), Sh1.val (.g [.b, .l]) ((x1.fst), x1.2.1, ())] (.v (.g [.b, .l])) fun y3 =>
  .call true 99 [Sh1.val (.g [.b, .l]) (y3), .int .i64 (Go.IntKind.i64.wrap (x0.2.2.fst + x1.2.2.fst))] (.t [(.g [.b, .l, .i .i64]), (.o (.b))]) fun y4 =>
  .ret [Sh1.val (.g [.b, .l, .i .i64]) (y4.1), .bool (y4.2.fst)]
theorem fS_DecMul (x0 : Bool × SlV × Int × PUnit) (x1 : Bool × SlV × Int × PUnit) : fits Tryz.prog aS_DecMul 85 [Sh1.val (.g [.b, .l, .i .i64]) (x0), Sh1.val (.g [.b, .l, .i .i64]) (x1)] (tS_DecMul x0 x1) :=
  ⟨Tryz.f85, Tryz.f85.body.getD .skip, by kernel_rfl, by kernel_rfl, by kernel_rfl, by kernel_rfl, by kernel_rfl, by kernel_rfl⟩
/-! loop.example/g00793/impl.nameAt -/
def aI_nameAt : An := ⟨[], [], []⟩
noncomputable def tI_nameAt (x0 : Int) (x1 : SlV) : T :=
  .br (decide (x0 < (0 : Int))) (
    .ret [.string ({ data := { toList := [] : Array UInt8 } : ByteArray })]) <|
  .br (decide (x0 ≥ (↑x1.n : Int))) (
    .ret [.string ({ data := { toList := [] : Array UInt8 } : ByteArray })]) <|
  .el (x1.a) (x1.n) (x0) fun y1 =>
  .ld false (y1.add (x0.toNat * (1 : Nat))) (.o (.s)) fun y2 =>
  .ret [.string (y2)]
theorem fI_nameAt (x0 : Int) (x1 : SlV) : fits Tryz.prog aI_nameAt 86 [.int .i64 (x0), Sc.val .l (x1)] (tI_nameAt x0 x1) :=
  ⟨Tryz.f86, Tryz.f86.body.getD .skip, by kernel_rfl, by kernel_rfl, by kernel_rfl, by kernel_rfl, by kernel_rfl, by kernel_rfl⟩
/-! loop.example/g00793/impl.MoneyText -/
def aI_MoneyText : An := ⟨[], [], []⟩
noncomputable def tI_MoneyText (x0 : ByteArray × Bool × SlV × PUnit) : T :=
  .call false 107 [Sh1.val (.g [.s, .b, .l]) (x0)] (.v (.o (.b))) fun y1 =>
  .br (!y1) (
    .ret [.string ({ data := { toList := [] : Array UInt8 } : ByteArray })]) <|
  .rg <|
  .rq (ByteArray.size x0.fst + { data := { toList := [(32 : UInt8)] : Array UInt8 } : ByteArray }.size ≤ (9223372036854775807 : Nat)) <|
  .call true 118 [.string (x0.fst)] (.v (.o (.i .i64))) fun y2 =>
  .call true 117 [Sh1.val (.g [.b, .l, .i .i64]) ((x0.2.fst), x0.2.2.1, ((y2) : Int), ())] (.v (.o (.s))) fun y3 =>
  .rq ((x0.fst ++ { data := { toList := [(32 : UInt8)] : Array UInt8 } : ByteArray }).size + y3.size ≤ (9223372036854775807 : Nat)) <|
  .ret [.string (x0.fst ++ { data := { toList := [(32 : UInt8)] : Array UInt8 } : ByteArray } ++ y3)]
theorem fI_MoneyText (x0 : ByteArray × Bool × SlV × PUnit) : fits Tryz.prog aI_MoneyText 87 [Sh1.val (.g [.s, .b, .l]) (x0)] (tI_MoneyText x0) :=
  ⟨Tryz.f87, Tryz.f87.body.getD .skip, by kernel_rfl, by kernel_rfl, by kernel_rfl, by kernel_rfl, by kernel_rfl, by kernel_rfl⟩
/-! loop.example/g00793/impl.dealText -/
def aI_dealText : An := ⟨[(3, [.s 5, .s 11], [.a 9, .o (.o (.i .i64))])], [], []⟩
noncomputable def tI_dealText (x0 : SlV) (x1 : SlV) : T :=
  .lp [.a 9, .o (.o (.i .i64))] [.a 9 ((0 : Nat)) [], .v (.int .i64 ((0 : Int)))] fun y1 =>
  .br (decide (y1.2.fst < (↑x0.n : Int))) (
    .el (x0.a) (x0.n) (y1.2.fst) fun y2 =>
    .ld false (y2.add (Int.toNat y1.2.fst * (1 : Nat))) (.o (.s)) fun y3 =>
    .rq (y3.size + { data := { toList := [(58 : UInt8)] : Array UInt8 } : ByteArray }.size ≤ (9223372036854775807 : Nat)) <|
    .el (x1.a) (x1.n) (y1.2.fst) fun y4 =>
    .ld false (y4.add (Int.toNat y1.2.fst * (1 : Nat))) (.o (.i .i64)) fun y5 =>
    .call false 119 [.int .i64 (y5)] (.v (.o (.s))) fun y6 =>
    .rq ((y3 ++ { data := { toList := [(58 : UInt8)] : Array UInt8 } : ByteArray }).size + y6.size ≤ (9223372036854775807 : Nat)) <|
    .rq ([Go.Value.string (y3 ++ { data := { toList := [(58 : UInt8)] : Array UInt8 } : ByteArray } ++ y6)].length = (1 : Nat) * (1 : Nat)) <|
    .rq (one [Go.Value.string (y3 ++ { data := { toList := [(58 : UInt8)] : Array UInt8 } : ByteArray } ++ y6)] = true ∧ (y1.1.fst + (1 : Nat)) * (16 : Nat) ≤ (140737488355328 : Nat) ∧ y1.1.fst + (1 : Nat) ≤ (9223372036854775807 : Nat)) <|
    .nx 0 [.a 9 (y1.1.fst + (1 : Nat)) (y1.1.snd ++ [Go.Value.string (y3 ++ { data := { toList := [(58 : UInt8)] : Array UInt8 } : ByteArray } ++ y6)]), .v (.int .i64 (Go.IntKind.i64.wrap (y1.2.fst + (1 : Int))))]) <|
  .fz (y1.1.fst) (y1.1.snd) 9 fun b2 c2 =>
  .call false 55 [.slice (some { block := b2, off := (0 : Nat) : Go.Addr }) (y1.1.fst) (c2), .string ({ data := { toList := [(44 : UInt8)] : Array UInt8 } : ByteArray })] (.v (.o (.s))) fun y3 =>
  .ret [.string (y3)]
theorem fI_dealText (x0 : SlV) (x1 : SlV) : fits Tryz.prog aI_dealText 88 [Sc.val .l (x0), Sc.val .l (x1)] (tI_dealText x0 x1) :=
  ⟨Tryz.f88, Tryz.f88.body.getD .skip, by kernel_rfl, by kernel_rfl, by kernel_rfl, by kernel_rfl, by kernel_rfl, by kernel_rfl⟩
/-! loop.example/g00793/impl.Percent -/
def aI_Percent : An := ⟨[], [], []⟩
noncomputable def tI_Percent (x0 : Bool × SlV × Int × PUnit) : T :=
  .call false 77 [Sh1.val (.g [.b, .l, .i .i64]) (x0)] (.v (.o (.b))) fun y1 =>
  .br (!y1) (
    .ret [.string ({ data := { toList := [] : Array UInt8 } : ByteArray })]) <|
  .rg <|
  .call true 113 [.int .i64 ((100 : Int))] (.v (.g [.b, .l])) fun y2 =>
  .call true 120 [Sh1.val (.g [.b, .l, .i .i64]) (x0), Sh1.val (.g [.b, .l, .i .i64]) ((y2.fst), y2.2.1, (((0 : Int)) : Int), ())] (.t [(.g [.b, .l, .i .i64]), (.o (.b))]) fun y3 =>
  .call false 79 [Sh1.val (.g [.b, .l, .i .i64]) (y3.1)] (.v (.g [.b, .l, .i .i64])) fun y4 =>
  .call false 117 [Sh1.val (.g [.b, .l, .i .i64]) (y4)] (.v (.o (.s))) fun y5 =>
  .rq (y5.size + { data := { toList := [(37 : UInt8)] : Array UInt8 } : ByteArray }.size ≤ (9223372036854775807 : Nat)) <|
  .ret [.string (y5 ++ { data := { toList := [(37 : UInt8)] : Array UInt8 } : ByteArray })]
theorem fI_Percent (x0 : Bool × SlV × Int × PUnit) : fits Tryz.prog aI_Percent 89 [Sh1.val (.g [.b, .l, .i .i64]) (x0)] (tI_Percent x0) :=
  ⟨Tryz.f89, Tryz.f89.body.getD .skip, by kernel_rfl, by kernel_rfl, by kernel_rfl, by kernel_rfl, by kernel_rfl, by kernel_rfl⟩
/-! loop.example/g00793/impl.RmName -/
def aI_RmName : An := ⟨[], [], []⟩
noncomputable def tI_RmName (x0 : Int) : T :=
  .call false 80 [.int .i64 (x0)] (.v (.o (.b))) fun y1 =>
  .br (!y1) (
    .ret [.string ({ data := { toList := [] : Array UInt8 } : ByteArray })]) <|
  .call false 121 [] (.v (.g [.s, .f, .s, .f, .s, .f, .s, .f, .s, .f, .s, .f, .s, .f])) fun y2 =>
  .rq ((0 : Int) ≤ x0 ∧ x0 < (↑(7 : Nat) : Int)) <|
  .xs [.string (y2.fst), (Go.Value.func (Go.Fn.func y2.2.fst) { toList := [] : Array Go.Value } { toList := [] : Array Go.Value }), .string (y2.2.2.fst), (Go.Value.func (Go.Fn.func y2.2.2.2.fst) { toList := [] : Array Go.Value } { toList := [] : Array Go.Value }), .string (y2.2.2.2.2.fst), (Go.Value.func (Go.Fn.func y2.2.2.2.2.2.fst) { toList := [] : Array Go.Value } { toList := [] : Array Go.Value }), .string (y2.2.2.2.2.2.2.fst), (Go.Value.func (Go.Fn.func y2.2.2.2.2.2.2.2.fst) { toList := [] : Array Go.Value } { toList := [] : Array Go.Value }), .string (y2.2.2.2.2.2.2.2.2.fst), (Go.Value.func (Go.Fn.func y2.2.2.2.2.2.2.2.2.2.fst) { toList := [] : Array Go.Value } { toList := [] : Array Go.Value }), .string (y2.2.2.2.2.2.2.2.2.2.2.fst), (Go.Value.func (Go.Fn.func y2.2.2.2.2.2.2.2.2.2.2.2.fst) { toList := [] : Array Go.Value } { toList := [] : Array Go.Value }), .string (y2.2.2.2.2.2.2.2.2.2.2.2.2.fst), (Go.Value.func (Go.Fn.func y2.2.2.2.2.2.2.2.2.2.2.2.2.2.fst) { toList := [] : Array Go.Value } { toList := [] : Array Go.Value })] (x0.toNat * (2 : Nat)) (.g [.s, .f]) fun y3 =>
  .ret [.string (y3.fst)]
theorem fI_RmName (x0 : Int) : fits Tryz.prog aI_RmName 90 [.int .i64 (x0)] (tI_RmName x0) :=
  ⟨Tryz.f90, Tryz.f90.body.getD .skip, by kernel_rfl, by kernel_rfl, by kernel_rfl, by kernel_rfl, by kernel_rfl, by kernel_rfl⟩
/-! loop.example/g00793/impl.RateText -/
def aI_RateText : An := ⟨[], [], []⟩
noncomputable def tI_RateText (x0 : ByteArray × ByteArray × Bool × SlV × Int × PUnit) : T :=
  .call false 81 [Sh1.val (.g [.s, .s, .b, .l, .i .i64]) (x0)] (.v (.o (.b))) fun y1 =>
  .br (!y1) (
    .ret [.string ({ data := { toList := [] : Array UInt8 } : ByteArray })]) <|
  .rg <|
  .rq (ByteArray.size x0.fst + { data := { toList := [(32 : UInt8)] : Array UInt8 } : ByteArray }.size ≤ (9223372036854775807 : Nat)) <|
  .rq ((x0.fst ++ { data := { toList := [(32 : UInt8)] : Array UInt8 } : ByteArray }).size + ByteArray.size x0.2.fst ≤ (9223372036854775807 : Nat)) <|
  .rq ((x0.fst ++ { data := { toList := [(32 : UInt8)] : Array UInt8 } : ByteArray } ++ x0.2.fst).size + { data := { toList := [(32 : UInt8)] : Array UInt8 } : ByteArray }.size ≤ (9223372036854775807 : Nat)) <|
  .call true 117 [Sh1.val (.g [.b, .l, .i .i64]) (x0.2.2)] (.v (.o (.s))) fun y2 =>
  .rq ((x0.fst ++ { data := { toList := [(32 : UInt8)] : Array UInt8 } : ByteArray } ++ x0.2.fst ++ { data := { toList := [(32 : UInt8)] : Array UInt8 } : ByteArray }).size + y2.size ≤ (9223372036854775807 : Nat)) <|
  .ret [.string (x0.fst ++ { data := { toList := [(32 : UInt8)] : Array UInt8 } : ByteArray } ++ x0.2.fst ++ { data := { toList := [(32 : UInt8)] : Array UInt8 } : ByteArray } ++ y2)]
theorem fI_RateText (x0 : ByteArray × ByteArray × Bool × SlV × Int × PUnit) : fits Tryz.prog aI_RateText 91 [Sh1.val (.g [.s, .s, .b, .l, .i .i64]) (x0)] (tI_RateText x0) :=
  ⟨Tryz.f91, Tryz.f91.body.getD .skip, by kernel_rfl, by kernel_rfl, by kernel_rfl, by kernel_rfl, by kernel_rfl, by kernel_rfl⟩
/-! loop.example/g00793/spec.IntOk -/
def aS_IntOk : An := ⟨[], [], []⟩
noncomputable def tS_IntOk (x0 : Bool × SlV × PUnit) : T :=
  .call false 98 [Sc.val .l (x0.2.1)] (.v (.o (.b))) fun y1 =>
  .br (y1) (
    .br (!x0.fst) (
      .ret [.bool (true)]) <|
    .ret [.bool (decide ((↑x0.2.1.n : Int) > (0 : Int)))]) <|
  .ret [.bool (false)]
theorem fS_IntOk (x0 : Bool × SlV × PUnit) : fits Tryz.prog aS_IntOk 93 [Sh1.val (.g [.b, .l]) (x0)] (tS_IntOk x0) :=
  ⟨Tryz.f93, Tryz.f93.body.getD .skip, by kernel_rfl, by kernel_rfl, by kernel_rfl, by kernel_rfl, by kernel_rfl, by kernel_rfl⟩
/-! loop.example/g00793/spec.l07Both -/
def aS_l07Both : An := ⟨[], [], []⟩
noncomputable def tS_l07Both (x0 : Bool × SlV × Int × PUnit) (x1 : Bool × SlV × Int × PUnit) : T :=
  .br (decide (x1.2.2.fst > x0.2.2.fst)) (
    .rg <|
    .call true 101 [.int .i64 (Go.IntKind.i64.wrap (x1.2.2.fst - x0.2.2.fst))] (.v (.g [.b, .l])) fun y1 =>
    .call true 100 [Sh1.val (.g [.b, .l]) ((x0.fst), x0.2.1, ()), Sh1.val (.g [.b, .l]) (y1)] (.v (.g [.b, .l])) fun y2 =>
    .call true 101 [.int .i64 (Go.IntKind.i64.wrap (x1.2.2.fst - x1.2.2.fst))] (.v (.g [.b, .l])) fun y3 =>
    .call true 100 [Sh1.val (.g [.b, .l]) ((x1.fst), x1.2.1, ()), Sh1.val (.g [.b, .l]) (y3)] (.v (.g [.b, .l])) fun y4 =>
    .ret [Sh1.val (.g [.b, .l]) (y2), Sh1.val (.g [.b, .l]) (y4), .int .i64 (x1.2.2.fst)]) <|
  .rg <|
  .call true 101 [.int .i64 (Go.IntKind.i64.wrap (x0.2.2.fst - x0.2.2.fst))] (.v (.g [.b, .l])) fun y1 =>
  .call true 100 [Sh1.val (.g [.b, .l]) ((x0.fst), x0.2.1, ()), Sh1.val (.g [.b, .l]) (y1)] (.v (.g [.b, .l])) fun y2 =>
  .call true 101 [.int .i64 (Go.IntKind.i64.wrap (x0.2.2.fst - x1.2.2.fst))] (.v (.g [.b, .l])) fun y3 =>
  .call true 100 [Sh1.val (.g [.b, .l]) ((x1.fst), x1.2.1, ()), Sh1.val (.g [.b, .l]) (y3)] (.v (.g [.b, .l])) fun y4 =>
  .ret [Sh1.val (.g [.b, .l]) (y2), Sh1.val (.g [.b, .l]) (y4), .int .i64 (x0.2.2.fst)]
theorem fS_l07Both (x0 : Bool × SlV × Int × PUnit) (x1 : Bool × SlV × Int × PUnit) : fits Tryz.prog aS_l07Both 94 [Sh1.val (.g [.b, .l, .i .i64]) (x0), Sh1.val (.g [.b, .l, .i .i64]) (x1)] (tS_l07Both x0 x1) :=
  ⟨Tryz.f94, Tryz.f94.body.getD .skip, by kernel_rfl, by kernel_rfl, by kernel_rfl, by kernel_rfl, by kernel_rfl, by kernel_rfl⟩
/-! loop.example/g00793/spec.IntCmp -/
def aS_IntCmp : An := ⟨[], [], []⟩
noncomputable def tS_IntCmp (x0 : Bool × SlV × PUnit) (x1 : Bool × SlV × PUnit) : T :=
  .call false 93 [Sh1.val (.g [.b, .l]) (x0)] (.v (.o (.b))) fun y1 =>
  .br (!y1) (
    .ret [.int .i64 ((0 : Int))]) <|
  .call false 93 [Sh1.val (.g [.b, .l]) (x1)] (.v (.o (.b))) fun y2 =>
  .br (!y2) (
    .ret [.int .i64 ((0 : Int))]) <|
  .br (x0.fst) (
    .br (!x1.fst) (
      .ret [.int .i64 ((-1 : Int))]) <|
    .br (!x0.fst) (
      .br (x1.fst) (
        .ret [.int .i64 ((1 : Int))]) <|
      .br (x0.fst) (
        .call false 125 [Sc.val .l (x1.2.1), Sc.val .l (x0.2.1)] (.v (.o (.i .i64))) fun y3 =>
        .ret [.int .i64 (y3)]) <|
      .call false 125 [Sc.val .l (x0.2.1), Sc.val .l (x1.2.1)] (.v (.o (.i .i64))) fun y3 =>
      .ret [.int .i64 (y3)]) <|
    .br (x0.fst) (
      .call false 125 [Sc.val .l (x1.2.1), Sc.val .l (x0.2.1)] (.v (.o (.i .i64))) fun y3 =>
      .ret [.int .i64 (y3)]) <|
    .call false 125 [Sc.val .l (x0.2.1), Sc.val .l (x1.2.1)] (.v (.o (.i .i64))) fun y3 =>
    .ret [.int .i64 (y3)]) <|
  .br (!x0.fst) (
    .br (x1.fst) (
      .ret [.int .i64 ((1 : Int))]) <|
    .br (x0.fst) (
      .call false 125 [Sc.val .l (x1.2.1), Sc.val .l (x0.2.1)] (.v (.o (.i .i64))) fun y3 =>
      .ret [.int .i64 (y3)]) <|
    .call false 125 [Sc.val .l (x0.2.1), Sc.val .l (x1.2.1)] (.v (.o (.i .i64))) fun y3 =>
    .ret [.int .i64 (y3)]) <|
  .br (x0.fst) (
    .call false 125 [Sc.val .l (x1.2.1), Sc.val .l (x0.2.1)] (.v (.o (.i .i64))) fun y3 =>
    .ret [.int .i64 (y3)]) <|
  .call false 125 [Sc.val .l (x0.2.1), Sc.val .l (x1.2.1)] (.v (.o (.i .i64))) fun y3 =>
  .ret [.int .i64 (y3)]
theorem fS_IntCmp (x0 : Bool × SlV × PUnit) (x1 : Bool × SlV × PUnit) : fits Tryz.prog aS_IntCmp 95 [Sh1.val (.g [.b, .l]) (x0), Sh1.val (.g [.b, .l]) (x1)] (tS_IntCmp x0 x1) :=
  ⟨Tryz.f95, Tryz.f95.body.getD .skip, by kernel_rfl, by kernel_rfl, by kernel_rfl, by kernel_rfl, by kernel_rfl, by kernel_rfl⟩
/-! loop.example/g00793/spec.l04Make -/
def aS_l04Make : An := ⟨[], [], []⟩
noncomputable def tS_l04Make (x0 : Bool) (x1 : SlV) : T :=
  .call false 126 [Sc.val .l (x1)] (.v (.o (.l))) fun y1 =>
  .br (x0) (
    .rd ({ a := y1.a, n := y1.n, c := y1.c : SlV }) ((1 : Nat)) fun y2 =>
    .rq (one y2 = true ∧ ((0 : Nat) + y1.n) * (8 : Nat) ≤ (140737488355328 : Nat) ∧ (0 : Nat) + y1.n ≤ (9223372036854775807 : Nat)) <|
    .fz ((0 : Nat) + y1.n) ([] ++ y2) 3 fun b3 c3 =>
    .ret [Sh1.val (.g [.b, .l]) ((decide ((↑y1.n : Int) > (0 : Int))), (⟨(some { block := b3, off := (0 : Nat) : Go.Addr }), ((0 : Nat) + y1.n), (c3)⟩ : SlV), ())]) <|
  .rd ({ a := y1.a, n := y1.n, c := y1.c : SlV }) ((1 : Nat)) fun y2 =>
  .rq (one y2 = true ∧ ((0 : Nat) + y1.n) * (8 : Nat) ≤ (140737488355328 : Nat) ∧ (0 : Nat) + y1.n ≤ (9223372036854775807 : Nat)) <|
  .fz ((0 : Nat) + y1.n) ([] ++ y2) 3 fun b3 c3 =>
  .ret [Sh1.val (.g [.b, .l]) ((false), (⟨(some { block := b3, off := (0 : Nat) : Go.Addr }), ((0 : Nat) + y1.n), (c3)⟩ : SlV), ())]
theorem fS_l04Make (x0 : Bool) (x1 : SlV) : fits Tryz.prog aS_l04Make 96 [.bool (x0), Sc.val .l (x1)] (tS_l04Make x0 x1) :=
  ⟨Tryz.f96, Tryz.f96.body.getD .skip, by kernel_rfl, by kernel_rfl, by kernel_rfl, by kernel_rfl, by kernel_rfl, by kernel_rfl⟩
/-! loop.example/g00793/spec.NatOf -/
def aS_NatOf : An := ⟨[(2, [.s 0, .s 3], [.o (.o (.i .i64)), .a 3])], [], []⟩
noncomputable def tS_NatOf (x0 : Int) : T :=
  .lp [.o (.o (.i .i64)), .a 3] [.v (.int .i64 (x0)), .a 3 ((0 : Nat)) []] fun y1 =>
  .br (decide (y1.fst > (0 : Int))) (
    .rq ((1000000000 : Int) ≠ (0 : Int)) <|
    .rq ([Go.Value.int Go.IntKind.i64 (Int.tmod y1.fst (1000000000 : Int))].length = (1 : Nat) * (1 : Nat)) <|
    .rq (one [Go.Value.int Go.IntKind.i64 (Int.tmod y1.fst (1000000000 : Int))] = true ∧ (y1.2.1.fst + (1 : Nat)) * (8 : Nat) ≤ (140737488355328 : Nat) ∧ y1.2.1.fst + (1 : Nat) ≤ (9223372036854775807 : Nat)) <|
    .rq ((1000000000 : Int) ≠ (0 : Int)) <|
    .nx 0 [.v (.int .i64 (Go.IntKind.i64.wrap (Int.tdiv y1.fst (1000000000 : Int)))), .a 3 (y1.2.1.fst + (1 : Nat)) (y1.2.1.snd ++ [Go.Value.int Go.IntKind.i64 (Int.tmod y1.fst (1000000000 : Int))])]) <|
  .fz (y1.2.1.fst) (y1.2.1.snd) 3 fun b2 c2 =>
  .ret [.slice (some { block := b2, off := (0 : Nat) : Go.Addr }) (y1.2.1.fst) (c2)]
theorem fS_NatOf (x0 : Int) : fits Tryz.prog aS_NatOf 97 [.int .i64 (x0)] (tS_NatOf x0) :=
  ⟨Tryz.f97, Tryz.f97.body.getD .skip, by kernel_rfl, by kernel_rfl, by kernel_rfl, by kernel_rfl, by kernel_rfl, by kernel_rfl⟩
/-! loop.example/g00793/spec.NatOk -/
def aS_NatOk : An := ⟨[(2, [.s 7], [.o (.o (.i .i64))])], [], []⟩
noncomputable def tS_NatOk (x0 : SlV) : T :=
  .lp [.o (.o (.i .i64))] [.v (.int .i64 ((0 : Int)))] fun y1 =>
  .br (decide (y1.fst < (↑x0.n : Int))) (
    .el (x0.a) (x0.n) (y1.fst) fun y2 =>
    .ld false (y2.add (Int.toNat y1.fst * (1 : Nat))) (.o (.i .i64)) fun y3 =>
    .call false 57 [.int .i64 (y3), .int .i64 ((0 : Int)), .int .i64 ((999999999 : Int))] (.v (.o (.b))) fun y4 =>
    .br (!y4) (
      .ret [.bool (false)]) <|
    .nx 0 [.v (.int .i64 (Go.IntKind.i64.wrap (y1.fst + (1 : Int))))]) <|
  .br (decide ((↑x0.n : Int) ≤ (50 : Int))) (
    .br ((↑x0.n : Int) == (0 : Int)) (
      .ret [.bool (true)]) <|
    .el (x0.a) (x0.n) (Go.IntKind.i64.wrap ((↑x0.n : Int) - (1 : Int))) fun y2 =>
    .ld false (y2.add ((Go.IntKind.i64.wrap ((↑x0.n : Int) - (1 : Int))).toNat * (1 : Nat))) (.o (.i .i64)) fun y3 =>
    .ret [.bool (y3 != (0 : Int))]) <|
  .ret [.bool (false)]
theorem fS_NatOk (x0 : SlV) : fits Tryz.prog aS_NatOk 98 [Sc.val .l (x0)] (tS_NatOk x0) :=
  ⟨Tryz.f98, Tryz.f98.body.getD .skip, by kernel_rfl, by kernel_rfl, by kernel_rfl, by kernel_rfl, by kernel_rfl, by kernel_rfl⟩
/-! loop.example/g00793/spec.l07Dec -/
def aS_l07Dec : An := ⟨[], [], []⟩
noncomputable def tS_l07Dec (x0 : Bool × SlV × PUnit) (x1 : Int) : T :=
  .call false 61 [Sh1.val (.g [.b, .l, .i .i64]) ((x0.fst), x0.2.1, ((x1) : Int), ())] (.v (.o (.b))) fun y1 =>
  .br (!y1) (
    .ret [Sh1.val (.g [.b, .l, .i .i64]) ((false), (⟨(none), ((0 : Nat)), ((0 : Nat))⟩ : SlV), (((0 : Int)) : Int), ()), .bool (false)]) <|
  .ret [Sh1.val (.g [.b, .l, .i .i64]) ((x0.fst), x0.2.1, ((x1) : Int), ()), .bool (true)]
theorem fS_l07Dec (x0 : Bool × SlV × PUnit) (x1 : Int) : fits Tryz.prog aS_l07Dec 99 [Sh1.val (.g [.b, .l]) (x0), .int .i64 (x1)] (tS_l07Dec x0 x1) :=
  ⟨Tryz.f99, Tryz.f99.body.getD .skip, by kernel_rfl, by kernel_rfl, by kernel_rfl, by kernel_rfl, by kernel_rfl, by kernel_rfl⟩
/-! loop.example/g00793/spec.IntMul -/
def aS_IntMul : An := ⟨[], [], []⟩
noncomputable def tS_IntMul (x0 : Bool × SlV × PUnit) (x1 : Bool × SlV × PUnit) : T :=
  .call false 93 [Sh1.val (.g [.b, .l]) (x0)] (.v (.o (.b))) fun y1 =>
  .br (!y1) (
    .ret [Sh1.val (.g [.b, .l]) ((false), (⟨(none), ((0 : Nat)), ((0 : Nat))⟩ : SlV), ())]) <|
  .call false 93 [Sh1.val (.g [.b, .l]) (x1)] (.v (.o (.b))) fun y2 =>
  .br (!y2) (
    .ret [Sh1.val (.g [.b, .l]) ((false), (⟨(none), ((0 : Nat)), ((0 : Nat))⟩ : SlV), ())]) <|
  .rg <|
  .call true 127 [Sc.val .l (x0.2.1), Sc.val .l (x1.2.1)] (.v (.o (.l))) fun y3 =>
  .call true 96 [.bool (!x0.fst == x1.fst), Sc.val .l (y3)] (.v (.g [.b, .l])) fun y4 =>
  .ret [Sh1.val (.g [.b, .l]) (y4)]
theorem fS_IntMul (x0 : Bool × SlV × PUnit) (x1 : Bool × SlV × PUnit) : fits Tryz.prog aS_IntMul 100 [Sh1.val (.g [.b, .l]) (x0), Sh1.val (.g [.b, .l]) (x1)] (tS_IntMul x0 x1) :=
  ⟨Tryz.f100, Tryz.f100.body.getD .skip, by kernel_rfl, by kernel_rfl, by kernel_rfl, by kernel_rfl, by kernel_rfl, by kernel_rfl⟩
/-! loop.example/g00793/spec.l07Ten -/
def aS_l07Ten : An := ⟨[], [], []⟩
noncomputable def tS_l07Ten (x0 : Int) : T :=
  .call false 128 [.int .i64 (x0)] (.v (.o (.l))) fun y1 =>
  .ret [Sh1.val (.g [.b, .l]) ((false), y1, ())]
theorem fS_l07Ten (x0 : Int) : fits Tryz.prog aS_l07Ten 101 [.int .i64 (x0)] (tS_l07Ten x0) :=
  ⟨Tryz.f101, Tryz.f101.body.getD .skip, by kernel_rfl, by kernel_rfl, by kernel_rfl, by kernel_rfl, by kernel_rfl, by kernel_rfl⟩
/-! loop.example/g00793/spec.NatCut -/
def aS_NatCut : An := ⟨[], [], []⟩
noncomputable def tS_NatCut (x0 : SlV) (x1 : Int) : T :=
  .call false 57 [.int .i64 (x1), .int .i64 ((0 : Int)), .int .i64 ((440 : Int))] (.v (.o (.b))) fun y1 =>
  .br (!y1) (
    .ret [.slice (none) ((0 : Nat)) ((0 : Nat)), .slice (none) ((0 : Nat)) ((0 : Nat))]) <|
  .call false 128 [.int .i64 (x1)] (.v (.o (.l))) fun y2 =>
  .call false 129 [Sc.val .l (x0), Sc.val .l (y2)] (.t [(.o (.l)), (.o (.l))]) fun y3 =>
  .ret [Sc.val .l (y3.1), Sc.val .l (y3.2.1)]
theorem fS_NatCut (x0 : SlV) (x1 : Int) : fits Tryz.prog aS_NatCut 102 [Sc.val .l (x0), .int .i64 (x1)] (tS_NatCut x0 x1) :=
  ⟨Tryz.f102, Tryz.f102.body.getD .skip, by kernel_rfl, by kernel_rfl, by kernel_rfl, by kernel_rfl, by kernel_rfl, by kernel_rfl⟩
/-! loop.example/g00793/spec.l08Find -/
def aS_l08Find : An := ⟨[(2, [.s 7, .c 2 0, .c 2 1, .c 2 2, .c 2 3], [.o (.o (.i .i64)), .o (.o (.s)), .o (.o (.s)), .o (.o (.i .i64)), .o (.o (.i .i64))])], [], []⟩
noncomputable def tS_l08Find (x0 : ByteArray) : T :=
  .call false 130 [] (.v (.o (.l))) fun y1 =>
  .lp [.o (.o (.i .i64)), .o (.o (.s)), .o (.o (.s)), .o (.o (.i .i64)), .o (.o (.i .i64))] [.v (.int .i64 ((0 : Int))), .v (.string ({ data := { toList := [] : Array UInt8 } : ByteArray })), .v (.string ({ data := { toList := [] : Array UInt8 } : ByteArray })), .v (.int .i64 ((0 : Int))), .v (.int .i64 ((0 : Int)))] fun y2 =>
  .br (decide (y2.fst < (↑y1.n : Int))) (
    .el (y1.a) (y1.n) (y2.fst) fun y3 =>
    .ld false (y3.add (Int.toNat y2.fst * (4 : Nat))) (.g [.s, .s, .i .i64, .i .i64]) fun y4 =>
    .br (ByteArray.toList y4.fst == x0.toList) (
      .ret [Sh1.val (.g [.s, .s, .i .i64, .i .i64]) (y4)]) <|
    .nx 0 [.v (.int .i64 (Go.IntKind.i64.wrap (y2.fst + (1 : Int)))), .v (.string (y2.2.fst)), .v (.string (y2.2.2.fst)), .v (.int .i64 (y2.2.2.2.fst)), .v (.int .i64 (y2.2.2.2.2.fst))]) <|
  .ret [Sh1.val (.g [.s, .s, .i .i64, .i .i64]) (({ data := { toList := [] : Array UInt8 } : ByteArray }), ({ data := { toList := [] : Array UInt8 } : ByteArray }), (((0 : Int)) : Int), (((0 : Int)) : Int), ())]
theorem fS_l08Find (x0 : ByteArray) : fits Tryz.prog aS_l08Find 103 [.string (x0)] (tS_l08Find x0) :=
  ⟨Tryz.f103, Tryz.f103.body.getD .skip, by kernel_rfl, by kernel_rfl, by kernel_rfl, by kernel_rfl, by kernel_rfl, by kernel_rfl⟩
/-! loop.example/g00793/impl.intSame -/
def aI_intSame : An := ⟨[], [], []⟩
noncomputable def tI_intSame (x0 : Bool × SlV × PUnit) (x1 : Bool × SlV × PUnit) : T :=
  .br (x0.fst == x1.fst) (
    .call false 131 [Sc.val .l (x0.2.1), Sc.val .l (x1.2.1)] (.v (.o (.b))) fun y1 =>
    .ret [.bool (y1)]) <|
  .ret [.bool (false)]
theorem fI_intSame (x0 : Bool × SlV × PUnit) (x1 : Bool × SlV × PUnit) : fits Tryz.prog aI_intSame 104 [Sh1.val (.g [.b, .l]) (x0), Sh1.val (.g [.b, .l]) (x1)] (tI_intSame x0 x1) :=
  ⟨Tryz.f104, Tryz.f104.body.getD .skip, by kernel_rfl, by kernel_rfl, by kernel_rfl, by kernel_rfl, by kernel_rfl, by kernel_rfl⟩
/-! loop.example/g00793/impl.isLower -/
def aI_isLower : An := ⟨[], [], []⟩
noncomputable def tI_isLower (x0 : Int) : T :=
  .br (decide (x0 ≥ (97 : Int))) (
    .ret [.bool (decide (x0 ≤ (122 : Int)))]) <|
  .ret [.bool (false)]
theorem fI_isLower (x0 : Int) : fits Tryz.prog aI_isLower 105 [.int .u8 (x0)] (tI_isLower x0) :=
  ⟨Tryz.f105, Tryz.f105.body.getD .skip, by kernel_rfl, by kernel_rfl, by kernel_rfl, by kernel_rfl, by kernel_rfl, by kernel_rfl⟩
/-! loop.example/g00793/impl.isDigit -/
def aI_isDigit : An := ⟨[], [], []⟩
noncomputable def tI_isDigit (x0 : Int) : T :=
  .br (decide (x0 ≥ (48 : Int))) (
    .ret [.bool (decide (x0 ≤ (57 : Int)))]) <|
  .ret [.bool (false)]
theorem fI_isDigit (x0 : Int) : fits Tryz.prog aI_isDigit 106 [.int .u8 (x0)] (tI_isDigit x0) :=
  ⟨Tryz.f106, Tryz.f106.body.getD .skip, by kernel_rfl, by kernel_rfl, by kernel_rfl, by kernel_rfl, by kernel_rfl, by kernel_rfl⟩
/-! loop.example/g00793/impl.MoneyOk -/
def aI_MoneyOk : An := ⟨[], [], []⟩
noncomputable def tI_MoneyOk (x0 : ByteArray × Bool × SlV × PUnit) : T :=
  .call false 115 [.string (x0.fst)] (.v (.o (.b))) fun y1 =>
  .br (y1) (
    .call false 132 [Sh1.val (.g [.b, .l]) (x0.2)] (.v (.o (.b))) fun y2 =>
    .br (y2) (
      .ret [.bool (decide ((↑x0.2.2.1.n : Int) ≤ (4 : Int)))]) <|
    .ret [.bool (false)]) <|
  .ret [.bool (false)]
theorem fI_MoneyOk (x0 : ByteArray × Bool × SlV × PUnit) : fits Tryz.prog aI_MoneyOk 107 [Sh1.val (.g [.s, .b, .l]) (x0)] (tI_MoneyOk x0) :=
  ⟨Tryz.f107, Tryz.f107.body.getD .skip, by kernel_rfl, by kernel_rfl, by kernel_rfl, by kernel_rfl, by kernel_rfl, by kernel_rfl⟩
/-! loop.example/g00793/impl.areNames -/
def aI_areNames : An := ⟨[(2, [.s 7], [.o (.o (.i .i64))])], [], []⟩
noncomputable def tI_areNames (x0 : SlV) : T :=
  .lp [.o (.o (.i .i64))] [.v (.int .i64 ((0 : Int)))] fun y1 =>
  .br (decide (y1.fst < (↑x0.n : Int))) (
    .el (x0.a) (x0.n) (y1.fst) fun y2 =>
    .ld false (y2.add (Int.toNat y1.fst * (1 : Nat))) (.o (.s)) fun y3 =>
    .call false 73 [.string (y3)] (.v (.o (.b))) fun y4 =>
    .br (!y4) (
      .ret [.bool (false)]) <|
    .nx 0 [.v (.int .i64 (Go.IntKind.i64.wrap (y1.fst + (1 : Int))))]) <|
  .ret [.bool (true)]
theorem fI_areNames (x0 : SlV) : fits Tryz.prog aI_areNames 108 [Sc.val .l (x0)] (tI_areNames x0) :=
  ⟨Tryz.f108, Tryz.f108.body.getD .skip, by kernel_rfl, by kernel_rfl, by kernel_rfl, by kernel_rfl, by kernel_rfl, by kernel_rfl⟩
/-! slices.ContainsFunc[[]int,int] -/
def aX_ContainsFunc_int : An := ⟨[], [], []⟩
noncomputable def tX_ContainsFunc_int (x0 : SlV) (x1 : Nat) : T :=
  .call false 133 [Sc.val .l (x0), (Go.Value.func (Go.Fn.func x1) { toList := [] : Array Go.Value } { toList := [] : Array Go.Value })] (.v (.o (.i .i64))) fun y1 =>
  .ret [.bool (decide (y1 ≥ (0 : Int)))]
theorem fX_ContainsFunc_int (x0 : SlV) (x1 : Nat) : fits Tryz.prog aX_ContainsFunc_int 109 [Sc.val .l (x0), (Go.Value.func (Go.Fn.func x1) { toList := [] : Array Go.Value } { toList := [] : Array Go.Value })] (tX_ContainsFunc_int x0 x1) :=
  ⟨Tryz.f109, Tryz.f109.body.getD .skip, by kernel_rfl, by kernel_rfl, by kernel_rfl, by kernel_rfl, by kernel_rfl, by kernel_rfl⟩
/-! loop.example/g00793/impl.dealOk$1 -/
def aI_dealOk_1 : An := ⟨[], [], []⟩
noncomputable def tI_dealOk_1 (x0 : Int) : T :=
  .br (decide (x0 < (0 : Int))) (
    .ret [.bool (true)]) <|
  .ret [.bool (decide (x0 > (1000000000 : Int)))]
theorem fI_dealOk_1 (x0 : Int) : fits Tryz.prog aI_dealOk_1 110 [.int .i64 (x0)] (tI_dealOk_1 x0) :=
  ⟨Tryz.f110, Tryz.f110.body.getD .skip, by kernel_rfl, by kernel_rfl, by kernel_rfl, by kernel_rfl, by kernel_rfl, by kernel_rfl⟩
/-! loop.example/g00793/impl.DecOk -/
def aI_DecOk : An := ⟨[], [], []⟩
noncomputable def tI_DecOk (x0 : Bool × SlV × Int × PUnit) : T :=
  .call false 132 [Sh1.val (.g [.b, .l]) ((x0.fst), x0.2.1, ())] (.v (.o (.b))) fun y1 =>
  .br (y1) (
    .br (decide ((↑x0.2.1.n : Int) ≤ (6 : Int))) (
      .call false 134 [.int .i64 (x0.2.2.fst)] (.v (.o (.b))) fun y2 =>
      .ret [.bool (y2)]) <|
    .ret [.bool (false)]) <|
  .ret [.bool (false)]
theorem fI_DecOk (x0 : Bool × SlV × Int × PUnit) : fits Tryz.prog aI_DecOk 111 [Sh1.val (.g [.b, .l, .i .i64]) (x0)] (tI_DecOk x0) :=
  ⟨Tryz.f111, Tryz.f111.body.getD .skip, by kernel_rfl, by kernel_rfl, by kernel_rfl, by kernel_rfl, by kernel_rfl, by kernel_rfl⟩
/-! loop.example/g00793/impl.DecCmp -/
def aI_DecCmp : An := ⟨[], [], []⟩
noncomputable def tI_DecCmp (x0 : Bool × SlV × Int × PUnit) (x1 : Bool × SlV × Int × PUnit) : T :=
  .call false 111 [Sh1.val (.g [.b, .l, .i .i64]) (x0)] (.v (.o (.b))) fun y1 =>
  .br (!y1) (
    .ret [.int .i64 ((0 : Int))]) <|
  .call false 111 [Sh1.val (.g [.b, .l, .i .i64]) (x1)] (.v (.o (.b))) fun y2 =>
  .br (!y2) (
    .ret [.int .i64 ((0 : Int))]) <|
  .call false 135 [.int .i64 (if x1.2.2.fst > x0.2.2.fst then x1.2.2.fst else x0.2.2.fst)] (.v (.o (.c))) fun y3 =>
  .rg <|
  .call true (y3.1) [Sh1.val (.g [.b, .l, .i .i64]) (x0), .pointer (some y3.snd)] (.v (.g [.b, .l])) fun y4 =>
  .call true (y3.1) [Sh1.val (.g [.b, .l, .i .i64]) (x1), .pointer (some y3.snd)] (.v (.g [.b, .l])) fun y5 =>
  .call true 136 [Sh1.val (.g [.b, .l]) (y4), Sh1.val (.g [.b, .l]) (y5)] (.v (.o (.i .i64))) fun y6 =>
  .ret [.int .i64 (y6)]
theorem fI_DecCmp (x0 : Bool × SlV × Int × PUnit) (x1 : Bool × SlV × Int × PUnit) : fits Tryz.prog aI_DecCmp 112 [Sh1.val (.g [.b, .l, .i .i64]) (x0), Sh1.val (.g [.b, .l, .i .i64]) (x1)] (tI_DecCmp x0 x1) :=
  ⟨Tryz.f112, Tryz.f112.body.getD .skip, by kernel_rfl, by kernel_rfl, by kernel_rfl, by kernel_rfl, by kernel_rfl, by kernel_rfl⟩
/-! loop.example/g00793/impl.IntOf -/
def aI_IntOf : An := ⟨[], [], []⟩
noncomputable def tI_IntOf (x0 : Int) : T :=
  .br (decide (x0 < (0 : Int))) (
    .call false 137 [.int .u64 (Go.IntKind.u64.wrap ((0 : Int) - Go.IntKind.u64.wrap x0))] (.v (.o (.l))) fun y1 =>
    .ret [Sh1.val (.g [.b, .l]) ((true), y1, ())]) <|
  .call false 137 [.int .u64 (Go.IntKind.u64.wrap x0)] (.v (.o (.l))) fun y1 =>
  .ret [Sh1.val (.g [.b, .l]) ((false), y1, ())]
theorem fI_IntOf (x0 : Int) : fits Tryz.prog aI_IntOf 113 [.int .i64 (x0)] (tI_IntOf x0) :=
  ⟨Tryz.f113, Tryz.f113.body.getD .skip, by kernel_rfl, by kernel_rfl, by kernel_rfl, by kernel_rfl, by kernel_rfl, by kernel_rfl⟩
/-! loop.example/g00793/impl.DecAt -/
def aI_DecAt : An := ⟨[], [], []⟩
noncomputable def tI_DecAt (x0 : Bool × SlV × Int × PUnit) (x1 : Int) : T :=
  .call false 111 [Sh1.val (.g [.b, .l, .i .i64]) (x0)] (.v (.o (.b))) fun y1 =>
  .br (!y1) (
    .ret [Sh1.val (.g [.b, .l, .i .i64]) ((false), (⟨(none), ((0 : Nat)), ((0 : Nat))⟩ : SlV), (((0 : Int)) : Int), ()), .bool (false)]) <|
  .call false 134 [.int .i64 (x1)] (.v (.o (.b))) fun y2 =>
  .br (!y2) (
    .ret [Sh1.val (.g [.b, .l, .i .i64]) ((false), (⟨(none), ((0 : Nat)), ((0 : Nat))⟩ : SlV), (((0 : Int)) : Int), ()), .bool (false)]) <|
  .br (decide (x1 ≥ x0.2.2.fst)) (
    .rg <|
    .call true 135 [.int .i64 (x1)] (.v (.o (.c))) fun y3 =>
    .call true (y3.1) [Sh1.val (.g [.b, .l, .i .i64]) (x0), .pointer (some y3.snd)] (.v (.g [.b, .l])) fun y4 =>
    .call true 138 [Sh1.val (.g [.b, .l]) (y4), .int .i64 (x1)] (.t [(.g [.b, .l, .i .i64]), (.o (.b))]) fun y5 =>
    .ret [Sh1.val (.g [.b, .l, .i .i64]) (y5.1), .bool (y5.2.fst)]) <|
  .rg <|
  .call true 140 [.int .i64 (Go.IntKind.i64.wrap (x0.2.2.fst - x1))] (.v (.o (.l))) fun y3 =>
  .call true 139 [Sc.val .l (x0.2.1), Sc.val .l (y3)] (.t [(.o (.l)), (.o (.l))]) fun y4 =>
  .br (decide ((↑y4.2.1.n : Int) > (0 : Int))) (
    .ret [Sh1.val (.g [.b, .l, .i .i64]) ((false), (⟨(none), ((0 : Nat)), ((0 : Nat))⟩ : SlV), (((0 : Int)) : Int), ()), .bool (false)]) <|
  .call false 141 [.bool (x0.fst), Sc.val .l (y4.1)] (.v (.g [.b, .l])) fun y5 =>
  .call false 138 [Sh1.val (.g [.b, .l]) (y5), .int .i64 (x1)] (.t [(.g [.b, .l, .i .i64]), (.o (.b))]) fun y6 =>
  .ret [Sh1.val (.g [.b, .l, .i .i64]) (y6.1), .bool (y6.2.fst)]
theorem fI_DecAt (x0 : Bool × SlV × Int × PUnit) (x1 : Int) : fits Tryz.prog aI_DecAt 114 [Sh1.val (.g [.b, .l, .i .i64]) (x0), .int .i64 (x1)] (tI_DecAt x0 x1) :=
  ⟨Tryz.f114, Tryz.f114.body.getD .skip, by kernel_rfl, by kernel_rfl, by kernel_rfl, by kernel_rfl, by kernel_rfl, by kernel_rfl⟩
/-! loop.example/g00793/impl.CurKnown -/
def aI_CurKnown : An := ⟨[], [], []⟩
noncomputable def tI_CurKnown (x0 : ByteArray) : T :=
  .call false 142 [.string (x0)] (.t [(.g [.s, .s, .i .i64, .i .i64]), (.o (.b))]) fun y1 =>
  .ret [.bool (y1.2.fst)]
theorem fI_CurKnown (x0 : ByteArray) : fits Tryz.prog aI_CurKnown 115 [.string (x0)] (tI_CurKnown x0) :=
  ⟨Tryz.f115, Tryz.f115.body.getD .skip, by kernel_rfl, by kernel_rfl, by kernel_rfl, by kernel_rfl, by kernel_rfl, by kernel_rfl⟩
/-! loop.example/g00793/impl.intSign -/
def aI_intSign : An := ⟨[], [], []⟩
noncomputable def tI_intSign (x0 : Bool × SlV × PUnit) : T :=
  .br ((↑x0.2.1.n : Int) == (0 : Int)) (
    .ret [.int .i64 ((0 : Int))]) <|
  .br (x0.fst) (
    .ret [.int .i64 ((-1 : Int))]) <|
  .ret [.int .i64 ((1 : Int))]
theorem fI_intSign (x0 : Bool × SlV × PUnit) : fits Tryz.prog aI_intSign 116 [Sh1.val (.g [.b, .l]) (x0)] (tI_intSign x0) :=
  ⟨Tryz.f116, Tryz.f116.body.getD .skip, by kernel_rfl, by kernel_rfl, by kernel_rfl, by kernel_rfl, by kernel_rfl, by kernel_rfl⟩
/-! loop.example/g00793/impl.DecText -/
def aI_DecText : An := ⟨[], [], []⟩
noncomputable def tI_DecText (x0 : Bool × SlV × Int × PUnit) : T :=
  .call false 111 [Sh1.val (.g [.b, .l, .i .i64]) (x0)] (.v (.o (.b))) fun y1 =>
  .br (!y1) (
    .ret [.string ({ data := { toList := [] : Array UInt8 } : ByteArray })]) <|
  .rg <|
  .call true 144 [Sc.val .l (x0.2.1)] (.v (.o (.s))) fun y2 =>
  .call true 143 [.string (y2), .int .i64 (Go.IntKind.i64.wrap (x0.2.2.fst + (1 : Int)))] (.v (.o (.s))) fun y3 =>
  .br (decide (x0.2.2.fst > (0 : Int))) (
    .rg <|
    .rq ((0 : Int) ≤ (0 : Int) ∧ (0 : Int) ≤ Go.IntKind.i64.wrap ((↑y3.size : Int) - x0.2.2.fst) ∧ Go.IntKind.i64.wrap ((↑y3.size : Int) - x0.2.2.fst) ≤ (↑y3.size : Int)) <|
    .rq ((y3.extract (Int.toNat (0 : Int)) (Go.IntKind.i64.wrap ((↑y3.size : Int) - x0.2.2.fst)).toNat).size + { data := { toList := [(46 : UInt8)] : Array UInt8 } : ByteArray }.size ≤ (9223372036854775807 : Nat)) <|
    .rq ((0 : Int) ≤ Go.IntKind.i64.wrap ((↑y3.size : Int) - x0.2.2.fst) ∧ Go.IntKind.i64.wrap ((↑y3.size : Int) - x0.2.2.fst) ≤ (↑y3.size : Int) ∧ (↑y3.size : Int) ≤ (↑y3.size : Int)) <|
    .rq ((y3.extract (Int.toNat (0 : Int)) (Go.IntKind.i64.wrap ((↑y3.size : Int) - x0.2.2.fst)).toNat ++ { data := { toList := [(46 : UInt8)] : Array UInt8 } : ByteArray }).size + (y3.extract (Go.IntKind.i64.wrap ((↑y3.size : Int) - x0.2.2.fst)).toNat (↑y3.size : Int).toNat).size ≤ (9223372036854775807 : Nat)) <|
    .br (x0.fst) (
      .rq ({ data := { toList := [(45 : UInt8)] : Array UInt8 } : ByteArray }.size + (y3.extract (Int.toNat (0 : Int)) (Go.IntKind.i64.wrap ((↑y3.size : Int) - x0.2.2.fst)).toNat ++ { data := { toList := [(46 : UInt8)] : Array UInt8 } : ByteArray } ++ y3.extract (Go.IntKind.i64.wrap ((↑y3.size : Int) - x0.2.2.fst)).toNat (↑y3.size : Int).toNat).size ≤ (9223372036854775807 : Nat)) <|
      .ret [.string ({ data := { toList := [(45 : UInt8)] : Array UInt8 } : ByteArray } ++ (y3.extract (Int.toNat (0 : Int)) (Go.IntKind.i64.wrap ((↑y3.size : Int) - x0.2.2.fst)).toNat ++ { data := { toList := [(46 : UInt8)] : Array UInt8 } : ByteArray } ++ y3.extract (Go.IntKind.i64.wrap ((↑y3.size : Int) - x0.2.2.fst)).toNat (↑y3.size : Int).toNat))]) <|
    .ret [.string (y3.extract (Int.toNat (0 : Int)) (Go.IntKind.i64.wrap ((↑y3.size : Int) - x0.2.2.fst)).toNat ++ { data := { toList := [(46 : UInt8)] : Array UInt8 } : ByteArray } ++ y3.extract (Go.IntKind.i64.wrap ((↑y3.size : Int) - x0.2.2.fst)).toNat (↑y3.size : Int).toNat)]) <|
  .br (x0.fst) (
    .rq ({ data := { toList := [(45 : UInt8)] : Array UInt8 } : ByteArray }.size + y3.size ≤ (9223372036854775807 : Nat)) <|
    .ret [.string ({ data := { toList := [(45 : UInt8)] : Array UInt8 } : ByteArray } ++ y3)]) <|
  .ret [.string (y3)]
theorem fI_DecText (x0 : Bool × SlV × Int × PUnit) : fits Tryz.prog aI_DecText 117 [Sh1.val (.g [.b, .l, .i .i64]) (x0)] (tI_DecText x0) :=
  ⟨Tryz.f117, Tryz.f117.body.getD .skip, by kernel_rfl, by kernel_rfl, by kernel_rfl, by kernel_rfl, by kernel_rfl, by kernel_rfl⟩
/-! loop.example/g00793/impl.CurPlaces -/
def aI_CurPlaces : An := ⟨[], [], []⟩
noncomputable def tI_CurPlaces (x0 : ByteArray) : T :=
  .call false 142 [.string (x0)] (.t [(.g [.s, .s, .i .i64, .i .i64]), (.o (.b))]) fun y1 =>
  .ret [.int .i64 (y1.1.2.2.fst)]
theorem fI_CurPlaces (x0 : ByteArray) : fits Tryz.prog aI_CurPlaces 118 [.string (x0)] (tI_CurPlaces x0) :=
  ⟨Tryz.f118, Tryz.f118.body.getD .skip, by kernel_rfl, by kernel_rfl, by kernel_rfl, by kernel_rfl, by kernel_rfl, by kernel_rfl⟩
/-! loop.example/g00793/impl.IntText -/
def aI_IntText : An := ⟨[], [], []⟩
noncomputable def tI_IntText (x0 : Int) : T :=
  .call false 145 [.int .i64 (x0)] (.v (.o (.s))) fun y1 =>
  .ret [.string (y1)]
theorem fI_IntText (x0 : Int) : fits Tryz.prog aI_IntText 119 [.int .i64 (x0)] (tI_IntText x0) :=
  ⟨Tryz.f119, Tryz.f119.body.getD .skip, by kernel_rfl, by kernel_rfl, by kernel_rfl, by kernel_rfl, by kernel_rfl, by kernel_rfl⟩
/-! loop.example/g00793/impl.DecMul -/
def aI_DecMul : An := ⟨[], [], []⟩
noncomputable def tI_DecMul (x0 : Bool × SlV × Int × PUnit) (x1 : Bool × SlV × Int × PUnit) : T :=
  .call false 111 [Sh1.val (.g [.b, .l, .i .i64]) (x0)] (.v (.o (.b))) fun y1 =>
  .br (!y1) (
    .ret [Sh1.val (.g [.b, .l, .i .i64]) ((false), (⟨(none), ((0 : Nat)), ((0 : Nat))⟩ : SlV), (((0 : Int)) : Int), ()), .bool (false)]) <|
  .call false 111 [Sh1.val (.g [.b, .l, .i .i64]) (x1)] (.v (.o (.b))) fun y2 =>
  .br (!y2) (
    .ret [Sh1.val (.g [.b, .l, .i .i64]) ((false), (⟨(none), ((0 : Nat)), ((0 : Nat))⟩ : SlV), (((0 : Int)) : Int), ()), .bool (false)]) <|
  .rg <|
  .call true 146 [Sh1.val (.g [.b, .l]) ((x0.fst), x0.2.1, ()), Sh1.val (.g [.b, .l]) ((x1.fst), x1.2.1, ())] (.v (.g [.b, .l])) fun y3 =>
  .call true 138 [Sh1.val (.g [.b, .l]) (y3), .int .i64 (Go.IntKind.i64.wrap (x0.2.2.fst + x1.2.2.fst))] (.t [(.g [.b, .l, .i .i64]), (.o (.b))]) fun y4 =>
  .ret [Sh1.val (.g [.b, .l, .i .i64]) (y4.1), .bool (y4.2.fst)]
theorem fI_DecMul (x0 : Bool × SlV × Int × PUnit) (x1 : Bool × SlV × Int × PUnit) : fits Tryz.prog aI_DecMul 120 [Sh1.val (.g [.b, .l, .i .i64]) (x0), Sh1.val (.g [.b, .l, .i .i64]) (x1)] (tI_DecMul x0 x1) :=
  ⟨Tryz.f120, Tryz.f120.body.getD .skip, by kernel_rfl, by kernel_rfl, by kernel_rfl, by kernel_rfl, by kernel_rfl, by kernel_rfl⟩
/-! loop.example/g00793/impl.roundModes -/
def aI_roundModes : An := ⟨[], [], []⟩
noncomputable def tI_roundModes  : T :=
  .ret [.agg #[.string ({ data := { toList := [(100 : UInt8), (111 : UInt8), (119 : UInt8), (110 : UInt8)] : Array UInt8 } : ByteArray }), (Go.Value.func (Go.Fn.func (147 : Nat)) { toList := [] : Array Go.Value } { toList := [] : Array Go.Value }), .string ({ data := { toList := [(117 : UInt8), (112 : UInt8)] : Array UInt8 } : ByteArray }), (Go.Value.func (Go.Fn.func (148 : Nat)) { toList := [] : Array Go.Value } { toList := [] : Array Go.Value }), .string ({ data := { toList := [(102 : UInt8), (108 : UInt8), (111 : UInt8), (111 : UInt8), (114 : UInt8)] : Array UInt8 } : ByteArray }), (Go.Value.func (Go.Fn.func (149 : Nat)) { toList := [] : Array Go.Value } { toList := [] : Array Go.Value }), .string ({ data := { toList := [(99 : UInt8), (101 : UInt8), (105 : UInt8), (108 : UInt8)] : Array UInt8 } : ByteArray }), (Go.Value.func (Go.Fn.func (150 : Nat)) { toList := [] : Array Go.Value } { toList := [] : Array Go.Value }), .string ({ data := { toList := [(104 : UInt8), (97 : UInt8), (108 : UInt8), (102 : UInt8), (100 : UInt8), (111 : UInt8), (119 : UInt8), (110 : UInt8)] : Array UInt8 } : ByteArray }), (Go.Value.func (Go.Fn.func (151 : Nat)) { toList := [] : Array Go.Value } { toList := [] : Array Go.Value }), .string ({ data := { toList := [(104 : UInt8), (97 : UInt8), (108 : UInt8), (102 : UInt8), (117 : UInt8), (112 : UInt8)] : Array UInt8 } : ByteArray }), (Go.Value.func (Go.Fn.func (152 : Nat)) { toList := [] : Array Go.Value } { toList := [] : Array Go.Value }), .string ({ data := { toList := [(104 : UInt8), (97 : UInt8), (108 : UInt8), (102 : UInt8), (101 : UInt8), (118 : UInt8), (101 : UInt8), (110 : UInt8)] : Array UInt8 } : ByteArray }), (Go.Value.func (Go.Fn.func (153 : Nat)) { toList := [] : Array Go.Value } { toList := [] : Array Go.Value })]]
theorem fI_roundModes  : fits Tryz.prog aI_roundModes 121 [] (tI_roundModes ) :=
  ⟨Tryz.f121, Tryz.f121.body.getD .skip, by kernel_rfl, by kernel_rfl, by kernel_rfl, by kernel_rfl, by kernel_rfl, by kernel_rfl⟩
/-! loop.example/g00793/spec.l02Cmp -/
def aS_l02Cmp : An := ⟨[(6, [.s 5], [.o (.o (.i .i64))])], [], []⟩
noncomputable def tS_l02Cmp (x0 : SlV) (x1 : SlV) : T :=
  .br ((↑x0.n : Int) != (↑x1.n : Int)) (
    .br (decide ((↑x0.n : Int) < (↑x1.n : Int))) (
      .ret [.int .i64 ((-1 : Int))]) <|
    .ret [.int .i64 ((1 : Int))]) <|
  .lp [.o (.o (.i .i64))] [.v (.int .i64 (Go.IntKind.i64.wrap ((↑x0.n : Int) - (1 : Int))))] fun y1 =>
  .br (decide (y1.fst ≥ (0 : Int))) (
    .rg <|
    .el (x0.a) (x0.n) (y1.fst) fun y2 =>
    .ld true (y2.add (Int.toNat y1.fst * (1 : Nat))) (.o (.i .i64)) fun y3 =>
    .el (x1.a) (x1.n) (y1.fst) fun y4 =>
    .ld true (y4.add (Int.toNat y1.fst * (1 : Nat))) (.o (.i .i64)) fun y5 =>
    .br (decide (y3 < y5)) (
      .ret [.int .i64 ((-1 : Int))]) <|
    .rg <|
    .el (x0.a) (x0.n) (y1.fst) fun y6 =>
    .ld true (y6.add (Int.toNat y1.fst * (1 : Nat))) (.o (.i .i64)) fun y7 =>
    .el (x1.a) (x1.n) (y1.fst) fun y8 =>
    .ld true (y8.add (Int.toNat y1.fst * (1 : Nat))) (.o (.i .i64)) fun y9 =>
    .br (decide (y7 > y9)) (
      .ret [.int .i64 ((1 : Int))]) <|
    .nx 0 [.v (.int .i64 (Go.IntKind.i64.wrap (y1.fst - (1 : Int))))]) <|
  .ret [.int .i64 ((0 : Int))]
theorem fS_l02Cmp (x0 : SlV) (x1 : SlV) : fits Tryz.prog aS_l02Cmp 125 [Sc.val .l (x0), Sc.val .l (x1)] (tS_l02Cmp x0 x1) :=
  ⟨Tryz.f125, Tryz.f125.body.getD .skip, by kernel_rfl, by kernel_rfl, by kernel_rfl, by kernel_rfl, by kernel_rfl, by kernel_rfl⟩
/-! loop.example/g00793/spec.l02Cap -/
def aS_l02Cap : An := ⟨[], [], []⟩
noncomputable def tS_l02Cap (x0 : SlV) : T :=
  .call false 156 [Sc.val .l (x0)] (.v (.o (.l))) fun y1 =>
  .br (decide ((↑y1.n : Int) > (50 : Int))) (
    .ret [.slice (none) ((0 : Nat)) ((0 : Nat))]) <|
  .ret [Sc.val .l (y1)]
theorem fS_l02Cap (x0 : SlV) : fits Tryz.prog aS_l02Cap 126 [Sc.val .l (x0)] (tS_l02Cap x0) :=
  ⟨Tryz.f126, Tryz.f126.body.getD .skip, by kernel_rfl, by kernel_rfl, by kernel_rfl, by kernel_rfl, by kernel_rfl, by kernel_rfl⟩
/-! loop.example/g00793/spec.l02Mul -/
def aS_l02Mul : An := ⟨[(5, [.s 5, .s 28], [.a 3, .o (.o (.i .i64))]), (9, [.s 5, .s 8, .s 35], [.a 3, .o (.o (.i .i64)), .o (.o (.i .i64))])], [], []⟩
noncomputable def tS_l02Mul (x0 : SlV) (x1 : SlV) : T :=
  .br ((↑x0.n : Int) == (0 : Int)) (
    .ret [.slice (none) ((0 : Nat)) ((0 : Nat))]) <|
  .br ((↑x1.n : Int) == (0 : Int)) (
    .ret [.slice (none) ((0 : Nat)) ((0 : Nat))]) <|
  .rq ((0 : Int) ≤ Go.IntKind.i64.wrap ((↑x0.n : Int) + (↑x1.n : Int)) ∧ Go.IntKind.i64.wrap ((↑x0.n : Int) + (↑x1.n : Int)) ≤ Go.IntKind.i64.wrap ((↑x0.n : Int) + (↑x1.n : Int)) ∧ (↑(8 : Nat) : Int) * Go.IntKind.i64.wrap ((↑x0.n : Int) + (↑x1.n : Int)) ≤ (281474976710656 : Int) ∧ Go.IntKind.i64.wrap ((↑x0.n : Int) + (↑x1.n : Int)) ≤ (9223372036854775807 : Int)) <|
  .lp [.a 3, .o (.o (.i .i64))] [.a 3 ((Go.IntKind.i64.wrap ((↑x0.n : Int) + (↑x1.n : Int))).toNat) ((Go.madeCells { toList := [Go.Value.int Go.IntKind.i64 (0 : Int)] : Array Go.Value } ((Go.IntKind.i64.wrap ((↑x0.n : Int) + (↑x1.n : Int))).toNat * (1 : Nat))).toList), .v (.int .i64 ((0 : Int)))] fun y1 =>
  .br (decide (y1.2.fst < (↑x0.n : Int))) (
    .el (x0.a) (x0.n) (y1.2.fst) fun y2 =>
    .ld false (y2.add (Int.toNat y1.2.fst * (1 : Nat))) (.o (.i .i64)) fun y3 =>
    .lp [.a 3, .o (.o (.i .i64)), .o (.o (.i .i64))] [.a 3 (y1.1.fst) (y1.1.snd), .v (.int .i64 ((0 : Int))), .v (.int .i64 ((0 : Int)))] fun y4 =>
    .br (decide (y4.2.2.fst < (↑x1.n : Int))) (
      .el (x1.a) (x1.n) (y4.2.2.fst) fun y5 =>
      .ld false (y5.add (Int.toNat y4.2.2.fst * (1 : Nat))) (.o (.i .i64)) fun y6 =>
      .rq ((0 : Int) ≤ Go.IntKind.i64.wrap (y1.2.fst + y4.2.2.fst) ∧ Go.IntKind.i64.wrap (y1.2.fst + y4.2.2.fst) < (↑y4.1.fst : Int)) <|
      .xs (y4.1.snd) ((Go.IntKind.i64.wrap (y1.2.fst + y4.2.2.fst)).toNat * (1 : Nat)) (.o (.i .i64)) fun y7 =>
      .rq ((1000000000 : Int) ≠ (0 : Int)) <|
      .rq ((0 : Int) ≤ Go.IntKind.i64.wrap (y1.2.fst + y4.2.2.fst) ∧ Go.IntKind.i64.wrap (y1.2.fst + y4.2.2.fst) < (↑y4.1.fst : Int)) <|
      .rq ((Go.IntKind.i64.wrap (y1.2.fst + y4.2.2.fst)).toNat * (1 : Nat) + [Go.Value.int Go.IntKind.i64 ((Go.IntKind.i64.wrap (Go.IntKind.i64.wrap (y7 + Go.IntKind.i64.wrap (y3 * y6)) + y4.2.fst)).tmod (1000000000 : Int))].length ≤ y4.1.snd.length) <|
      .rq ((1000000000 : Int) ≠ (0 : Int)) <|
      .nx 1 [.a 3 (y4.1.fst) (setl y4.1.snd ((Go.IntKind.i64.wrap (y1.2.fst + y4.2.2.fst)).toNat * (1 : Nat)) [Go.Value.int Go.IntKind.i64 ((Go.IntKind.i64.wrap (Go.IntKind.i64.wrap (y7 + Go.IntKind.i64.wrap (y3 * y6)) + y4.2.fst)).tmod (1000000000 : Int))]), .v (.int .i64 (Go.IntKind.i64.wrap ((Go.IntKind.i64.wrap (Go.IntKind.i64.wrap (y7 + Go.IntKind.i64.wrap (y3 * y6)) + y4.2.fst)).tdiv (1000000000 : Int)))), .v (.int .i64 (Go.IntKind.i64.wrap (y4.2.2.fst + (1 : Int))))]) <|
    .rq ((0 : Int) ≤ Go.IntKind.i64.wrap (y1.2.fst + (↑x1.n : Int)) ∧ Go.IntKind.i64.wrap (y1.2.fst + (↑x1.n : Int)) < (↑y4.1.fst : Int)) <|
    .rq ((Go.IntKind.i64.wrap (y1.2.fst + (↑x1.n : Int))).toNat * (1 : Nat) + [(Sh1.o (Sc.i Go.IntKind.i64)).val y4.2.fst].length ≤ y4.1.snd.length) <|
    .nx 0 [.a 3 (y4.1.fst) (setl y4.1.snd ((Go.IntKind.i64.wrap (y1.2.fst + (↑x1.n : Int))).toNat * (1 : Nat)) [(Sh1.o (Sc.i Go.IntKind.i64)).val y4.2.fst]), .v (.int .i64 (Go.IntKind.i64.wrap (y1.2.fst + (1 : Int))))]) <|
  .fz (y1.1.fst) (y1.1.snd) 3 fun b2 c2 =>
  .call false 156 [.slice (some { block := b2, off := (0 : Nat) : Go.Addr }) (y1.1.fst) (c2)] (.v (.o (.l))) fun y3 =>
  .ret [Sc.val .l (y3)]
theorem fS_l02Mul (x0 : SlV) (x1 : SlV) : fits Tryz.prog aS_l02Mul 127 [Sc.val .l (x0), Sc.val .l (x1)] (tS_l02Mul x0 x1) :=
  ⟨Tryz.f127, Tryz.f127.body.getD .skip, by kernel_rfl, by kernel_rfl, by kernel_rfl, by kernel_rfl, by kernel_rfl, by kernel_rfl⟩
/-! loop.example/g00793/spec.NatTen -/
def aS_NatTen : An := ⟨[(6, [.s 4, .s 5], [.o (.o (.i .i64)), .o (.o (.i .i64))])], [], []⟩
noncomputable def tS_NatTen (x0 : Int) : T :=
  .call false 57 [.int .i64 (x0), .int .i64 ((0 : Int)), .int .i64 ((449 : Int))] (.v (.o (.b))) fun y1 =>
  .br (!y1) (
    .ret [.slice (none) ((0 : Nat)) ((0 : Nat))]) <|
  .rq ((9 : Int) ≠ (0 : Int)) <|
  .rq ((0 : Int) ≤ Go.IntKind.i64.wrap (x0.tdiv (9 : Int)) ∧ Go.IntKind.i64.wrap (x0.tdiv (9 : Int)) ≤ Go.IntKind.i64.wrap (x0.tdiv (9 : Int)) ∧ (↑(8 : Nat) : Int) * Go.IntKind.i64.wrap (x0.tdiv (9 : Int)) ≤ (281474976710656 : Int) ∧ Go.IntKind.i64.wrap (x0.tdiv (9 : Int)) ≤ (9223372036854775807 : Int)) <|
  .lp [.o (.o (.i .i64)), .o (.o (.i .i64))] [.v (.int .i64 ((1 : Int))), .v (.int .i64 ((0 : Int)))] fun y2 =>
  .rq ((9 : Int) ≠ (0 : Int)) <|
  .br (decide (y2.2.fst < x0.tmod (9 : Int))) (
    .nx 0 [.v (.int .i64 (Go.IntKind.i64.wrap (y2.fst * (10 : Int)))), .v (.int .i64 (Go.IntKind.i64.wrap (y2.2.fst + (1 : Int))))]) <|
  .rq ([(Sh1.o (Sc.i Go.IntKind.i64)).val y2.fst].length = (1 : Nat) * (1 : Nat)) <|
  .rq (one [(Sh1.o (Sc.i Go.IntKind.i64)).val y2.fst] = true ∧ ((Go.IntKind.i64.wrap (x0.tdiv (9 : Int))).toNat + (1 : Nat)) * (8 : Nat) ≤ (140737488355328 : Nat) ∧ (Go.IntKind.i64.wrap (x0.tdiv (9 : Int))).toNat + (1 : Nat) ≤ (9223372036854775807 : Nat)) <|
  .fz ((Go.IntKind.i64.wrap (x0.tdiv (9 : Int))).toNat + (1 : Nat)) ((Go.madeCells { toList := [Go.Value.int Go.IntKind.i64 (0 : Int)] : Array Go.Value } ((Go.IntKind.i64.wrap (x0.tdiv (9 : Int))).toNat * (1 : Nat))).toList ++ [(Sh1.o (Sc.i Go.IntKind.i64)).val y2.fst]) 3 fun b3 c3 =>
  .ret [.slice (some { block := b3, off := (0 : Nat) : Go.Addr }) ((Go.IntKind.i64.wrap (x0.tdiv (9 : Int))).toNat + (1 : Nat)) (c3)]
theorem fS_NatTen (x0 : Int) : fits Tryz.prog aS_NatTen 128 [.int .i64 (x0)] (tS_NatTen x0) :=
  ⟨Tryz.f128, Tryz.f128.body.getD .skip, by kernel_rfl, by kernel_rfl, by kernel_rfl, by kernel_rfl, by kernel_rfl, by kernel_rfl⟩
/-! loop.example/g00793/spec.NatDiv -/
def aS_NatDiv : An := ⟨[], [], []⟩
noncomputable def tS_NatDiv (x0 : SlV) (x1 : SlV) : T :=
  .call false 98 [Sc.val .l (x0)] (.v (.o (.b))) fun y1 =>
  .br (!y1) (
    .ret [.slice (none) ((0 : Nat)) ((0 : Nat)), .slice (none) ((0 : Nat)) ((0 : Nat))]) <|
  .call false 98 [Sc.val .l (x1)] (.v (.o (.b))) fun y2 =>
  .br (!y2) (
    .ret [.slice (none) ((0 : Nat)) ((0 : Nat)), .slice (none) ((0 : Nat)) ((0 : Nat))]) <|
  .br ((↑x1.n : Int) == (0 : Int)) (
    .ret [.slice (none) ((0 : Nat)) ((0 : Nat)), .slice (none) ((0 : Nat)) ((0 : Nat))]) <|
  .call false 157 [Sc.val .l (x0), Sc.val .l (x1)] (.t [(.o (.l)), (.o (.l))]) fun y3 =>
  .ret [Sc.val .l (y3.1), Sc.val .l (y3.2.1)]
theorem fS_NatDiv (x0 : SlV) (x1 : SlV) : fits Tryz.prog aS_NatDiv 129 [Sc.val .l (x0), Sc.val .l (x1)] (tS_NatDiv x0 x1) :=
  ⟨Tryz.f129, Tryz.f129.body.getD .skip, by kernel_rfl, by kernel_rfl, by kernel_rfl, by kernel_rfl, by kernel_rfl, by kernel_rfl⟩
/-! loop.example/g00793/spec.l08Table -/
def aS_l08Table : An := ⟨[], [], []⟩
noncomputable def tS_l08Table  : T :=
  .fz ((20 : Nat)) [.string ({ data := { toList := [(65 : UInt8), (85 : UInt8), (68 : UInt8)] : Array UInt8 } : ByteArray }), .string ({ data := { toList := [(48 : UInt8), (51 : UInt8), (54 : UInt8)] : Array UInt8 } : ByteArray }), .int .i64 ((2 : Int)), .int .i64 ((5 : Int)), .string ({ data := { toList := [(66 : UInt8), (72 : UInt8), (68 : UInt8)] : Array UInt8 } : ByteArray }), .string ({ data := { toList := [(48 : UInt8), (52 : UInt8), (56 : UInt8)] : Array UInt8 } : ByteArray }), .int .i64 ((3 : Int)), .int .i64 ((5 : Int)), .string ({ data := { toList := [(67 : UInt8), (65 : UInt8), (68 : UInt8)] : Array UInt8 } : ByteArray }), .string ({ data := { toList := [(49 : UInt8), (50 : UInt8), (52 : UInt8)] : Array UInt8 } : ByteArray }), .int .i64 ((2 : Int)), .int .i64 ((5 : Int)), .string ({ data := { toList := [(67 : UInt8), (72 : UInt8), (70 : UInt8)] : Array UInt8 } : ByteArray }), .string ({ data := { toList := [(55 : UInt8), (53 : UInt8), (54 : UInt8)] : Array UInt8 } : ByteArray }), .int .i64 ((2 : Int)), .int .i64 ((5 : Int)), .string ({ data := { toList := [(67 : UInt8), (76 : UInt8), (70 : UInt8)] : Array UInt8 } : ByteArray }), .string ({ data := { toList := [(57 : UInt8), (57 : UInt8), (48 : UInt8)] : Array UInt8 } : ByteArray }), .int .i64 ((4 : Int)), .int .i64 ((1 : Int)), .string ({ data := { toList := [(67 : UInt8), (90 : UInt8), (75 : UInt8)] : Array UInt8 } : ByteArray }), .string ({ data := { toList := [(50 : UInt8), (48 : UInt8), (51 : UInt8)] : Array UInt8 } : ByteArray }), .int .i64 ((2 : Int)), .int .i64 ((100 : Int)), .string ({ data := { toList := [(68 : UInt8), (75 : UInt8), (75 : UInt8)] : Array UInt8 } : ByteArray }), .string ({ data := { toList := [(50 : UInt8), (48 : UInt8), (56 : UInt8)] : Array UInt8 } : ByteArray }), .int .i64 ((2 : Int)), .int .i64 ((50 : Int)), .string ({ data := { toList := [(69 : UInt8), (85 : UInt8), (82 : UInt8)] : Array UInt8 } : ByteArray }), .string ({ data := { toList := [(57 : UInt8), (55 : UInt8), (56 : UInt8)] : Array UInt8 } : ByteArray }), .int .i64 ((2 : Int)), .int .i64 ((1 : Int)), .string ({ data := { toList := [(71 : UInt8), (66 : UInt8), (80 : UInt8)] : Array UInt8 } : ByteArray }), .string ({ data := { toList := [(56 : UInt8), (50 : UInt8), (54 : UInt8)] : Array UInt8 } : ByteArray }), .int .i64 ((2 : Int)), .int .i64 ((1 : Int)), .string ({ data := { toList := [(72 : UInt8), (85 : UInt8), (70 : UInt8)] : Array UInt8 } : ByteArray }), .string ({ data := { toList := [(51 : UInt8), (52 : UInt8), (56 : UInt8)] : Array UInt8 } : ByteArray }), .int .i64 ((2 : Int)), .int .i64 ((500 : Int)), .string ({ data := { toList := [(73 : UInt8), (83 : UInt8), (75 : UInt8)] : Array UInt8 } : ByteArray }), .string ({ data := { toList := [(51 : UInt8), (53 : UInt8), (50 : UInt8)] : Array UInt8 } : ByteArray }), .int .i64 ((0 : Int)), .int .i64 ((1 : Int)), .string ({ data := { toList := [(74 : UInt8), (80 : UInt8), (89 : UInt8)] : Array UInt8 } : ByteArray }), .string ({ data := { toList := [(51 : UInt8), (57 : UInt8), (50 : UInt8)] : Array UInt8 } : ByteArray }), .int .i64 ((0 : Int)), .int .i64 ((1 : Int)), .string ({ data := { toList := [(75 : UInt8), (82 : UInt8), (87 : UInt8)] : Array UInt8 } : ByteArray }), .string ({ data := { toList := [(52 : UInt8), (49 : UInt8), (48 : UInt8)] : Array UInt8 } : ByteArray }), .int .i64 ((0 : Int)), .int .i64 ((10 : Int)), .string ({ data := { toList := [(75 : UInt8), (87 : UInt8), (68 : UInt8)] : Array UInt8 } : ByteArray }), .string ({ data := { toList := [(52 : UInt8), (49 : UInt8), (52 : UInt8)] : Array UInt8 } : ByteArray }), .int .i64 ((3 : Int)), .int .i64 ((5 : Int)), .string ({ data := { toList := [(78 : UInt8), (79 : UInt8), (75 : UInt8)] : Array UInt8 } : ByteArray }), .string ({ data := { toList := [(53 : UInt8), (55 : UInt8), (56 : UInt8)] : Array UInt8 } : ByteArray }), .int .i64 ((2 : Int)), .int .i64 ((100 : Int)), .string ({ data := { toList := [(78 : UInt8), (90 : UInt8), (68 : UInt8)] : Array UInt8 } : ByteArray }), .string ({ data := { toList := [(53 : UInt8), (53 : UInt8), (52 : UInt8)] : Array UInt8 } : ByteArray }), .int .i64 ((2 : Int)), .int .i64 ((10 : Int)), .string ({ data := { toList := [(80 : UInt8), (76 : UInt8), (78 : UInt8)] : Array UInt8 } : ByteArray }), .string ({ data := { toList := [(57 : UInt8), (56 : UInt8), (53 : UInt8)] : Array UInt8 } : ByteArray }), .int .i64 ((2 : Int)), .int .i64 ((1 : Int)), .string ({ data := { toList := [(83 : UInt8), (69 : UInt8), (75 : UInt8)] : Array UInt8 } : ByteArray }), .string ({ data := { toList := [(55 : UInt8), (53 : UInt8), (50 : UInt8)] : Array UInt8 } : ByteArray }), .int .i64 ((2 : Int)), .int .i64 ((100 : Int)), .string ({ data := { toList := [(84 : UInt8), (78 : UInt8), (68 : UInt8)] : Array UInt8 } : ByteArray }), .string ({ data := { toList := [(55 : UInt8), (56 : UInt8), (56 : UInt8)] : Array UInt8 } : ByteArray }), .int .i64 ((3 : Int)), .int .i64 ((10 : Int)), .string ({ data := { toList := [(85 : UInt8), (83 : UInt8), (68 : UInt8)] : Array UInt8 } : ByteArray }), .string ({ data := { toList := [(56 : UInt8), (52 : UInt8), (48 : UInt8)] : Array UInt8 } : ByteArray }), .int .i64 ((2 : Int)), .int .i64 ((1 : Int))] 112 fun b1 c1 =>
  .ret [.slice (some { block := b1, off := (0 : Nat) : Go.Addr }) ((20 : Nat)) (c1)]
theorem fS_l08Table  : fits Tryz.prog aS_l08Table 130 [] (tS_l08Table ) :=
  ⟨Tryz.f130, Tryz.f130.body.getD .skip, by kernel_rfl, by kernel_rfl, by kernel_rfl, by kernel_rfl, by kernel_rfl, by kernel_rfl⟩
/-! loop.example/g00793/impl.sameInts -/
def aI_sameInts : An := ⟨[(4, [.s 13], [.o (.o (.i .i64))])], [], []⟩
noncomputable def tI_sameInts (x0 : SlV) (x1 : SlV) : T :=
  .br ((↑x0.n : Int) != (↑x1.n : Int)) (
    .ret [.bool (false)]) <|
  .lp [.o (.o (.i .i64))] [.v (.int .i64 ((0 : Int)))] fun y1 =>
  .br (decide (y1.fst < (↑x0.n : Int))) (
    .rg <|
    .el (x0.a) (x0.n) (y1.fst) fun y2 =>
    .ld true (y2.add (Int.toNat y1.fst * (1 : Nat))) (.o (.i .i64)) fun y3 =>
    .el (x1.a) (x1.n) (y1.fst) fun y4 =>
    .ld true (y4.add (Int.toNat y1.fst * (1 : Nat))) (.o (.i .i64)) fun y5 =>
    .br (y3 != y5) (
      .ret [.bool (false)]) <|
    .nx 0 [.v (.int .i64 (Go.IntKind.i64.wrap (y1.fst + (1 : Int))))]) <|
  .ret [.bool (true)]
theorem fI_sameInts (x0 : SlV) (x1 : SlV) : fits Tryz.prog aI_sameInts 131 [Sc.val .l (x0), Sc.val .l (x1)] (tI_sameInts x0 x1) :=
  ⟨Tryz.f131, Tryz.f131.body.getD .skip, by kernel_rfl, by kernel_rfl, by kernel_rfl, by kernel_rfl, by kernel_rfl, by kernel_rfl⟩
/-! loop.example/g00793/impl.IntOk -/
def aI_IntOk : An := ⟨[], [], []⟩
noncomputable def tI_IntOk (x0 : Bool × SlV × PUnit) : T :=
  .call false 158 [Sc.val .l (x0.2.1)] (.v (.o (.b))) fun y1 =>
  .br (y1) (
    .br (!x0.fst) (
      .ret [.bool (true)]) <|
    .ret [.bool (decide ((↑x0.2.1.n : Int) > (0 : Int)))]) <|
  .ret [.bool (false)]
theorem fI_IntOk (x0 : Bool × SlV × PUnit) : fits Tryz.prog aI_IntOk 132 [Sh1.val (.g [.b, .l]) (x0)] (tI_IntOk x0) :=
  ⟨Tryz.f132, Tryz.f132.body.getD .skip, by kernel_rfl, by kernel_rfl, by kernel_rfl, by kernel_rfl, by kernel_rfl, by kernel_rfl⟩
/-! slices.IndexFunc[[]int,int] -/
def aX_IndexFunc_int : An := ⟨[(2, [.s 8], [.o (.o (.i .i64))])], [], []⟩
noncomputable def tX_IndexFunc_int (x0 : SlV) (x1 : Nat) : T :=
  .lp [.o (.o (.i .i64))] [.v (.int .i64 ((0 : Int)))] fun y1 =>
  .br (decide (y1.fst < (↑x0.n : Int))) (
    .el (x0.a) (x0.n) (y1.fst) fun y2 =>
    .ld false (y2.add (Int.toNat y1.fst * (1 : Nat))) (.o (.i .i64)) fun y3 =>
    .call false (x1) [.int .i64 (y3)] (.v (.o (.b))) fun y4 =>
    .br (y4) (
      .ret [.int .i64 (y1.fst)]) <|
    .nx 0 [.v (.int .i64 (Go.IntKind.i64.wrap (y1.fst + (1 : Int))))]) <|
  .ret [.int .i64 ((-1 : Int))]
theorem fX_IndexFunc_int (x0 : SlV) (x1 : Nat) : fits Tryz.prog aX_IndexFunc_int 133 [Sc.val .l (x0), (Go.Value.func (Go.Fn.func x1) { toList := [] : Array Go.Value } { toList := [] : Array Go.Value })] (tX_IndexFunc_int x0 x1) :=
  ⟨Tryz.f133, Tryz.f133.body.getD .skip, by kernel_rfl, by kernel_rfl, by kernel_rfl, by kernel_rfl, by kernel_rfl, by kernel_rfl⟩
/-! loop.example/g00793/impl.isScale -/
def aI_isScale : An := ⟨[], [], []⟩
noncomputable def tI_isScale (x0 : Int) : T :=
  .br (decide (x0 ≥ (0 : Int))) (
    .ret [.bool (decide (x0 ≤ (30 : Int)))]) <|
  .ret [.bool (false)]
theorem fI_isScale (x0 : Int) : fits Tryz.prog aI_isScale 134 [.int .i64 (x0)] (tI_isScale x0) :=
  ⟨Tryz.f134, Tryz.f134.body.getD .skip, by kernel_rfl, by kernel_rfl, by kernel_rfl, by kernel_rfl, by kernel_rfl, by kernel_rfl⟩
/-! loop.example/g00793/impl.scaled -/
def aI_scaled : An := ⟨[], [], []⟩
noncomputable def tI_scaled (x0 : Int) : T :=
  .es [.int .i64 (x0)] 3 fun b1 =>
  .ret [(Go.Value.func (Go.Fn.func (159 : Nat)) { toList := [] : Array Go.Value } { toList := [Go.Value.pointer (some { block := b1, off := (0 : Nat) : Go.Addr })] : Array Go.Value })]
theorem fI_scaled (x0 : Int) : fits Tryz.prog aI_scaled 135 [.int .i64 (x0)] (tI_scaled x0) :=
  ⟨Tryz.f135, Tryz.f135.body.getD .skip, by kernel_rfl, by kernel_rfl, by kernel_rfl, by kernel_rfl, by kernel_rfl, by kernel_rfl⟩
/-! loop.example/g00793/impl.intCmp -/
def aI_intCmp : An := ⟨[], [], []⟩
noncomputable def tI_intCmp (x0 : Bool × SlV × PUnit) (x1 : Bool × SlV × PUnit) : T :=
  .rg <|
  .call true 162 [Sh1.val (.g [.b, .l]) (x1)] (.v (.g [.b, .l])) fun y1 =>
  .call true 161 [Sh1.val (.g [.b, .l]) (x0), Sh1.val (.g [.b, .l]) (y1)] (.v (.g [.b, .l])) fun y2 =>
  .call true 116 [Sh1.val (.g [.b, .l]) (y2)] (.v (.o (.i .i64))) fun y3 =>
  .ret [.int .i64 (y3)]
theorem fI_intCmp (x0 : Bool × SlV × PUnit) (x1 : Bool × SlV × PUnit) : fits Tryz.prog aI_intCmp 136 [Sh1.val (.g [.b, .l]) (x0), Sh1.val (.g [.b, .l]) (x1)] (tI_intCmp x0 x1) :=
  ⟨Tryz.f136, Tryz.f136.body.getD .skip, by kernel_rfl, by kernel_rfl, by kernel_rfl, by kernel_rfl, by kernel_rfl, by kernel_rfl⟩
/-! loop.example/g00793/impl.natOf -/
def aI_natOf : An := ⟨[(2, [.s 0, .s 3], [.o (.o (.i .u64)), .a 3])], [], []⟩
noncomputable def tI_natOf (x0 : Int) : T :=
  .lp [.o (.o (.i .u64)), .a 3] [.v (.int .u64 (x0)), .a 3 ((0 : Nat)) []] fun y1 =>
  .br (decide (y1.fst > (0 : Int))) (
    .rq ((1000000000 : Int) ≠ (0 : Int)) <|
    .rq ([Go.Value.int Go.IntKind.i64 (Go.IntKind.i64.wrap (Int.tmod y1.fst (1000000000 : Int)))].length = (1 : Nat) * (1 : Nat)) <|
    .rq (one [Go.Value.int Go.IntKind.i64 (Go.IntKind.i64.wrap (Int.tmod y1.fst (1000000000 : Int)))] = true ∧ (y1.2.1.fst + (1 : Nat)) * (8 : Nat) ≤ (140737488355328 : Nat) ∧ y1.2.1.fst + (1 : Nat) ≤ (9223372036854775807 : Nat)) <|
    .rq ((1000000000 : Int) ≠ (0 : Int)) <|
    .nx 0 [.v (.int .u64 (Go.IntKind.u64.wrap (Int.tdiv y1.fst (1000000000 : Int)))), .a 3 (y1.2.1.fst + (1 : Nat)) (y1.2.1.snd ++ [Go.Value.int Go.IntKind.i64 (Go.IntKind.i64.wrap (Int.tmod y1.fst (1000000000 : Int)))])]) <|
  .fz (y1.2.1.fst) (y1.2.1.snd) 3 fun b2 c2 =>
  .ret [.slice (some { block := b2, off := (0 : Nat) : Go.Addr }) (y1.2.1.fst) (c2)]
theorem fI_natOf (x0 : Int) : fits Tryz.prog aI_natOf 137 [.int .u64 (x0)] (tI_natOf x0) :=
  ⟨Tryz.f137, Tryz.f137.body.getD .skip, by kernel_rfl, by kernel_rfl, by kernel_rfl, by kernel_rfl, by kernel_rfl, by kernel_rfl⟩
/-! loop.example/g00793/impl.decOf -/
def aI_decOf : An := ⟨[], [], []⟩
noncomputable def tI_decOf (x0 : Bool × SlV × PUnit) (x1 : Int) : T :=
  .call false 111 [Sh1.val (.g [.b, .l, .i .i64]) ((x0.fst), x0.2.1, ((x1) : Int), ())] (.v (.o (.b))) fun y1 =>
  .br (y1) (
    .ret [Sh1.val (.g [.b, .l, .i .i64]) ((x0.fst), x0.2.1, ((x1) : Int), ()), .bool (true)]) <|
  .ret [Sh1.val (.g [.b, .l, .i .i64]) ((false), (⟨(none), ((0 : Nat)), ((0 : Nat))⟩ : SlV), (((0 : Int)) : Int), ()), .bool (false)]
theorem fI_decOf (x0 : Bool × SlV × PUnit) (x1 : Int) : fits Tryz.prog aI_decOf 138 [Sh1.val (.g [.b, .l]) (x0), .int .i64 (x1)] (tI_decOf x0 x1) :=
  ⟨Tryz.f138, Tryz.f138.body.getD .skip, by kernel_rfl, by kernel_rfl, by kernel_rfl, by kernel_rfl, by kernel_rfl, by kernel_rfl⟩
/-! loop.example/g00793/impl.natDiv -/
def aI_natDiv : An := ⟨[(9, [.s 9], [.o (.o (.l))]), (14, [.s 12, .s 13], [.a 3, .o (.o (.i .i64))])], [], []⟩
noncomputable def tI_natDiv (x0 : SlV) (x1 : SlV) : T :=
  .call false 163 [Sc.val .l (x0), Sc.val .l (x1)] (.v (.o (.i .i64))) fun y1 =>
  .br (decide (y1 < (0 : Int))) (
    .call false 164 [Sc.val .l (x0)] (.v (.o (.l))) fun y2 =>
    .fz ((0 : Nat)) [] 3 fun b3 c3 =>
    .ret [.slice (some { block := b3, off := (0 : Nat) : Go.Addr }) ((0 : Nat)) (c3), Sc.val .l (y2)]) <|
  .br ((↑x1.n : Int) == (1 : Int)) (
    .el (x1.a) (x1.n) ((0 : Int)) fun y2 =>
    .ld false (y2.add (Int.toNat (0 : Int) * (1 : Nat))) (.o (.i .i64)) fun y3 =>
    .call false 165 [Sc.val .l (x0), .int .i64 (y3)] (.t [(.o (.l)), (.o (.i .i64))]) fun y4 =>
    .call false 166 [.int .i64 (y4.2.fst)] (.v (.o (.l))) fun y5 =>
    .ret [Sc.val .l (y4.1), Sc.val .l (y5)]) <|
  .el (x1.a) (x1.n) (Go.IntKind.i64.wrap ((↑x1.n : Int) - (1 : Int))) fun y2 =>
  .ld false (y2.add ((Go.IntKind.i64.wrap ((↑x1.n : Int) - (1 : Int))).toNat * (1 : Nat))) (.o (.i .i64)) fun y3 =>
  .rq (Go.IntKind.i64.wrap (y3 + (1 : Int)) ≠ (0 : Int)) <|
  .fz ((1 : Nat)) [.int .i64 (Go.IntKind.i64.wrap (Int.tdiv (1000000000 : Int) (Go.IntKind.i64.wrap (y3 + (1 : Int)))))] 3 fun b4 c4 =>
  .call false 160 [Sc.val .l (x0), .slice (some { block := b4, off := (0 : Nat) : Go.Addr }) ((1 : Nat)) (c4)] (.v (.o (.l))) fun y5 =>
  .fz ((1 : Nat)) [.int .i64 (Go.IntKind.i64.wrap (Int.tdiv (1000000000 : Int) (Go.IntKind.i64.wrap (y3 + (1 : Int)))))] 3 fun b6 c6 =>
  .call false 160 [Sc.val .l (x1), .slice (some { block := b6, off := (0 : Nat) : Go.Addr }) ((1 : Nat)) (c6)] (.v (.o (.l))) fun y7 =>
  .lp [.o (.o (.l))] [.v (Sc.val .l (y5))] fun y8 =>
  .br (decide ((↑y8.1.n : Int) ≤ (↑x0.n : Int))) (
    .rq ([Go.Value.int Go.IntKind.i64 (0 : Int)].length = (1 : Nat) * (1 : Nat)) <|
    .rq (one [Go.Value.int Go.IntKind.i64 (0 : Int)] = true) <|
    .ap ({ a := y8.1.a, n := y8.1.n, c := y8.1.c : SlV }) 1 8 [.int .i64 ((0 : Int))] ((1 : Nat)) 3 fun y9 =>
    .nx 0 [.v (Sc.val .l (y9))]) <|
  .rq ((0 : Int) ≤ Go.IntKind.i64.wrap ((↑y8.1.n : Int) - (↑y7.n : Int)) ∧ Go.IntKind.i64.wrap ((↑y8.1.n : Int) - (↑y7.n : Int)) ≤ Go.IntKind.i64.wrap ((↑y8.1.n : Int) - (↑y7.n : Int)) ∧ (↑(8 : Nat) : Int) * Go.IntKind.i64.wrap ((↑y8.1.n : Int) - (↑y7.n : Int)) ≤ (281474976710656 : Int) ∧ Go.IntKind.i64.wrap ((↑y8.1.n : Int) - (↑y7.n : Int)) ≤ (9223372036854775807 : Int)) <|
  .lp [.a 3, .o (.o (.i .i64))] [.a 3 ((Go.IntKind.i64.wrap ((↑y8.1.n : Int) - (↑y7.n : Int))).toNat) ((Go.madeCells { toList := [Go.Value.int Go.IntKind.i64 (0 : Int)] : Array Go.Value } ((Go.IntKind.i64.wrap ((↑y8.1.n : Int) - (↑y7.n : Int))).toNat * (1 : Nat))).toList), .v (.int .i64 (Go.IntKind.i64.wrap ((↑(Go.IntKind.i64.wrap ((↑y8.1.n : Int) - (↑y7.n : Int))).toNat : Int) - (1 : Int))))] fun y9 =>
  .br (decide (y9.2.fst ≥ (0 : Int))) (
    .rq ((0 : Int) ≤ y9.2.fst ∧ y9.2.fst ≤ Go.IntKind.i64.wrap (Go.IntKind.i64.wrap (y9.2.fst + (↑y7.n : Int)) + (1 : Int)) ∧ Go.IntKind.i64.wrap (Go.IntKind.i64.wrap (y9.2.fst + (↑y7.n : Int)) + (1 : Int)) ≤ (↑y8.1.c : Int) ∧ (↑y8.1.c : Int) ≤ (↑y8.1.c : Int)) <|
    .call false 167 [.slice (if (↑y8.1.c : Int).toNat = Int.toNat y9.2.fst then y8.1.a else Option.map (fun x => x.add (Int.toNat y9.snd.fst * Go.Proofs.Tryz.prog.types[(3 : Nat)].size)) y8.1.a) ((Go.IntKind.i64.wrap (Go.IntKind.i64.wrap (y9.2.fst + (↑y7.n : Int)) + (1 : Int))).toNat - Int.toNat y9.2.fst) ((↑y8.1.c : Int).toNat - Int.toNat y9.2.fst), Sc.val .l (y7)] (.v (.o (.i .i64))) fun y10 =>
    .rq ((0 : Int) ≤ y9.2.fst ∧ y9.2.fst < (↑y9.1.fst : Int)) <|
    .rq (Int.toNat y9.2.fst * (1 : Nat) + [(Sh1.o (Sc.i Go.IntKind.i64)).val y10].length ≤ y9.1.snd.length) <|
    .nx 1 [.a 3 (y9.1.fst) (setl y9.1.snd (Int.toNat y9.2.fst * (1 : Nat)) [(Sh1.o (Sc.i Go.IntKind.i64)).val y10]), .v (.int .i64 (Go.IntKind.i64.wrap (y9.2.fst - (1 : Int))))]) <|
  .call false 168 [Sc.val .l (y8.1)] (.v (.o (.l))) fun y10 =>
  .call false 165 [Sc.val .l (y10), .int .i64 (Go.IntKind.i64.wrap (Int.tdiv (1000000000 : Int) (Go.IntKind.i64.wrap (y3 + (1 : Int)))))] (.t [(.o (.l)), (.o (.i .i64))]) fun y11 =>
  .fz (y9.1.fst) (y9.1.snd) 3 fun b12 c12 =>
  .call false 168 [.slice (some { block := b12, off := (0 : Nat) : Go.Addr }) (y9.1.fst) (c12)] (.v (.o (.l))) fun y13 =>
  .ret [Sc.val .l (y13), Sc.val .l (y11.1)]
theorem fI_natDiv (x0 : SlV) (x1 : SlV) : fits Tryz.prog aI_natDiv 139 [Sc.val .l (x0), Sc.val .l (x1)] (tI_natDiv x0 x1) :=
  ⟨Tryz.f139, Tryz.f139.body.getD .skip, by kernel_rfl, by kernel_rfl, by kernel_rfl, by kernel_rfl, by kernel_rfl, by kernel_rfl⟩
/-! loop.example/g00793/impl.natTen -/
def aI_natTen : An := ⟨[(4, [.s 4, .s 13], [.o (.o (.i .i64)), .o (.o (.i .i64))])], [], []⟩
noncomputable def tI_natTen (x0 : Int) : T :=
  .rq ((9 : Int) ≠ (0 : Int)) <|
  .rq ((9 : Int) ≠ (0 : Int)) <|
  .rq ((0 : Int) ≤ Go.IntKind.i64.wrap (x0.tdiv (9 : Int)) ∧ Go.IntKind.i64.wrap (x0.tdiv (9 : Int)) ≤ Go.IntKind.i64.wrap (Go.IntKind.i64.wrap (x0.tdiv (9 : Int)) + (1 : Int)) ∧ (↑(8 : Nat) : Int) * Go.IntKind.i64.wrap (Go.IntKind.i64.wrap (x0.tdiv (9 : Int)) + (1 : Int)) ≤ (281474976710656 : Int) ∧ Go.IntKind.i64.wrap (Go.IntKind.i64.wrap (x0.tdiv (9 : Int)) + (1 : Int)) ≤ (9223372036854775807 : Int)) <|
  .rq ((9 : Int) ≠ (0 : Int)) <|
  .lp [.o (.o (.i .i64)), .o (.o (.i .i64))] [.v (.int .i64 ((1 : Int))), .v (.int .i64 ((0 : Int)))] fun y1 =>
  .br (decide (y1.2.fst < x0.tmod (9 : Int))) (
    .nx 0 [.v (.int .i64 (Go.IntKind.i64.wrap (y1.fst * (10 : Int)))), .v (.int .i64 (Go.IntKind.i64.wrap (y1.2.fst + (1 : Int))))]) <|
  .rq ([(Sh1.o (Sc.i Go.IntKind.i64)).val y1.fst].length = (1 : Nat) * (1 : Nat)) <|
  .rq (one [(Sh1.o (Sc.i Go.IntKind.i64)).val y1.fst] = true ∧ ((Go.IntKind.i64.wrap (x0.tdiv (9 : Int))).toNat + (1 : Nat)) * (8 : Nat) ≤ (140737488355328 : Nat) ∧ (Go.IntKind.i64.wrap (x0.tdiv (9 : Int))).toNat + (1 : Nat) ≤ (9223372036854775807 : Nat)) <|
  .fz ((Go.IntKind.i64.wrap (x0.tdiv (9 : Int))).toNat + (1 : Nat)) ((Go.madeCells { toList := [Go.Value.int Go.IntKind.i64 (0 : Int)] : Array Go.Value } ((Go.IntKind.i64.wrap (x0.tdiv (9 : Int))).toNat * (1 : Nat))).toList ++ [(Sh1.o (Sc.i Go.IntKind.i64)).val y1.fst]) 3 fun b2 c2 =>
  .ret [.slice (some { block := b2, off := (0 : Nat) : Go.Addr }) ((Go.IntKind.i64.wrap (x0.tdiv (9 : Int))).toNat + (1 : Nat)) (c2)]
theorem fI_natTen (x0 : Int) : fits Tryz.prog aI_natTen 140 [.int .i64 (x0)] (tI_natTen x0) :=
  ⟨Tryz.f140, Tryz.f140.body.getD .skip, by kernel_rfl, by kernel_rfl, by kernel_rfl, by kernel_rfl, by kernel_rfl, by kernel_rfl⟩
/-! loop.example/g00793/impl.signed -/
def aI_signed : An := ⟨[], [], []⟩
noncomputable def tI_signed (x0 : Bool) (x1 : SlV) : T :=
  .br (x0) (
    .ret [Sh1.val (.g [.b, .l]) ((decide ((↑x1.n : Int) > (0 : Int))), x1, ())]) <|
  .ret [Sh1.val (.g [.b, .l]) ((false), x1, ())]
theorem fI_signed (x0 : Bool) (x1 : SlV) : fits Tryz.prog aI_signed 141 [.bool (x0), Sc.val .l (x1)] (tI_signed x0 x1) :=
  ⟨Tryz.f141, Tryz.f141.body.getD .skip, by kernel_rfl, by kernel_rfl, by kernel_rfl, by kernel_rfl, by kernel_rfl, by kernel_rfl⟩
end Go.Proofs.YtfbnocogljmpdaaGreatDoor
