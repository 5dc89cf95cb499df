/-
  What each function of the seat comes to, as a tree; each tree is checked against the code.
-/
import Derived.Test.YtagjmmpiglgmhaaGreatDoorEngD
import Derived.Test.YtagjmmpiglgmhaaGreatDoorChecked
import Derived.KernelRfl
namespace Go.Proofs.YtagjmmpiglgmhaaGreatDoor
open Sx
set_option maxRecDepth 100000
abbrev gL_FnExactConvert:Nat:=3
abbrev gL_FnExactConvertSum:Nat:=4
abbrev gL_FnExactWealth:Nat:=5
abbrev gL_szRates:Nat:=6
abbrev gL_szMoney:Nat:=7
abbrev gS_Convert:Nat:=8
abbrev gL_toRates:Nat:=9
abbrev gL_toMoney:Nat:=10
abbrev gI_Convert:Nat:=11
abbrev gL_eqMoney:Nat:=12
abbrev gL_eqRat:Nat:=13
abbrev gL_eqRates:Nat:=14
abbrev gL_markRates:Nat:=15
abbrev gL_markMoney:Nat:=16
abbrev gL_markRat:Nat:=17
abbrev gL_heldMoney:Nat:=18
abbrev gL_heldRat:Nat:=19
abbrev gL_szMoneyS:Nat:=20
abbrev gS_ConvertSum:Nat:=21
abbrev gL_toMoneyS:Nat:=22
abbrev gI_ConvertSum:Nat:=23
abbrev gL_eqMoneyS:Nat:=24
abbrev gL_markMoneyS:Nat:=25
abbrev gL_szLedger:Nat:=26
abbrev gS_Wealth:Nat:=27
abbrev gL_toLedger:Nat:=28
abbrev gI_Wealth:Nat:=29
abbrev gL_eqLedger:Nat:=30
abbrev gL_markLedger:Nat:=31
abbrev gL_szRateS:Nat:=32
abbrev gL_szSigned:Nat:=33
abbrev gS_MoneyOk:Nat:=34
abbrev gS_l11Form:Nat:=35
abbrev gS_RateHow:Nat:=36
abbrev gS_Exact:Nat:=37
abbrev gS_RatMoney:Nat:=38
abbrev gL_toRateS:Nat:=39
abbrev gL_toSigned:Nat:=40
abbrev gL_eqSigned:Nat:=41
abbrev gL_eqIntS:Nat:=42
abbrev gL_eqRateS:Nat:=43
abbrev gL_markRateS:Nat:=44
abbrev gL_markSigned:Nat:=45
abbrev gL_markIntS:Nat:=46
abbrev gL_heldSigned:Nat:=47
abbrev gL_heldIntS:Nat:=48
abbrev gS_RatZero:Nat:=49
abbrev gS_RatAdd:Nat:=50
abbrev gI_convert:Nat:=51
abbrev gI_codeOf:Nat:=52
abbrev gL_markText:Nat:=53
abbrev gL_szBook:Nat:=54
abbrev gL_szRestS:Nat:=55
abbrev gS_LedgerOk:Nat:=56
abbrev gL_toBook:Nat:=57
abbrev gL_toRestS:Nat:=58
abbrev gI_LedgerOk:Nat:=59
abbrev gL_eqBook:Nat:=60
abbrev gL_eqRestS:Nat:=61
abbrev gL_markBook:Nat:=62
abbrev gL_markRestS:Nat:=63
abbrev gL_szRate:Nat:=64
abbrev gL_szIntS:Nat:=65
abbrev gS_CurKnown:Nat:=66
abbrev gS_IntOk:Nat:=67
abbrev gS_RatesOk:Nat:=68
abbrev gS_l06Mode:Nat:=69
abbrev gS_l10Leg:Nat:=70
abbrev gS_UnitRate:Nat:=71
abbrev gS_RatMul:Nat:=72
abbrev gS_MoneyRat:Nat:=73
abbrev gS_RatRest:Nat:=74
abbrev gS_l09Make:Nat:=75
abbrev gL_toRate:Nat:=76
abbrev gL_toIntS:Nat:=77
abbrev gL_eqRate:Nat:=78
abbrev gS_RatOk:Nat:=79
abbrev gS_l04Make:Nat:=80
abbrev gS_l02Mul:Nat:=81
abbrev gS_l04Add:Nat:=82
abbrev gS_l05Low:Nat:=83
abbrev gI_checkConversion:Nat:=84
abbrev gI_RatZero:Nat:=85
abbrev gI_Exact:Nat:=86
abbrev gI_RatAdd:Nat:=87
abbrev gI_RatMoney:Nat:=88
abbrev gL_szAcctS:Nat:=90
abbrev gL_szRest:Nat:=91
abbrev gS_BookOk:Nat:=92
abbrev gS_RestsOk:Nat:=93
abbrev gL_toAcctS:Nat:=94
abbrev gL_toRest:Nat:=95
abbrev gI_BookOk:Nat:=96
abbrev gI_RestsOk:Nat:=97
abbrev gI_RatesOk:Nat:=98
abbrev gL_eqAcctS:Nat:=99
abbrev gL_eqRest:Nat:=100
abbrev gL_markAcctS:Nat:=101
abbrev gL_szDec:Nat:=102
abbrev gS_l08Find:Nat:=103
abbrev gS_NatOk:Nat:=104
abbrev gS_RateOk:Nat:=105
abbrev gS_l10At:Nat:=106
abbrev gS_l01In:Nat:=107
abbrev gS_RateOf:Nat:=108
abbrev gS_RatDiv:Nat:=109
abbrev gS_CurUnit:Nat:=110
abbrev gS_RatInt:Nat:=111
abbrev gS_RatRound:Nat:=112
abbrev gS_RatSub:Nat:=113
abbrev gL_toDec:Nat:=114
abbrev gL_eqDec:Nat:=115
abbrev gS_l02Cmp:Nat:=116
abbrev gS_NatGcd:Nat:=117
abbrev gS_l02Cap:Nat:=118
abbrev gS_l02Trim:Nat:=119
abbrev gS_l02Add:Nat:=120
abbrev gS_l02Sub:Nat:=121
abbrev gS_l05Gcd:Nat:=122
abbrev gS_l03Div:Nat:=123
abbrev gI_CurKnown:Nat:=124
abbrev gI_isMode:Nat:=125
abbrev gI_MoneyOk:Nat:=126
abbrev gI_RateHow:Nat:=127
abbrev gI_UnitRate:Nat:=128
abbrev gI_RatMul:Nat:=129
abbrev gI_MoneyRat:Nat:=130
abbrev gI_ratsOk:Nat:=131
abbrev gI_Rat__num:Nat:=132
abbrev gI_reduce:Nat:=133
abbrev gI_intAdd:Nat:=134
abbrev gI_natMul:Nat:=135
abbrev gI_RatRest:Nat:=136
abbrev gI_moneyOf:Nat:=137
abbrev gL_szAcct:Nat:=142
abbrev gL_szRat:Nat:=143
abbrev gS_IsWord:Nat:=144
abbrev gS_RatSign:Nat:=145
abbrev gL_toAcct:Nat:=146
abbrev gL_toRat:Nat:=147
abbrev gI_IsWord:Nat:=148
abbrev gI_RatOk:Nat:=149
abbrev gI_RatSign:Nat:=150
abbrev gI_RateOk:Nat:=151
abbrev gL_eqAcct:Nat:=152
abbrev gS_l08Table:Nat:=153
abbrev gS_DecOk:Nat:=154
abbrev gS_IntSign:Nat:=155
abbrev gS_IntOf:Nat:=156
abbrev gS_l10Step:Nat:=157
abbrev gS_l07Ten:Nat:=158
abbrev gS_CurPlaces:Nat:=159
abbrev gS_RatMake:Nat:=160
abbrev gS_l06Round:Nat:=161
abbrev gS_RatNeg:Nat:=162
abbrev gS_l03Small:Nat:=163
abbrev gS_NatOf:Nat:=164
abbrev gS_l03Digit:Nat:=165
abbrev gI_currencyOf:Nat:=166
abbrev gI_IntOk:Nat:=167
abbrev gI_Rates__simple:Nat:=168
abbrev gI_RateOf:Nat:=169
abbrev gI_natTen:Nat:=170
abbrev gI_CurPlaces:Nat:=171
abbrev gI_signed:Nat:=172
abbrev gI_intMul:Nat:=173
abbrev gI_intCopy:Nat:=174
abbrev gI_natGcd:Nat:=175
abbrev gI_natDiv:Nat:=176
abbrev gI_natAdd:Nat:=177
abbrev gI_natCmp:Nat:=178
abbrev gI_natSub:Nat:=179
abbrev gI_trim:Nat:=180
abbrev gI_RatRound:Nat:=181
abbrev gI_RatInt:Nat:=182
abbrev gI_RatSub:Nat:=183
abbrev gS_l01All:Nat:=187
abbrev gS_RatCmp:Nat:=188
abbrev gI_isLower:Nat:=189
abbrev gI_isDigit:Nat:=190
abbrev gI_NatOk:Nat:=191
abbrev gI_intSign:Nat:=192
abbrev gI_DecOk:Nat:=193
abbrev gS_IntCmp:Nat:=194
abbrev gS_DecRat:Nat:=195
abbrev gS_NatTen:Nat:=196
abbrev gS_l06Away:Nat:=197
abbrev gS_IntNeg:Nat:=198
abbrev gI_Rates__listed:Nat:=199
abbrev gI_IntOf:Nat:=200
abbrev gI_DecRat:Nat:=201
abbrev gI_RatDiv:Nat:=202
abbrev gI_natCopy:Nat:=203
abbrev gI_natSmall:Nat:=204
abbrev gI_NatOf:Nat:=205
abbrev gI_divStep:Nat:=206
abbrev gI_roundQuotient:Nat:=207
abbrev gI_RatMake:Nat:=208
abbrev gI_ratNeg:Nat:=209
abbrev gI_isScale:Nat:=210
abbrev gS_NatEven:Nat:=211
abbrev gI_natOf:Nat:=212
abbrev gI_subTimes:Nat:=213
abbrev gI_addBack:Nat:=214
abbrev gI_roundModes:Nat:=215
abbrev gI_NatEven:Nat:=216
abbrev gI_intsOk:Nat:=217
abbrev gI_intNeg:Nat:=218
abbrev gI_roundModes_1:Nat:=219
abbrev gI_roundModes_2:Nat:=220
abbrev gI_roundModes_3:Nat:=221
abbrev gI_roundModes_4:Nat:=222
abbrev gI_roundModes_5:Nat:=223
abbrev gI_roundModes_6:Nat:=224
abbrev gI_roundModes_7:Nat:=225
def aL_FnExactConvert:An:=⟨[],[],[]⟩
noncomputable def tL_FnExactConvert (x0:ByteArray × SlV × PUnit) (x1:ByteArray × Bool × SlV × PUnit) (x2:ByteArray) (x3:Int):T :=
 .br (decide ((↑x2.size:Int) > (1048576:Int))) (
  .ret [.bool (true)]) <|
 .call false 6 [Sh1.val (.g [.s,.l]) (x0),.int .i64 ((1048576:Int))] (.v (.o (.i .i64))) fun y1 =>
 .br (decide (y1<(0:Int))) (
  .ret [.bool (true)]) <|
 .call false 7 [Sh1.val (.g [.s,.b,.l]) (x1),.int .i64 (y1)] (.v (.o (.i .i64))) fun y2 =>
 .br (decide (y2<(0:Int))) (
  .ret [.bool (true)]) <|
 .rg <|
 .call true 9 [Sh1.val (.g [.s,.l]) (x0)] (.v (.g [.s,.l])) fun y3 =>
 .call true 10 [Sh1.val (.g [.s,.b,.l]) (x1)] (.v (.g [.s,.b,.l])) fun y4 =>
 .call true 8 [Sh1.val (.g [.s,.l]) (y3),Sh1.val (.g [.s,.b,.l]) (y4),.string (x2),.int .i64 (x3)] (.t [(.g [.s,.b,.l]),(.g [.b,.l,.l]),(.o (.i .i64))]) fun y5 =>
 .call false 9 [Sh1.val (.g [.s,.l]) (x0)] (.v (.g [.s,.l])) fun y6 =>
 .call false 10 [Sh1.val (.g [.s,.b,.l]) (x1)] (.v (.g [.s,.b,.l])) fun y7 =>
 .call false 11 [Sh1.val (.g [.s,.l]) (y6),Sh1.val (.g [.s,.b,.l]) (y7),.string (x2),.int .i64 (x3)] (.t [(.g [.s,.b,.l]),(.g [.b,.l,.l]),(.o (.i .i64))]) fun y8 =>
 .call false 12 [Sh1.val (.g [.s,.b,.l]) (y8.1),Sh1.val (.g [.s,.b,.l]) (y5.1)] (.v (.o (.b))) fun y9 =>
 .br (!y9) (
  .ret [.bool (false)]) <|
 .call false 13 [Sh1.val (.g [.b,.l,.l]) (y8.2.1),Sh1.val (.g [.b,.l,.l]) (y5.2.1)] (.v (.o (.b))) fun y10 =>
 .br (!y10) (
  .ret [.bool (false)]) <|
 .br (y8.2.2.1 != y5.2.2.1) (
  .ret [.bool (false)]) <|
 .rg <|
 .call true 9 [Sh1.val (.g [.s,.l]) (x0)] (.v (.g [.s,.l])) fun y11 =>
 .call true 14 [Sh1.val (.g [.s,.l]) (y6),Sh1.val (.g [.s,.l]) (y11)] (.v (.o (.b))) fun y12 =>
 .br (!y12) (
  .ret [.bool (false)]) <|
 .rg <|
 .call true 10 [Sh1.val (.g [.s,.b,.l]) (x1)] (.v (.g [.s,.b,.l])) fun y13 =>
 .call true 12 [Sh1.val (.g [.s,.b,.l]) (y7),Sh1.val (.g [.s,.b,.l]) (y13)] (.v (.o (.b))) fun y14 =>
 .br (!y14) (
  .ret [.bool (false)]) <|
 .call false 15 [Sh1.val (.g [.s,.l]) (y6),.int .i64 ((1:Int))] (.v (.o (.i .i64))) fun y15 =>
 .call false 16 [Sh1.val (.g [.s,.b,.l]) (y7),.int .i64 (y15)] (.v (.o (.i .i64))) fun y16 =>
 .br (decide (y16<(0:Int))) (
  .ret [.bool (false)]) <|
 .call false 12 [Sh1.val (.g [.s,.b,.l]) (y8.1),Sh1.val (.g [.s,.b,.l]) (y5.1)] (.v (.o (.b))) fun y17 =>
 .br (!y17) (
  .ret [.bool (false)]) <|
 .call false 13 [Sh1.val (.g [.b,.l,.l]) (y8.2.1),Sh1.val (.g [.b,.l,.l]) (y5.2.1)] (.v (.o (.b))) fun y18 =>
 .br (!y18) (
  .ret [.bool (false)]) <|
 .br (y8.2.2.1 != y5.2.2.1) (
  .ret [.bool (false)]) <|
 .call false 16 [Sh1.val (.g [.s,.b,.l]) (y8.1),.int .i64 ((1:Int))] (.v (.o (.i .i64))) fun y19 =>
 .call false 17 [Sh1.val (.g [.b,.l,.l]) (y8.2.1),.int .i64 (y19)] (.v (.o (.i .i64))) fun y20 =>
 .call false 18 [Sh1.val (.g [.s,.b,.l]) (y8.1),.int .i64 ((1:Int))] (.v (.o (.i .i64))) fun y21 =>
 .br (decide (y21<(0:Int))) (
  .ret [.bool (false)]) <|
 .call false 19 [Sh1.val (.g [.b,.l,.l]) (y8.2.1),.int .i64 (y21)] (.v (.o (.i .i64))) fun y22 =>
 .br (decide (y22<(0:Int))) (
  .ret [.bool (false)]) <|
 .br (y22 != y20) (
  .ret [.bool (false)]) <|
 .rg <|
 .call true 9 [Sh1.val (.g [.s,.l]) (x0)] (.v (.g [.s,.l])) fun y23 =>
 .call true 10 [Sh1.val (.g [.s,.b,.l]) (x1)] (.v (.g [.s,.b,.l])) fun y24 =>
 .call true 11 [Sh1.val (.g [.s,.l]) (y23),Sh1.val (.g [.s,.b,.l]) (y24),.string (x2),.int .i64 (x3)] (.t [(.g [.s,.b,.l]),(.g [.b,.l,.l]),(.o (.i .i64))]) fun y25 =>
 .call false 12 [Sh1.val (.g [.s,.b,.l]) (y25.1),Sh1.val (.g [.s,.b,.l]) (y5.1)] (.v (.o (.b))) fun y26 =>
 .br (!y26) (
  .ret [.bool (false)]) <|
 .call false 13 [Sh1.val (.g [.b,.l,.l]) (y25.2.1),Sh1.val (.g [.b,.l,.l]) (y5.2.1)] (.v (.o (.b))) fun y27 =>
 .br (!y27) (
  .ret [.bool (false)]) <|
 .br (y25.2.2.1 != y5.2.2.1) (
  .ret [.bool (false)]) <|
 .call false 18 [Sh1.val (.g [.s,.b,.l]) (y8.1),.int .i64 ((1:Int))] (.v (.o (.i .i64))) fun y28 =>
 .br (decide (y28<(0:Int))) (
  .ret [.bool (false)]) <|
 .call false 19 [Sh1.val (.g [.b,.l,.l]) (y8.2.1),.int .i64 (y28)] (.v (.o (.i .i64))) fun y29 =>
 .br (decide (y29<(0:Int))) (
  .ret [.bool (false)]) <|
 .br (y29 != y20) (
  .ret [.bool (false)]) <|
 .ret [.bool (true)]
theorem fL_FnExactConvert (x0:ByteArray × SlV × PUnit) (x1:ByteArray × Bool × SlV × PUnit) (x2:ByteArray) (x3:Int):fits Tryz.prog aL_FnExactConvert 3 [Sh1.val (.g [.s,.l]) (x0),Sh1.val (.g [.s,.b,.l]) (x1),.string (x2),.int .i64 (x3)] (tL_FnExactConvert x0 x1 x2 x3) :=
 fitK (by kernel_rfl)
def aL_FnExactConvertSum:An:=⟨[],[],[]⟩
noncomputable def tL_FnExactConvertSum (x0:ByteArray × SlV × PUnit) (x1:SlV) (x2:ByteArray) (x3:Int):T :=
 .br (decide ((↑x2.size:Int) > (1048576:Int))) (
  .ret [.bool (true)]) <|
 .call false 6 [Sh1.val (.g [.s,.l]) (x0),.int .i64 ((1048576:Int))] (.v (.o (.i .i64))) fun y1 =>
 .br (decide (y1<(0:Int))) (
  .ret [.bool (true)]) <|
 .call false 20 [Sc.val .l (x1),.int .i64 (y1)] (.v (.o (.i .i64))) fun y2 =>
 .br (decide (y2<(0:Int))) (
  .ret [.bool (true)]) <|
 .call false 9 [Sh1.val (.g [.s,.l]) (x0)] (.v (.g [.s,.l])) fun y3 =>
 .call false 22 [Sc.val .l (x1)] (.v (.o (.l))) fun y4 =>
 .call false 21 [Sh1.val (.g [.s,.l]) (y3),Sc.val .l (y4),.string (x2),.int .i64 (x3)] (.t [(.g [.s,.b,.l]),(.g [.b,.l,.l]),(.o (.i .i64))]) fun y5 =>
 .call false 9 [Sh1.val (.g [.s,.l]) (x0)] (.v (.g [.s,.l])) fun y6 =>
 .call false 22 [Sc.val .l (x1)] (.v (.o (.l))) fun y7 =>
 .call false 23 [Sh1.val (.g [.s,.l]) (y6),Sc.val .l (y7),.string (x2),.int .i64 (x3)] (.t [(.g [.s,.b,.l]),(.g [.b,.l,.l]),(.o (.i .i64))]) fun y8 =>
 .call false 12 [Sh1.val (.g [.s,.b,.l]) (y8.1),Sh1.val (.g [.s,.b,.l]) (y5.1)] (.v (.o (.b))) fun y9 =>
 .br (!y9) (
  .ret [.bool (false)]) <|
 .call false 13 [Sh1.val (.g [.b,.l,.l]) (y8.2.1),Sh1.val (.g [.b,.l,.l]) (y5.2.1)] (.v (.o (.b))) fun y10 =>
 .br (!y10) (
  .ret [.bool (false)]) <|
 .br (y8.2.2.1 != y5.2.2.1) (
  .ret [.bool (false)]) <|
 .rg <|
 .call true 9 [Sh1.val (.g [.s,.l]) (x0)] (.v (.g [.s,.l])) fun y11 =>
 .call true 14 [Sh1.val (.g [.s,.l]) (y6),Sh1.val (.g [.s,.l]) (y11)] (.v (.o (.b))) fun y12 =>
 .br (!y12) (
  .ret [.bool (false)]) <|
 .call false 22 [Sc.val .l (x1)] (.v (.o (.l))) fun y13 =>
 .call false 24 [Sc.val .l (y7),Sc.val .l (y13)] (.v (.o (.b))) fun y14 =>
 .br (!y14) (
  .ret [.bool (false)]) <|
 .call false 15 [Sh1.val (.g [.s,.l]) (y6),.int .i64 ((1:Int))] (.v (.o (.i .i64))) fun y15 =>
 .call false 25 [Sc.val .l (y7),.int .i64 (y15)] (.v (.o (.i .i64))) fun y16 =>
 .br (decide (y16<(0:Int))) (
  .ret [.bool (false)]) <|
 .call false 12 [Sh1.val (.g [.s,.b,.l]) (y8.1),Sh1.val (.g [.s,.b,.l]) (y5.1)] (.v (.o (.b))) fun y17 =>
 .br (!y17) (
  .ret [.bool (false)]) <|
 .call false 13 [Sh1.val (.g [.b,.l,.l]) (y8.2.1),Sh1.val (.g [.b,.l,.l]) (y5.2.1)] (.v (.o (.b))) fun y18 =>
 .br (!y18) (
  .ret [.bool (false)]) <|
 .br (y8.2.2.1 != y5.2.2.1) (
  .ret [.bool (false)]) <|
 .call false 16 [Sh1.val (.g [.s,.b,.l]) (y8.1),.int .i64 ((1:Int))] (.v (.o (.i .i64))) fun y19 =>
 .call false 17 [Sh1.val (.g [.b,.l,.l]) (y8.2.1),.int .i64 (y19)] (.v (.o (.i .i64))) fun y20 =>
 .call false 18 [Sh1.val (.g [.s,.b,.l]) (y8.1),.int .i64 ((1:Int))] (.v (.o (.i .i64))) fun y21 =>
 .br (decide (y21<(0:Int))) (
  .ret [.bool (false)]) <|
 .call false 19 [Sh1.val (.g [.b,.l,.l]) (y8.2.1),.int .i64 (y21)] (.v (.o (.i .i64))) fun y22 =>
 .br (decide (y22<(0:Int))) (
  .ret [.bool (false)]) <|
 .br (y22 != y20) (
  .ret [.bool (false)]) <|
 .call false 9 [Sh1.val (.g [.s,.l]) (x0)] (.v (.g [.s,.l])) fun y23 =>
 .call false 22 [Sc.val .l (x1)] (.v (.o (.l))) fun y24 =>
 .call false 23 [Sh1.val (.g [.s,.l]) (y23),Sc.val .l (y24),.string (x2),.int .i64 (x3)] (.t [(.g [.s,.b,.l]),(.g [.b,.l,.l]),(.o (.i .i64))]) fun y25 =>
 .call false 12 [Sh1.val (.g [.s,.b,.l]) (y25.1),Sh1.val (.g [.s,.b,.l]) (y5.1)] (.v (.o (.b))) fun y26 =>
 .br (!y26) (
  .ret [.bool (false)]) <|
 .call false 13 [Sh1.val (.g [.b,.l,.l]) (y25.2.1),Sh1.val (.g [.b,.l,.l]) (y5.2.1)] (.v (.o (.b))) fun y27 =>
 .br (!y27) (
  .ret [.bool (false)]) <|
 .br (y25.2.2.1 != y5.2.2.1) (
  .ret [.bool (false)]) <|
 .call false 18 [Sh1.val (.g [.s,.b,.l]) (y8.1),.int .i64 ((1:Int))] (.v (.o (.i .i64))) fun y28 =>
 .br (decide (y28<(0:Int))) (
  .ret [.bool (false)]) <|
 .call false 19 [Sh1.val (.g [.b,.l,.l]) (y8.2.1),.int .i64 (y28)] (.v (.o (.i .i64))) fun y29 =>
 .br (decide (y29<(0:Int))) (
  .ret [.bool (false)]) <|
 .br (y29 != y20) (
  .ret [.bool (false)]) <|
 .ret [.bool (true)]
theorem fL_FnExactConvertSum (x0:ByteArray × SlV × PUnit) (x1:SlV) (x2:ByteArray) (x3:Int):fits Tryz.prog aL_FnExactConvertSum 4 [Sh1.val (.g [.s,.l]) (x0),Sc.val .l (x1),.string (x2),.int .i64 (x3)] (tL_FnExactConvertSum x0 x1 x2 x3) :=
 fitK (by kernel_rfl)
def aL_FnExactWealth:An:=⟨[],[],[]⟩
noncomputable def tL_FnExactWealth (x0:SlV × SlV × ByteArray × SlV × PUnit) (x1:ByteArray) (x2:Int):T :=
 .br (decide ((↑x1.size:Int) > (1048576:Int))) (
  .ret [.bool (true)]) <|
 .call false 26 [Sh1.val (.g [.l,.l,.s,.l]) (x0),.int .i64 ((1048576:Int))] (.v (.o (.i .i64))) fun y1 =>
 .br (decide (y1<(0:Int))) (
  .ret [.bool (true)]) <|
 .call false 28 [Sh1.val (.g [.l,.l,.s,.l]) (x0)] (.v (.g [.l,.l,.s,.l])) fun y2 =>
 .call false 27 [Sh1.val (.g [.l,.l,.s,.l]) (y2),.string (x1),.int .i64 (x2)] (.t [(.g [.s,.b,.l]),(.g [.b,.l,.l]),(.o (.i .i64))]) fun y3 =>
 .call false 28 [Sh1.val (.g [.l,.l,.s,.l]) (x0)] (.v (.g [.l,.l,.s,.l])) fun y4 =>
 .call false 29 [Sh1.val (.g [.l,.l,.s,.l]) (y4),.string (x1),.int .i64 (x2)] (.t [(.g [.s,.b,.l]),(.g [.b,.l,.l]),(.o (.i .i64))]) fun y5 =>
 .call false 12 [Sh1.val (.g [.s,.b,.l]) (y5.1),Sh1.val (.g [.s,.b,.l]) (y3.1)] (.v (.o (.b))) fun y6 =>
 .br (!y6) (
  .ret [.bool (false)]) <|
 .call false 13 [Sh1.val (.g [.b,.l,.l]) (y5.2.1),Sh1.val (.g [.b,.l,.l]) (y3.2.1)] (.v (.o (.b))) fun y7 =>
 .br (!y7) (
  .ret [.bool (false)]) <|
 .br (y5.2.2.1 != y3.2.2.1) (
  .ret [.bool (false)]) <|
 .rg <|
 .call true 28 [Sh1.val (.g [.l,.l,.s,.l]) (x0)] (.v (.g [.l,.l,.s,.l])) fun y8 =>
 .call true 30 [Sh1.val (.g [.l,.l,.s,.l]) (y4),Sh1.val (.g [.l,.l,.s,.l]) (y8)] (.v (.o (.b))) fun y9 =>
 .br (!y9) (
  .ret [.bool (false)]) <|
 .call false 31 [Sh1.val (.g [.l,.l,.s,.l]) (y4),.int .i64 ((1:Int))] (.v (.o (.i .i64))) fun y10 =>
 .br (decide (y10<(0:Int))) (
  .ret [.bool (false)]) <|
 .call false 12 [Sh1.val (.g [.s,.b,.l]) (y5.1),Sh1.val (.g [.s,.b,.l]) (y3.1)] (.v (.o (.b))) fun y11 =>
 .br (!y11) (
  .ret [.bool (false)]) <|
 .call false 13 [Sh1.val (.g [.b,.l,.l]) (y5.2.1),Sh1.val (.g [.b,.l,.l]) (y3.2.1)] (.v (.o (.b))) fun y12 =>
 .br (!y12) (
  .ret [.bool (false)]) <|
 .br (y5.2.2.1 != y3.2.2.1) (
  .ret [.bool (false)]) <|
 .call false 16 [Sh1.val (.g [.s,.b,.l]) (y5.1),.int .i64 ((1:Int))] (.v (.o (.i .i64))) fun y13 =>
 .call false 17 [Sh1.val (.g [.b,.l,.l]) (y5.2.1),.int .i64 (y13)] (.v (.o (.i .i64))) fun y14 =>
 .call false 18 [Sh1.val (.g [.s,.b,.l]) (y5.1),.int .i64 ((1:Int))] (.v (.o (.i .i64))) fun y15 =>
 .br (decide (y15<(0:Int))) (
  .ret [.bool (false)]) <|
 .call false 19 [Sh1.val (.g [.b,.l,.l]) (y5.2.1),.int .i64 (y15)] (.v (.o (.i .i64))) fun y16 =>
 .br (decide (y16<(0:Int))) (
  .ret [.bool (false)]) <|
 .br (y16 != y14) (
  .ret [.bool (false)]) <|
 .call false 28 [Sh1.val (.g [.l,.l,.s,.l]) (x0)] (.v (.g [.l,.l,.s,.l])) fun y17 =>
 .call false 29 [Sh1.val (.g [.l,.l,.s,.l]) (y17),.string (x1),.int .i64 (x2)] (.t [(.g [.s,.b,.l]),(.g [.b,.l,.l]),(.o (.i .i64))]) fun y18 =>
 .call false 12 [Sh1.val (.g [.s,.b,.l]) (y18.1),Sh1.val (.g [.s,.b,.l]) (y3.1)] (.v (.o (.b))) fun y19 =>
 .br (!y19) (
  .ret [.bool (false)]) <|
 .call false 13 [Sh1.val (.g [.b,.l,.l]) (y18.2.1),Sh1.val (.g [.b,.l,.l]) (y3.2.1)] (.v (.o (.b))) fun y20 =>
 .br (!y20) (
  .ret [.bool (false)]) <|
 .br (y18.2.2.1 != y3.2.2.1) (
  .ret [.bool (false)]) <|
 .call false 18 [Sh1.val (.g [.s,.b,.l]) (y5.1),.int .i64 ((1:Int))] (.v (.o (.i .i64))) fun y21 =>
 .br (decide (y21<(0:Int))) (
  .ret [.bool (false)]) <|
 .call false 19 [Sh1.val (.g [.b,.l,.l]) (y5.2.1),.int .i64 (y21)] (.v (.o (.i .i64))) fun y22 =>
 .br (decide (y22<(0:Int))) (
  .ret [.bool (false)]) <|
 .br (y22 != y14) (
  .ret [.bool (false)]) <|
 .ret [.bool (true)]
theorem fL_FnExactWealth (x0:SlV × SlV × ByteArray × SlV × PUnit) (x1:ByteArray) (x2:Int):fits Tryz.prog aL_FnExactWealth 5 [Sh1.val (.g [.l,.l,.s,.l]) (x0),.string (x1),.int .i64 (x2)] (tL_FnExactWealth x0 x1 x2) :=
 fitK (by kernel_rfl)
def aL_szRates:An:=⟨[],[],[]⟩
noncomputable def tL_szRates (x0:ByteArray × SlV × PUnit) (x1:Int):T :=
 .br (decide (IntKind.i64.wrap (x1-(↑(ByteArray.size x0.1):Int))<(0:Int))) (
  .ret [.int .i64 ((-1:Int))]) <|
 .call false 32 [Sc.val .l (x0.2.1),.int .i64 (IntKind.i64.wrap (x1-(↑(ByteArray.size x0.1):Int)))] (.v (.o (.i .i64))) fun y1 =>
 .br (decide (y1<(0:Int))) (
  .ret [.int .i64 ((-1:Int))]) <|
 .ret [.int .i64 (y1)]
theorem fL_szRates (x0:ByteArray × SlV × PUnit) (x1:Int):fits Tryz.prog aL_szRates 6 [Sh1.val (.g [.s,.l]) (x0),.int .i64 (x1)] (tL_szRates x0 x1) :=
 fitK (by kernel_rfl)
def aL_szMoney:An:=⟨[],[],[]⟩
noncomputable def tL_szMoney (x0:ByteArray × Bool × SlV × PUnit) (x1:Int):T :=
 .br (decide (IntKind.i64.wrap (x1-(↑(ByteArray.size x0.1):Int))<(0:Int))) (
  .ret [.int .i64 ((-1:Int))]) <|
 .call false 33 [Sh1.val (.g [.b,.l]) (x0.2),.int .i64 (IntKind.i64.wrap (x1-(↑(ByteArray.size x0.1):Int)))] (.v (.o (.i .i64))) fun y1 =>
 .br (decide (y1<(0:Int))) (
  .ret [.int .i64 ((-1:Int))]) <|
 .ret [.int .i64 (y1)]
theorem fL_szMoney (x0:ByteArray × Bool × SlV × PUnit) (x1:Int):fits Tryz.prog aL_szMoney 7 [Sh1.val (.g [.s,.b,.l]) (x0),.int .i64 (x1)] (tL_szMoney x0 x1) :=
 fitK (by kernel_rfl)
def aS_Convert:An:=⟨[],[],[]⟩
noncomputable def tS_Convert (x0:ByteArray × SlV × PUnit) (x1:ByteArray × Bool × SlV × PUnit) (x2:ByteArray) (x3:Int):T :=
 .call false 34 [Sh1.val (.g [.s,.b,.l]) (x1)] (.v (.o (.b))) fun y1 =>
 .br (!y1) (
  .ret [Sh1.val (.g [.s,.b,.l]) (({ data:={ toList:=[]:Array UInt8 }:ByteArray }),(false),nilS,()),Sh1.val (.g [.b,.l,.l]) ((false),nilS,nilS,()),.int .i64 ((1:Int))]) <|
 .call false 35 [Sh1.val (.g [.s,.l]) (x0),.string (x2),.int .i64 (x3)] (.v (.o (.b))) fun y2 =>
 .br (!y2) (
  .ret [Sh1.val (.g [.s,.b,.l]) (({ data:={ toList:=[]:Array UInt8 }:ByteArray }),(false),nilS,()),Sh1.val (.g [.b,.l,.l]) ((false),nilS,nilS,()),.int .i64 ((1:Int))]) <|
 .call false 36 [Sh1.val (.g [.s,.l]) (x0),.string (x1.1),.string (x2)] (.v (.o (.i .i64))) fun y3 =>
 .br (y3 == (0:Int)) (
  .ret [Sh1.val (.g [.s,.b,.l]) (({ data:={ toList:=[]:Array UInt8 }:ByteArray }),(false),nilS,()),Sh1.val (.g [.b,.l,.l]) ((false),nilS,nilS,()),.int .i64 ((2:Int))]) <|
 .call false 37 [Sh1.val (.g [.s,.l]) (x0),Sh1.val (.g [.s,.b,.l]) (x1),.string (x2)] (.t [(.g [.b,.l,.l]),(.o (.b))]) fun y4 =>
 .call false 38 [.string (x2),Sh1.val (.g [.b,.l,.l]) (y4.1),.int .i64 (x3)] (.t [(.g [.s,.b,.l]),(.g [.b,.l,.l]),(.o (.b))]) fun y5 =>
 .br (!y4.2.1) (
  .ret [Sh1.val (.g [.s,.b,.l]) (({ data:={ toList:=[]:Array UInt8 }:ByteArray }),(false),nilS,()),Sh1.val (.g [.b,.l,.l]) ((false),nilS,nilS,()),.int .i64 ((3:Int))]) <|
 .br (!y5.2.2.1) (
  .ret [Sh1.val (.g [.s,.b,.l]) (({ data:={ toList:=[]:Array UInt8 }:ByteArray }),(false),nilS,()),Sh1.val (.g [.b,.l,.l]) ((false),nilS,nilS,()),.int .i64 ((3:Int))]) <|
 .rg <|
 .ret [Sh1.val (.g [.s,.b,.l]) (y5.1),Sh1.val (.g [.b,.l,.l]) (y5.2.1),.int .i64 ((0:Int))]
theorem fS_Convert (x0:ByteArray × SlV × PUnit) (x1:ByteArray × Bool × SlV × PUnit) (x2:ByteArray) (x3:Int):fits Tryz.prog aS_Convert 8 [Sh1.val (.g [.s,.l]) (x0),Sh1.val (.g [.s,.b,.l]) (x1),.string (x2),.int .i64 (x3)] (tS_Convert x0 x1 x2 x3) :=
 fitK (by kernel_rfl)
def aL_toRates:An:=⟨[],[],[]⟩
noncomputable def tL_toRates (x0:ByteArray × SlV × PUnit):T :=
 .call false 39 [Sc.val .l (x0.2.1)] (.v (.o (.l))) fun y1 =>
 .ret [Sh1.val (.g [.s,.l]) ((x0.1),y1,())]
theorem fL_toRates (x0:ByteArray × SlV × PUnit):fits Tryz.prog aL_toRates 9 [Sh1.val (.g [.s,.l]) (x0)] (tL_toRates x0) :=
 fitK (by kernel_rfl)
def aL_toMoney:An:=⟨[],[],[]⟩
noncomputable def tL_toMoney (x0:ByteArray × Bool × SlV × PUnit):T :=
 .call false 40 [Sh1.val (.g [.b,.l]) (x0.2)] (.v (.g [.b,.l])) fun y1 =>
 .ret [Sh1.val (.g [.s,.b,.l]) ((x0.1),(y1.1),y1.2.1,())]
theorem fL_toMoney (x0:ByteArray × Bool × SlV × PUnit):fits Tryz.prog aL_toMoney 10 [Sh1.val (.g [.s,.b,.l]) (x0)] (tL_toMoney x0) :=
 fitK (by kernel_rfl)
def aI_Convert:An:=⟨[],[],[]⟩
noncomputable def tI_Convert (x0:ByteArray × SlV × PUnit) (x1:ByteArray × Bool × SlV × PUnit) (x2:ByteArray) (x3:Int):T :=
 .fz ((1:Nat)) [.string (x1.1),.bool (x1.2.1),Sc.val .l (x1.2.2.1)] 34 fun b1 c1 =>
 .call false 23 [Sh1.val (.g [.s,.l]) (x0),.slice (some { block:=b1,off:=(0:Nat):Addr }) ((1:Nat)) (c1),.string (x2),.int .i64 (x3)] (.t [(.g [.s,.b,.l]),(.g [.b,.l,.l]),(.o (.i .i64))]) fun y2 =>
 .ret [Sh1.val (.g [.s,.b,.l]) (y2.1),Sh1.val (.g [.b,.l,.l]) (y2.2.1),.int .i64 (y2.2.2.1)]
theorem fI_Convert (x0:ByteArray × SlV × PUnit) (x1:ByteArray × Bool × SlV × PUnit) (x2:ByteArray) (x3:Int):fits Tryz.prog aI_Convert 11 [Sh1.val (.g [.s,.l]) (x0),Sh1.val (.g [.s,.b,.l]) (x1),.string (x2),.int .i64 (x3)] (tI_Convert x0 x1 x2 x3) :=
 fitK (by kernel_rfl)
def aL_eqMoney:An:=⟨[],[],[]⟩
noncomputable def tL_eqMoney (x0:ByteArray × Bool × SlV × PUnit) (x1:ByteArray × Bool × SlV × PUnit):T :=
 .br (!ByteArray.toList x0.1 == ByteArray.toList x1.1) (
  .ret [.bool (false)]) <|
 .call false 41 [Sh1.val (.g [.b,.l]) (x0.2),Sh1.val (.g [.b,.l]) (x1.2)] (.v (.o (.b))) fun y1 =>
 .br (!y1) (
  .ret [.bool (false)]) <|
 .ret [.bool (true)]
theorem fL_eqMoney (x0:ByteArray × Bool × SlV × PUnit) (x1:ByteArray × Bool × SlV × PUnit):fits Tryz.prog aL_eqMoney 12 [Sh1.val (.g [.s,.b,.l]) (x0),Sh1.val (.g [.s,.b,.l]) (x1)] (tL_eqMoney x0 x1) :=
 fitK (by kernel_rfl)
def aL_eqRat:An:=⟨[],[],[]⟩
noncomputable def tL_eqRat (x0:Bool × SlV × SlV × PUnit) (x1:Bool × SlV × SlV × PUnit):T :=
 .call false 41 [Sh1.val (.g [.b,.l]) ((x0.1),x0.2.1,()),Sh1.val (.g [.b,.l]) ((x1.1),x1.2.1,())] (.v (.o (.b))) fun y1 =>
 .br (!y1) (
  .ret [.bool (false)]) <|
 .call false 42 [Sc.val .l (x0.2.2.1),Sc.val .l (x1.2.2.1)] (.v (.o (.b))) fun y2 =>
 .br (!y2) (
  .ret [.bool (false)]) <|
 .ret [.bool (true)]
theorem fL_eqRat (x0:Bool × SlV × SlV × PUnit) (x1:Bool × SlV × SlV × PUnit):fits Tryz.prog aL_eqRat 13 [Sh1.val (.g [.b,.l,.l]) (x0),Sh1.val (.g [.b,.l,.l]) (x1)] (tL_eqRat x0 x1) :=
 fitK (by kernel_rfl)
def aL_eqRates:An:=⟨[],[],[]⟩
noncomputable def tL_eqRates (x0:ByteArray × SlV × PUnit) (x1:ByteArray × SlV × PUnit):T :=
 .br (!ByteArray.toList x0.1 == ByteArray.toList x1.1) (
  .ret [.bool (false)]) <|
 .call false 43 [Sc.val .l (x0.2.1),Sc.val .l (x1.2.1)] (.v (.o (.b))) fun y1 =>
 .br (!y1) (
  .ret [.bool (false)]) <|
 .ret [.bool (true)]
theorem fL_eqRates (x0:ByteArray × SlV × PUnit) (x1:ByteArray × SlV × PUnit):fits Tryz.prog aL_eqRates 14 [Sh1.val (.g [.s,.l]) (x0),Sh1.val (.g [.s,.l]) (x1)] (tL_eqRates x0 x1) :=
 fitK (by kernel_rfl)
def aL_markRates:An:=⟨[],[],[]⟩
noncomputable def tL_markRates (x0:ByteArray × SlV × PUnit) (x1:Int):T :=
 .call false 44 [Sc.val .l (x0.2.1),.int .i64 (x1)] (.v (.o (.i .i64))) fun y1 =>
 .ret [.int .i64 (y1)]
theorem fL_markRates (x0:ByteArray × SlV × PUnit) (x1:Int):fits Tryz.prog aL_markRates 15 [Sh1.val (.g [.s,.l]) (x0),.int .i64 (x1)] (tL_markRates x0 x1) :=
 fitK (by kernel_rfl)
def aL_markMoney:An:=⟨[],[],[]⟩
noncomputable def tL_markMoney (x0:ByteArray × Bool × SlV × PUnit) (x1:Int):T :=
 .call false 45 [Sh1.val (.g [.b,.l]) (x0.2),.int .i64 (x1)] (.v (.o (.i .i64))) fun y1 =>
 .ret [.int .i64 (y1)]
theorem fL_markMoney (x0:ByteArray × Bool × SlV × PUnit) (x1:Int):fits Tryz.prog aL_markMoney 16 [Sh1.val (.g [.s,.b,.l]) (x0),.int .i64 (x1)] (tL_markMoney x0 x1) :=
 fitK (by kernel_rfl)
def aL_markRat:An:=⟨[],[],[]⟩
noncomputable def tL_markRat (x0:Bool × SlV × SlV × PUnit) (x1:Int):T :=
 .call false 45 [Sh1.val (.g [.b,.l]) ((x0.1),x0.2.1,()),.int .i64 (x1)] (.v (.o (.i .i64))) fun y1 =>
 .call false 46 [Sc.val .l (x0.2.2.1),.int .i64 (y1)] (.v (.o (.i .i64))) fun y2 =>
 .ret [.int .i64 (y2)]
theorem fL_markRat (x0:Bool × SlV × SlV × PUnit) (x1:Int):fits Tryz.prog aL_markRat 17 [Sh1.val (.g [.b,.l,.l]) (x0),.int .i64 (x1)] (tL_markRat x0 x1) :=
 fitK (by kernel_rfl)
def aL_heldMoney:An:=⟨[],[],[]⟩
noncomputable def tL_heldMoney (x0:ByteArray × Bool × SlV × PUnit) (x1:Int):T :=
 .call false 47 [Sh1.val (.g [.b,.l]) (x0.2),.int .i64 (x1)] (.v (.o (.i .i64))) fun y1 =>
 .br (decide (y1<(0:Int))) (
  .ret [.int .i64 ((-1:Int))]) <|
 .ret [.int .i64 (y1)]
theorem fL_heldMoney (x0:ByteArray × Bool × SlV × PUnit) (x1:Int):fits Tryz.prog aL_heldMoney 18 [Sh1.val (.g [.s,.b,.l]) (x0),.int .i64 (x1)] (tL_heldMoney x0 x1) :=
 fitK (by kernel_rfl)
def aL_heldRat:An:=⟨[],[],[]⟩
noncomputable def tL_heldRat (x0:Bool × SlV × SlV × PUnit) (x1:Int):T :=
 .call false 47 [Sh1.val (.g [.b,.l]) ((x0.1),x0.2.1,()),.int .i64 (x1)] (.v (.o (.i .i64))) fun y1 =>
 .br (decide (y1<(0:Int))) (
  .ret [.int .i64 ((-1:Int))]) <|
 .call false 48 [Sc.val .l (x0.2.2.1),.int .i64 (y1)] (.v (.o (.i .i64))) fun y2 =>
 .br (decide (y2<(0:Int))) (
  .ret [.int .i64 ((-1:Int))]) <|
 .ret [.int .i64 (y2)]
theorem fL_heldRat (x0:Bool × SlV × SlV × PUnit) (x1:Int):fits Tryz.prog aL_heldRat 19 [Sh1.val (.g [.b,.l,.l]) (x0),.int .i64 (x1)] (tL_heldRat x0 x1) :=
 fitK (by kernel_rfl)
def aL_szMoneyS:An:=⟨[(5,[.s 1,.s 5],[.o (.o (.i .i64)),.o (.o (.i .i64))])],[],[]⟩
noncomputable def tL_szMoneyS (x0:SlV) (x1:Int):T :=
 .br (decide (IntKind.i64.wrap (x1-(↑x0.n:Int))<(0:Int))) (
  .ret [.int .i64 ((-1:Int))]) <|
 .lp [.o (.o (.i .i64)),.o (.o (.i .i64))] [.v (.int .i64 (IntKind.i64.wrap (x1-(↑x0.n:Int)))),.v (.int .i64 ((0:Int)))] fun y1 =>
 .br (decide (y1.2.1<(↑x0.n:Int))) (
  .el (x0.a) (x0.n) (y1.2.1) fun y2 =>
  .ld false (y2.add (Int.toNat y1.2.1*(3:Nat))) (.g [.s,.b,.l]) fun y3 =>
  .call false 7 [Sh1.val (.g [.s,.b,.l]) (y3),.int .i64 (y1.1)] (.v (.o (.i .i64))) fun y4 =>
  .br (decide (y4<(0:Int))) (
   .ret [.int .i64 ((-1:Int))]) <|
  .nx 0 [.v (.int .i64 (y4)),.v (.int .i64 (IntKind.i64.wrap (y1.2.1+(1:Int))))]) <|
 .ret [.int .i64 (y1.1)]
theorem fL_szMoneyS (x0:SlV) (x1:Int):fits Tryz.prog aL_szMoneyS 20 [Sc.val .l (x0),.int .i64 (x1)] (tL_szMoneyS x0 x1) :=
 fitK (by kernel_rfl)
def aS_ConvertSum:An:=⟨[(2,[.s 26,.c 8 0,.c 8 1,.c 8 2,.c 9 0,.c 9 1,.c 9 2],[.o (.o (.i .i64)),.o (.o (.s)),.o (.o (.b)),.o (.o (.l)),.o (.o (.b)),.o (.o (.l)),.o (.o (.l))]),(12,[.s 14,.s 46,.c 8 0,.c 8 1,.c 8 2,.c 9 0,.c 9 1,.c 9 2,.c 13 0,.c 13 1,.c 13 2],[.o (.o (.b)),.o (.o (.i .i64)),.o (.o (.s)),.o (.o (.b)),.o (.o (.l)),.o (.o (.b)),.o (.o (.l)),.o (.o (.l)),.o (.o (.b)),.o (.o (.l)),.o (.o (.l))])],[],[]⟩
noncomputable def tS_ConvertSum (x0:ByteArray × SlV × PUnit) (x1:SlV) (x2:ByteArray) (x3:Int):T :=
 .lp [.o (.o (.i .i64)),.o (.o (.s)),.o (.o (.b)),.o (.o (.l)),.o (.o (.b)),.o (.o (.l)),.o (.o (.l))] [.v (.int .i64 ((0:Int))),.v (.string ({ data:={ toList:=[]:Array UInt8 }:ByteArray })),.v (.bool (false)),.v (.slice (none) ((0:Nat)) ((0:Nat))),.v (.bool (false)),.v (.slice (none) ((0:Nat)) ((0:Nat))),.v (.slice (none) ((0:Nat)) ((0:Nat)))] fun y1 =>
 .br (decide (y1.1<(↑x1.n:Int))) (
  .el (x1.a) (x1.n) (y1.1) fun y2 =>
  .ld false (y2.add (Int.toNat y1.1*(3:Nat))) (.g [.s,.b,.l]) fun y3 =>
  .call false 34 [Sh1.val (.g [.s,.b,.l]) (y3)] (.v (.o (.b))) fun y4 =>
  .br (!y4) (
   .ret [Sh1.val (.g [.s,.b,.l]) (({ data:={ toList:=[]:Array UInt8 }:ByteArray }),(false),nilS,()),Sh1.val (.g [.b,.l,.l]) ((false),nilS,nilS,()),.int .i64 ((1:Int))]) <|
  .nx 0 [.v (.int .i64 (IntKind.i64.wrap (y1.1+(1:Int)))),.v (.string (y1.2.1)),.v (.bool (y1.2.2.1)),.v (Sc.val .l (y1.2.2.2.1)),.v (.bool (y1.2.2.2.2.1)),.v (Sc.val .l (y1.2.2.2.2.2.1)),.v (Sc.val .l (y1.2.2.2.2.2.2.1))]) <|
 .call false 35 [Sh1.val (.g [.s,.l]) (x0),.string (x2),.int .i64 (x3)] (.v (.o (.b))) fun y2 =>
 .br (!y2) (
  .ret [Sh1.val (.g [.s,.b,.l]) (({ data:={ toList:=[]:Array UInt8 }:ByteArray }),(false),nilS,()),Sh1.val (.g [.b,.l,.l]) ((false),nilS,nilS,()),.int .i64 ((1:Int))]) <|
 .call false 49 [] (.v (.g [.b,.l,.l])) fun y3 =>
 .lp [.o (.o (.b)),.o (.o (.i .i64)),.o (.o (.s)),.o (.o (.b)),.o (.o (.l)),.o (.o (.b)),.o (.o (.l)),.o (.o (.l)),.o (.o (.b)),.o (.o (.l)),.o (.o (.l))] [.v (.bool (true)),.v (.int .i64 ((0:Int))),.v (.string (y1.2.1)),.v (.bool (y1.2.2.1)),.v (Sc.val .l (y1.2.2.2.1)),.v (.bool (y1.2.2.2.2.1)),.v (Sc.val .l (y1.2.2.2.2.2.1)),.v (Sc.val .l (y1.2.2.2.2.2.2.1)),.v (.bool (y3.1)),.v (Sc.val .l (y3.2.1)),.v (Sc.val .l (y3.2.2.1))] fun y4 =>
 .br (decide (y4.2.1<(↑x1.n:Int))) (
  .el (x1.a) (x1.n) (y4.2.1) fun y5 =>
  .ld false (y5.add (Int.toNat y4.2.1*(3:Nat))) (.g [.s,.b,.l]) fun y6 =>
  .call false 36 [Sh1.val (.g [.s,.l]) (x0),.string (y6.1),.string (x2)] (.v (.o (.i .i64))) fun y7 =>
  .br (y7 == (0:Int)) (
   .ret [Sh1.val (.g [.s,.b,.l]) (({ data:={ toList:=[]:Array UInt8 }:ByteArray }),(false),nilS,()),Sh1.val (.g [.b,.l,.l]) ((false),nilS,nilS,()),.int .i64 ((2:Int))]) <|
  .call false 37 [Sh1.val (.g [.s,.l]) (x0),Sh1.val (.g [.s,.b,.l]) (y6),.string (x2)] (.t [(.g [.b,.l,.l]),(.o (.b))]) fun y8 =>
  .call false 50 [Sh1.val (.g [.b,.l,.l]) (y4.2.2.2.2.2.2.2.2),Sh1.val (.g [.b,.l,.l]) (y8.1)] (.t [(.g [.b,.l,.l]),(.o (.b))]) fun y9 =>
  .br (y4.1) (
   .br (y8.2.1) (
    .br (y9.2.1) (
     .nx 1 [.v (.bool (y9.2.1)),.v (.int .i64 (IntKind.i64.wrap (y4.2.1+(1:Int)))),.v (.string (y4.2.2.1)),.v (.bool (y4.2.2.2.1)),.v (Sc.val .l (y4.2.2.2.2.1)),.v (.bool (y4.2.2.2.2.2.1)),.v (Sc.val .l (y4.2.2.2.2.2.2.1)),.v (Sc.val .l (y4.2.2.2.2.2.2.2.1)),.v (.bool (y9.1.1)),.v (Sc.val .l (y9.1.2.1)),.v (Sc.val .l (y9.1.2.2.1))]) <|
    .nx 1 [.v (.bool (y9.2.1)),.v (.int .i64 (IntKind.i64.wrap (y4.2.1+(1:Int)))),.v (.string (y4.2.2.1)),.v (.bool (y4.2.2.2.1)),.v (Sc.val .l (y4.2.2.2.2.1)),.v (.bool (y4.2.2.2.2.2.1)),.v (Sc.val .l (y4.2.2.2.2.2.2.1)),.v (Sc.val .l (y4.2.2.2.2.2.2.2.1)),.v (.bool (y4.2.2.2.2.2.2.2.2.1)),.v (Sc.val .l (y4.2.2.2.2.2.2.2.2.2.1)),.v (Sc.val .l (y4.2.2.2.2.2.2.2.2.2.2.1))]) <|
   .nx 1 [.v (.bool (false)),.v (.int .i64 (IntKind.i64.wrap (y4.2.1+(1:Int)))),.v (.string (y4.2.2.1)),.v (.bool (y4.2.2.2.1)),.v (Sc.val .l (y4.2.2.2.2.1)),.v (.bool (y4.2.2.2.2.2.1)),.v (Sc.val .l (y4.2.2.2.2.2.2.1)),.v (Sc.val .l (y4.2.2.2.2.2.2.2.1)),.v (.bool (y4.2.2.2.2.2.2.2.2.1)),.v (Sc.val .l (y4.2.2.2.2.2.2.2.2.2.1)),.v (Sc.val .l (y4.2.2.2.2.2.2.2.2.2.2.1))]) <|
  .nx 1 [.v (.bool (false)),.v (.int .i64 (IntKind.i64.wrap (y4.2.1+(1:Int)))),.v (.string (y4.2.2.1)),.v (.bool (y4.2.2.2.1)),.v (Sc.val .l (y4.2.2.2.2.1)),.v (.bool (y4.2.2.2.2.2.1)),.v (Sc.val .l (y4.2.2.2.2.2.2.1)),.v (Sc.val .l (y4.2.2.2.2.2.2.2.1)),.v (.bool (y4.2.2.2.2.2.2.2.2.1)),.v (Sc.val .l (y4.2.2.2.2.2.2.2.2.2.1)),.v (Sc.val .l (y4.2.2.2.2.2.2.2.2.2.2.1))]) <|
 .call false 38 [.string (x2),Sh1.val (.g [.b,.l,.l]) (y4.2.2.2.2.2.2.2.2),.int .i64 (x3)] (.t [(.g [.s,.b,.l]),(.g [.b,.l,.l]),(.o (.b))]) fun y5 =>
 .br (!y4.1) (
  .ret [Sh1.val (.g [.s,.b,.l]) (({ data:={ toList:=[]:Array UInt8 }:ByteArray }),(false),nilS,()),Sh1.val (.g [.b,.l,.l]) ((false),nilS,nilS,()),.int .i64 ((3:Int))]) <|
 .br (!y5.2.2.1) (
  .ret [Sh1.val (.g [.s,.b,.l]) (({ data:={ toList:=[]:Array UInt8 }:ByteArray }),(false),nilS,()),Sh1.val (.g [.b,.l,.l]) ((false),nilS,nilS,()),.int .i64 ((3:Int))]) <|
 .rg <|
 .ret [Sh1.val (.g [.s,.b,.l]) (y5.1),Sh1.val (.g [.b,.l,.l]) (y5.2.1),.int .i64 ((0:Int))]
theorem fS_ConvertSum (x0:ByteArray × SlV × PUnit) (x1:SlV) (x2:ByteArray) (x3:Int):fits Tryz.prog aS_ConvertSum 21 [Sh1.val (.g [.s,.l]) (x0),Sc.val .l (x1),.string (x2),.int .i64 (x3)] (tS_ConvertSum x0 x1 x2 x3) :=
 fitK (by kernel_rfl)
def aL_toMoneyS:An:=⟨[(3,[.s 3,.s 4],[.a 34,.o (.o (.i .i64))])],[],[]⟩
noncomputable def tL_toMoneyS (x0:SlV):T :=
 .rq ((0:Int)≤(↑x0.n:Int)∧(↑x0.n:Int)≤(↑x0.n:Int)∧(↑(48:Nat):Int)*(↑x0.n:Int)≤(281474976710656:Int)∧(↑x0.n:Int)≤(9223372036854775807:Int)) <|
 .lp [.a 34,.o (.o (.i .i64))] [.a 34 ((↑x0.n:Int).toNat) ((madeCells { toList:=[Value.string { data:={ toList:=[]:Array UInt8 }:ByteArray },Value.bool false,Value.slice none (0:Nat) (0:Nat)]:Array Value } ((↑x0.n:Int).toNat*(3:Nat))).toList),.v (.int .i64 ((0:Int)))] fun y1 =>
 .br (decide (y1.2.1<(↑x0.n:Int))) (
  .el (x0.a) (x0.n) (y1.2.1) fun y2 =>
  .ld false (y2.add (Int.toNat y1.2.1*(3:Nat))) (.g [.s,.b,.l]) fun y3 =>
  .call false 10 [Sh1.val (.g [.s,.b,.l]) (y3)] (.v (.g [.s,.b,.l])) fun y4 =>
  .rq ((0:Int)≤y1.2.1∧y1.2.1<(↑y1.1.1:Int)) <|
  .rq (Int.toNat y1.2.1*(3:Nat)+[Value.string y4.1,Value.bool y4.2.1,Value.slice y4.2.2.1.a y4.2.2.1.n y4.2.2.1.c].length≤y1.1.2.length) <|
  .nx 0 [.a 34 (y1.1.1) (setl y1.1.2 (Int.toNat y1.2.1*(3:Nat)) [Value.string y4.1,Value.bool y4.2.1,Value.slice y4.2.2.1.a y4.2.2.1.n y4.2.2.1.c]),.v (.int .i64 (IntKind.i64.wrap (y1.2.1+(1:Int))))]) <|
 .fz (y1.1.1) (y1.1.2) 34 fun b2 c2 =>
 .ret [.slice (some { block:=b2,off:=(0:Nat):Addr }) (y1.1.1) (c2)]
theorem fL_toMoneyS (x0:SlV):fits Tryz.prog aL_toMoneyS 22 [Sc.val .l (x0)] (tL_toMoneyS x0) :=
 fitK (by kernel_rfl)
def aI_ConvertSum:An:=⟨[],[],[]⟩
noncomputable def tI_ConvertSum (x0:ByteArray × SlV × PUnit) (x1:SlV) (x2:ByteArray) (x3:Int):T :=
 .call false 51 [Sh1.val (.g [.s,.l]) (x0),Sc.val .l (x1),.string (x2),.int .i64 (x3)] (.t [(.g [.s,.b,.l]),(.g [.b,.l,.l]),(.o (.e))]) fun y1 =>
 .spl (y1.2.2.1) (
  .rg <|
  .call true 52 [(Value.nilIface)] (.v (.o (.i .i64))) fun y2 =>
  .ret [Sh1.val (.g [.s,.b,.l]) (y1.1),Sh1.val (.g [.b,.l,.l]) (y1.2.1),.int .i64 (y2)]) fun y2 =>
 .rg <|
 .call true 52 [(Value.iface y2.1 (Value.agg { toList:=[Value.int IntKind.i64 y2.2]:Array Value }))] (.v (.o (.i .i64))) fun y3 =>
 .ret [Sh1.val (.g [.s,.b,.l]) (y1.1),Sh1.val (.g [.b,.l,.l]) (y1.2.1),.int .i64 (y3)]
theorem fI_ConvertSum (x0:ByteArray × SlV × PUnit) (x1:SlV) (x2:ByteArray) (x3:Int):fits Tryz.prog aI_ConvertSum 23 [Sh1.val (.g [.s,.l]) (x0),Sc.val .l (x1),.string (x2),.int .i64 (x3)] (tI_ConvertSum x0 x1 x2 x3) :=
 fitK (by kernel_rfl)
def aL_eqMoneyS:An:=⟨[(4,[.s 5],[.o (.o (.i .i64))])],[],[]⟩
noncomputable def tL_eqMoneyS (x0:SlV) (x1:SlV):T :=
 .br ((↑x0.n:Int) != (↑x1.n:Int)) (
  .ret [.bool (false)]) <|
 .lp [.o (.o (.i .i64))] [.v (.int .i64 ((0:Int)))] fun y1 =>
 .br (decide (y1.1<(↑x0.n:Int))) (
  .rg <|
  .el (x0.a) (x0.n) (y1.1) fun y2 =>
  .ld true (y2.add (Int.toNat y1.1*(3:Nat))) (.g [.s,.b,.l]) fun y3 =>
  .el (x1.a) (x1.n) (y1.1) fun y4 =>
  .ld true (y4.add (Int.toNat y1.1*(3:Nat))) (.g [.s,.b,.l]) fun y5 =>
  .call true 12 [Sh1.val (.g [.s,.b,.l]) (y3),Sh1.val (.g [.s,.b,.l]) (y5)] (.v (.o (.b))) fun y6 =>
  .br (!y6) (
   .ret [.bool (false)]) <|
  .nx 0 [.v (.int .i64 (IntKind.i64.wrap (y1.1+(1:Int))))]) <|
 .ret [.bool (true)]
theorem fL_eqMoneyS (x0:SlV) (x1:SlV):fits Tryz.prog aL_eqMoneyS 24 [Sc.val .l (x0),Sc.val .l (x1)] (tL_eqMoneyS x0 x1) :=
 fitK (by kernel_rfl)
def aL_markMoneyS:An:=⟨[(2,[.s 1,.s 5],[.o (.o (.i .i64)),.o (.o (.i .i64))])],[],[]⟩
noncomputable def tL_markMoneyS (x0:SlV) (x1:Int):T :=
 .lp [.o (.o (.i .i64)),.o (.o (.i .i64))] [.v (.int .i64 (x1)),.v (.int .i64 ((0:Int)))] fun y1 =>
 .br (decide (y1.2.1<(↑x0.n:Int))) (
  .call false 53 [.int .i64 (y1.1)] (.v (.o (.s))) fun y2 =>
  .el (x0.a) (x0.n) (y1.2.1) fun y3 =>
  .st ((y3.add (Int.toNat y1.2.1*(3:Nat))).add (0:Nat)) [.string (y2)] <|
  .rq ((3:Int)≠(0:Int)) <|
  .el (x0.a) (x0.n) (y1.2.1) fun y4 =>
  .st (((y4.add (Int.toNat y1.2.1*(3:Nat))).add (1:Nat)).add (0:Nat)) [.bool ((IntKind.i64.wrap (y1.1+(1:Int))).tmod (3:Int) == (0:Int))] <|
  .el (x0.a) (x0.n) (y1.2.1) fun y5 =>
  .ld false (((y5.add (Int.toNat y1.2.1*(3:Nat))).add (1:Nat)).add (1:Nat)) (.o (.l)) fun y6 =>
  .call false 46 [Sc.val .l (y6),.int .i64 (IntKind.i64.wrap (IntKind.i64.wrap (y1.1+(1:Int))+(1:Int)))] (.v (.o (.i .i64))) fun y7 =>
  .nx 0 [.v (.int .i64 (y7)),.v (.int .i64 (IntKind.i64.wrap (y1.2.1+(1:Int))))]) <|
 .ret [.int .i64 (y1.1)]
theorem fL_markMoneyS (x0:SlV) (x1:Int):fits Tryz.prog aL_markMoneyS 25 [Sc.val .l (x0),.int .i64 (x1)] (tL_markMoneyS x0 x1) :=
 fitK (by kernel_rfl)
def aL_szLedger:An:=⟨[],[],[]⟩
noncomputable def tL_szLedger (x0:SlV × SlV × ByteArray × SlV × PUnit) (x1:Int):T :=
 .call false 54 [Sh1.val (.g [.l]) (x0.1,()),.int .i64 (x1)] (.v (.o (.i .i64))) fun y1 =>
 .br (decide (y1<(0:Int))) (
  .ret [.int .i64 ((-1:Int))]) <|
 .call false 55 [Sc.val .l (x0.2.1),.int .i64 (y1)] (.v (.o (.i .i64))) fun y2 =>
 .br (decide (y2<(0:Int))) (
  .ret [.int .i64 ((-1:Int))]) <|
 .call false 6 [Sh1.val (.g [.s,.l]) (x0.2.2),.int .i64 (y2)] (.v (.o (.i .i64))) fun y3 =>
 .br (decide (y3<(0:Int))) (
  .ret [.int .i64 ((-1:Int))]) <|
 .ret [.int .i64 (y3)]
theorem fL_szLedger (x0:SlV × SlV × ByteArray × SlV × PUnit) (x1:Int):fits Tryz.prog aL_szLedger 26 [Sh1.val (.g [.l,.l,.s,.l]) (x0),.int .i64 (x1)] (tL_szLedger x0 x1) :=
 fitK (by kernel_rfl)
def aS_Wealth:An:=⟨[(5,[.s 9,.s 22],[.a 34,.o (.o (.i .i64))])],[],[]⟩
noncomputable def tS_Wealth (x0:SlV × SlV × ByteArray × SlV × PUnit) (x1:ByteArray) (x2:Int):T :=
 .call false 56 [Sh1.val (.g [.l,.l,.s,.l]) (x0)] (.v (.o (.b))) fun y1 =>
 .br (!y1) (
  .ret [Sh1.val (.g [.s,.b,.l]) (({ data:={ toList:=[]:Array UInt8 }:ByteArray }),(false),nilS,()),Sh1.val (.g [.b,.l,.l]) ((false),nilS,nilS,()),.int .i64 ((1:Int))]) <|
 .lp [.a 34,.o (.o (.i .i64))] [.a 34 ((0:Nat)) [],.v (.int .i64 ((0:Int)))] fun y2 =>
 .br (decide (y2.2.1<(↑x0.1.n:Int))) (
  .el (x0.1.a) (x0.1.n) (y2.2.1) fun y3 =>
  .ld false (y3.add (Int.toNat y2.2.1*(4:Nat))) (.g [.s,.s,.b,.l]) fun y4 =>
  .rq ([Value.string y4.2.1,Value.bool y4.2.2.1,Value.slice y4.2.2.2.1.a y4.2.2.2.1.n y4.2.2.2.1.c].length=(1:Nat)*(3:Nat)) <|
  .rq (one [Value.string y4.2.1,Value.bool y4.2.2.1,Value.slice y4.2.2.2.1.a y4.2.2.2.1.n y4.2.2.2.1.c]=true∧(y2.1.1+(1:Nat))*(48:Nat)≤(140737488355328:Nat)∧y2.1.1+(1:Nat)≤(9223372036854775807:Nat)) <|
  .nx 0 [.a 34 (y2.1.1+(1:Nat)) (y2.1.2++[Value.string y4.2.1,Value.bool y4.2.2.1,Value.slice y4.2.2.2.1.a y4.2.2.2.1.n y4.2.2.2.1.c]),.v (.int .i64 (IntKind.i64.wrap (y2.2.1+(1:Int))))]) <|
 .fz (y2.1.1) (y2.1.2) 34 fun b3 c3 =>
 .call false 21 [Sh1.val (.g [.s,.l]) (x0.2.2),.slice (some { block:=b3,off:=(0:Nat):Addr }) (y2.1.1) (c3),.string (x1),.int .i64 (x2)] (.t [(.g [.s,.b,.l]),(.g [.b,.l,.l]),(.o (.i .i64))]) fun y4 =>
 .ret [Sh1.val (.g [.s,.b,.l]) (y4.1),Sh1.val (.g [.b,.l,.l]) (y4.2.1),.int .i64 (y4.2.2.1)]
theorem fS_Wealth (x0:SlV × SlV × ByteArray × SlV × PUnit) (x1:ByteArray) (x2:Int):fits Tryz.prog aS_Wealth 27 [Sh1.val (.g [.l,.l,.s,.l]) (x0),.string (x1),.int .i64 (x2)] (tS_Wealth x0 x1 x2) :=
 fitK (by kernel_rfl)
def aL_toLedger:An:=⟨[],[],[]⟩
noncomputable def tL_toLedger (x0:SlV × SlV × ByteArray × SlV × PUnit):T :=
 .call false 57 [Sh1.val (.g [.l]) (x0.1,())] (.v (.g [.l])) fun y1 =>
 .call false 58 [Sc.val .l (x0.2.1)] (.v (.o (.l))) fun y2 =>
 .call false 9 [Sh1.val (.g [.s,.l]) (x0.2.2)] (.v (.g [.s,.l])) fun y3 =>
 .ret [Sh1.val (.g [.l,.l,.s,.l]) (y1.1,y2,(y3.1),y3.2.1,())]
theorem fL_toLedger (x0:SlV × SlV × ByteArray × SlV × PUnit):fits Tryz.prog aL_toLedger 28 [Sh1.val (.g [.l,.l,.s,.l]) (x0)] (tL_toLedger x0) :=
 fitK (by kernel_rfl)
def aI_Wealth:An:=⟨[(5,[.s 9,.s 22],[.a 34,.o (.o (.i .i64))])],[],[]⟩
noncomputable def tI_Wealth (x0:SlV × SlV × ByteArray × SlV × PUnit) (x1:ByteArray) (x2:Int):T :=
 .call false 59 [Sh1.val (.g [.l,.l,.s,.l]) (x0)] (.v (.o (.b))) fun y1 =>
 .br (!y1) (
  .ret [Sh1.val (.g [.s,.b,.l]) (({ data:={ toList:=[]:Array UInt8 }:ByteArray }),(false),nilS,()),Sh1.val (.g [.b,.l,.l]) ((false),nilS,nilS,()),.int .i64 ((1:Int))]) <|
 .lp [.a 34,.o (.o (.i .i64))] [.a 34 ((0:Nat)) [],.v (.int .i64 ((0:Int)))] fun y2 =>
 .br (decide (y2.2.1<(↑x0.1.n:Int))) (
  .el (x0.1.a) (x0.1.n) (y2.2.1) fun y3 =>
  .ld false (y3.add (Int.toNat y2.2.1*(4:Nat))) (.g [.s,.s,.b,.l]) fun y4 =>
  .rq ([Value.string y4.2.1,Value.bool y4.2.2.1,Value.slice y4.2.2.2.1.a y4.2.2.2.1.n y4.2.2.2.1.c].length=(1:Nat)*(3:Nat)) <|
  .rq (one [Value.string y4.2.1,Value.bool y4.2.2.1,Value.slice y4.2.2.2.1.a y4.2.2.2.1.n y4.2.2.2.1.c]=true∧(y2.1.1+(1:Nat))*(48:Nat)≤(140737488355328:Nat)∧y2.1.1+(1:Nat)≤(9223372036854775807:Nat)) <|
  .nx 0 [.a 34 (y2.1.1+(1:Nat)) (y2.1.2++[Value.string y4.2.1,Value.bool y4.2.2.1,Value.slice y4.2.2.2.1.a y4.2.2.2.1.n y4.2.2.2.1.c]),.v (.int .i64 (IntKind.i64.wrap (y2.2.1+(1:Int))))]) <|
 .fz (y2.1.1) (y2.1.2) 34 fun b3 c3 =>
 .call false 23 [Sh1.val (.g [.s,.l]) (x0.2.2),.slice (some { block:=b3,off:=(0:Nat):Addr }) (y2.1.1) (c3),.string (x1),.int .i64 (x2)] (.t [(.g [.s,.b,.l]),(.g [.b,.l,.l]),(.o (.i .i64))]) fun y4 =>
 .ret [Sh1.val (.g [.s,.b,.l]) (y4.1),Sh1.val (.g [.b,.l,.l]) (y4.2.1),.int .i64 (y4.2.2.1)]
theorem fI_Wealth (x0:SlV × SlV × ByteArray × SlV × PUnit) (x1:ByteArray) (x2:Int):fits Tryz.prog aI_Wealth 29 [Sh1.val (.g [.l,.l,.s,.l]) (x0),.string (x1),.int .i64 (x2)] (tI_Wealth x0 x1 x2) :=
 fitK (by kernel_rfl)
def aL_eqLedger:An:=⟨[],[],[]⟩
noncomputable def tL_eqLedger (x0:SlV × SlV × ByteArray × SlV × PUnit) (x1:SlV × SlV × ByteArray × SlV × PUnit):T :=
 .call false 60 [Sh1.val (.g [.l]) (x0.1,()),Sh1.val (.g [.l]) (x1.1,())] (.v (.o (.b))) fun y1 =>
 .br (!y1) (
  .ret [.bool (false)]) <|
 .call false 61 [Sc.val .l (x0.2.1),Sc.val .l (x1.2.1)] (.v (.o (.b))) fun y2 =>
 .br (!y2) (
  .ret [.bool (false)]) <|
 .call false 14 [Sh1.val (.g [.s,.l]) (x0.2.2),Sh1.val (.g [.s,.l]) (x1.2.2)] (.v (.o (.b))) fun y3 =>
 .br (!y3) (
  .ret [.bool (false)]) <|
 .ret [.bool (true)]
theorem fL_eqLedger (x0:SlV × SlV × ByteArray × SlV × PUnit) (x1:SlV × SlV × ByteArray × SlV × PUnit):fits Tryz.prog aL_eqLedger 30 [Sh1.val (.g [.l,.l,.s,.l]) (x0),Sh1.val (.g [.l,.l,.s,.l]) (x1)] (tL_eqLedger x0 x1) :=
 fitK (by kernel_rfl)
def aL_markLedger:An:=⟨[],[],[]⟩
noncomputable def tL_markLedger (x0:SlV × SlV × ByteArray × SlV × PUnit) (x1:Int):T :=
 .call false 62 [Sh1.val (.g [.l]) (x0.1,()),.int .i64 (x1)] (.v (.o (.i .i64))) fun y1 =>
 .call false 63 [Sc.val .l (x0.2.1),.int .i64 (y1)] (.v (.o (.i .i64))) fun y2 =>
 .call false 15 [Sh1.val (.g [.s,.l]) (x0.2.2),.int .i64 (y2)] (.v (.o (.i .i64))) fun y3 =>
 .ret [.int .i64 (y3)]
theorem fL_markLedger (x0:SlV × SlV × ByteArray × SlV × PUnit) (x1:Int):fits Tryz.prog aL_markLedger 31 [Sh1.val (.g [.l,.l,.s,.l]) (x0),.int .i64 (x1)] (tL_markLedger x0 x1) :=
 fitK (by kernel_rfl)
def aL_szRateS:An:=⟨[(5,[.s 1,.s 5],[.o (.o (.i .i64)),.o (.o (.i .i64))])],[],[]⟩
noncomputable def tL_szRateS (x0:SlV) (x1:Int):T :=
 .br (decide (IntKind.i64.wrap (x1-(↑x0.n:Int))<(0:Int))) (
  .ret [.int .i64 ((-1:Int))]) <|
 .lp [.o (.o (.i .i64)),.o (.o (.i .i64))] [.v (.int .i64 (IntKind.i64.wrap (x1-(↑x0.n:Int)))),.v (.int .i64 ((0:Int)))] fun y1 =>
 .br (decide (y1.2.1<(↑x0.n:Int))) (
  .el (x0.a) (x0.n) (y1.2.1) fun y2 =>
  .ld false (y2.add (Int.toNat y1.2.1*(5:Nat))) (.g [.s,.s,.b,.l,.i .i64]) fun y3 =>
  .call false 64 [Sh1.val (.g [.s,.s,.b,.l,.i .i64]) (y3),.int .i64 (y1.1)] (.v (.o (.i .i64))) fun y4 =>
  .br (decide (y4<(0:Int))) (
   .ret [.int .i64 ((-1:Int))]) <|
  .nx 0 [.v (.int .i64 (y4)),.v (.int .i64 (IntKind.i64.wrap (y1.2.1+(1:Int))))]) <|
 .ret [.int .i64 (y1.1)]
theorem fL_szRateS (x0:SlV) (x1:Int):fits Tryz.prog aL_szRateS 32 [Sc.val .l (x0),.int .i64 (x1)] (tL_szRateS x0 x1) :=
 fitK (by kernel_rfl)
def aL_szSigned:An:=⟨[],[],[]⟩
noncomputable def tL_szSigned (x0:Bool × SlV × PUnit) (x1:Int):T :=
 .call false 65 [Sc.val .l (x0.2.1),.int .i64 (x1)] (.v (.o (.i .i64))) fun y1 =>
 .br (decide (y1<(0:Int))) (
  .ret [.int .i64 ((-1:Int))]) <|
 .ret [.int .i64 (y1)]
theorem fL_szSigned (x0:Bool × SlV × PUnit) (x1:Int):fits Tryz.prog aL_szSigned 33 [Sh1.val (.g [.b,.l]) (x0),.int .i64 (x1)] (tL_szSigned x0 x1) :=
 fitK (by kernel_rfl)
def aS_MoneyOk:An:=⟨[],[],[]⟩
noncomputable def tS_MoneyOk (x0:ByteArray × Bool × SlV × PUnit):T :=
 .call false 66 [.string (x0.1)] (.v (.o (.b))) fun y1 =>
 .br (y1) (
  .call false 67 [Sh1.val (.g [.b,.l]) (x0.2)] (.v (.o (.b))) fun y2 =>
  .br (y2) (
   .ret [.bool (decide ((↑x0.2.2.1.n:Int)≤(4:Int)))]) <|
  .ret [.bool (false)]) <|
 .ret [.bool (false)]
theorem fS_MoneyOk (x0:ByteArray × Bool × SlV × PUnit):fits Tryz.prog aS_MoneyOk 34 [Sh1.val (.g [.s,.b,.l]) (x0)] (tS_MoneyOk x0) :=
 fitK (by kernel_rfl)
def aS_l11Form:An:=⟨[],[],[]⟩
noncomputable def tS_l11Form (x0:ByteArray × SlV × PUnit) (x1:ByteArray) (x2:Int):T :=
 .call false 68 [Sh1.val (.g [.s,.l]) (x0)] (.v (.o (.b))) fun y1 =>
 .br (y1) (
  .call false 66 [.string (x1)] (.v (.o (.b))) fun y2 =>
  .br (y2) (
   .call false 69 [.int .i64 (x2)] (.v (.o (.b))) fun y3 =>
   .ret [.bool (y3)]) <|
  .ret [.bool (false)]) <|
 .ret [.bool (false)]
theorem fS_l11Form (x0:ByteArray × SlV × PUnit) (x1:ByteArray) (x2:Int):fits Tryz.prog aS_l11Form 35 [Sh1.val (.g [.s,.l]) (x0),.string (x1),.int .i64 (x2)] (tS_l11Form x0 x1 x2) :=
 fitK (by kernel_rfl)
def aS_RateHow:An:=⟨[],[],[]⟩
noncomputable def tS_RateHow (x0:ByteArray × SlV × PUnit) (x1:ByteArray) (x2:ByteArray):T :=
 .call false 68 [Sh1.val (.g [.s,.l]) (x0)] (.v (.o (.b))) fun y1 =>
 .br (!y1) (
  .ret [.int .i64 ((0:Int))]) <|
 .call false 66 [.string (x1)] (.v (.o (.b))) fun y2 =>
 .br (!y2) (
  .ret [.int .i64 ((0:Int))]) <|
 .call false 66 [.string (x2)] (.v (.o (.b))) fun y3 =>
 .br (!y3) (
  .ret [.int .i64 ((0:Int))]) <|
 .br (x1.toList == x2.toList) (
  .ret [.int .i64 ((1:Int))]) <|
 .call false 70 [Sh1.val (.g [.s,.l]) (x0),.string (x1),.string (x2)] (.v (.o (.i .i64))) fun y4 =>
 .br (y4 != (0:Int)) (
  .ret [.int .i64 (y4)]) <|
 .br (!x1.toList == ByteArray.toList x0.1) (
  .br (!x2.toList == ByteArray.toList x0.1) (
   .call false 70 [Sh1.val (.g [.s,.l]) (x0),.string (x1),.string (x0.1)] (.v (.o (.i .i64))) fun y5 =>
   .br (y5 != (0:Int)) (
    .call false 70 [Sh1.val (.g [.s,.l]) (x0),.string (x0.1),.string (x2)] (.v (.o (.i .i64))) fun y6 =>
    .br (y6 != (0:Int)) (
     .ret [.int .i64 ((4:Int))]) <|
    .ret [.int .i64 ((0:Int))]) <|
   .ret [.int .i64 ((0:Int))]) <|
  .ret [.int .i64 ((0:Int))]) <|
 .ret [.int .i64 ((0:Int))]
theorem fS_RateHow (x0:ByteArray × SlV × PUnit) (x1:ByteArray) (x2:ByteArray):fits Tryz.prog aS_RateHow 36 [Sh1.val (.g [.s,.l]) (x0),.string (x1),.string (x2)] (tS_RateHow x0 x1 x2) :=
 fitK (by kernel_rfl)
def aS_Exact:An:=⟨[],[],[]⟩
noncomputable def tS_Exact (x0:ByteArray × SlV × PUnit) (x1:ByteArray × Bool × SlV × PUnit) (x2:ByteArray):T :=
 .call false 71 [Sh1.val (.g [.s,.l]) (x0),.string (x1.1),.string (x2)] (.t [(.g [.b,.l,.l]),(.o (.b))]) fun y1 =>
 .br (!y1.2.1) (
  .ret [Sh1.val (.g [.b,.l,.l]) ((false),nilS,nilS,()),.bool (false)]) <|
 .call false 34 [Sh1.val (.g [.s,.b,.l]) (x1)] (.v (.o (.b))) fun y2 =>
 .br (!y2) (
  .ret [Sh1.val (.g [.b,.l,.l]) ((false),nilS,nilS,()),.bool (false)]) <|
 .rg <|
 .call true 73 [Sh1.val (.g [.s,.b,.l]) (x1)] (.v (.g [.b,.l,.l])) fun y3 =>
 .call true 72 [Sh1.val (.g [.b,.l,.l]) (y3),Sh1.val (.g [.b,.l,.l]) (y1.1)] (.t [(.g [.b,.l,.l]),(.o (.b))]) fun y4 =>
 .ret [Sh1.val (.g [.b,.l,.l]) (y4.1),.bool (y4.2.1)]
theorem fS_Exact (x0:ByteArray × SlV × PUnit) (x1:ByteArray × Bool × SlV × PUnit) (x2:ByteArray):fits Tryz.prog aS_Exact 37 [Sh1.val (.g [.s,.l]) (x0),Sh1.val (.g [.s,.b,.l]) (x1),.string (x2)] (tS_Exact x0 x1 x2) :=
 fitK (by kernel_rfl)
def aS_RatMoney:An:=⟨[],[],[]⟩
noncomputable def tS_RatMoney (x0:ByteArray) (x1:Bool × SlV × SlV × PUnit) (x2:Int):T :=
 .call false 74 [Sh1.val (.g [.b,.l,.l]) (x1),.int .i64 (x2)] (.t [(.g [.b,.l]),(.g [.b,.l,.l]),(.o (.b))]) fun y1 =>
 .call false 75 [.string (x0),Sh1.val (.g [.b,.l]) (y1.1)] (.t [(.g [.s,.b,.l]),(.o (.b))]) fun y2 =>
 .br (!y1.2.2.1) (
  .ret [Sh1.val (.g [.s,.b,.l]) (({ data:={ toList:=[]:Array UInt8 }:ByteArray }),(false),nilS,()),Sh1.val (.g [.b,.l,.l]) ((false),nilS,nilS,()),.bool (false)]) <|
 .br (!y2.2.1) (
  .ret [Sh1.val (.g [.s,.b,.l]) (({ data:={ toList:=[]:Array UInt8 }:ByteArray }),(false),nilS,()),Sh1.val (.g [.b,.l,.l]) ((false),nilS,nilS,()),.bool (false)]) <|
 .rg <|
 .ret [Sh1.val (.g [.s,.b,.l]) (y2.1),Sh1.val (.g [.b,.l,.l]) (y1.2.1),.bool (true)]
theorem fS_RatMoney (x0:ByteArray) (x1:Bool × SlV × SlV × PUnit) (x2:Int):fits Tryz.prog aS_RatMoney 38 [.string (x0),Sh1.val (.g [.b,.l,.l]) (x1),.int .i64 (x2)] (tS_RatMoney x0 x1 x2) :=
 fitK (by kernel_rfl)
def aL_toRateS:An:=⟨[(3,[.s 3,.s 4],[.a 131,.o (.o (.i .i64))])],[],[]⟩
noncomputable def tL_toRateS (x0:SlV):T :=
 .rq ((0:Int)≤(↑x0.n:Int)∧(↑x0.n:Int)≤(↑x0.n:Int)∧(↑(72:Nat):Int)*(↑x0.n:Int)≤(281474976710656:Int)∧(↑x0.n:Int)≤(9223372036854775807:Int)) <|
 .lp [.a 131,.o (.o (.i .i64))] [.a 131 ((↑x0.n:Int).toNat) ((madeCells { toList:=[Value.string { data:={ toList:=[]:Array UInt8 }:ByteArray },Value.string { data:={ toList:=[]:Array UInt8 }:ByteArray },Value.bool false,Value.slice none (0:Nat) (0:Nat),Value.int IntKind.i64 (0:Int)]:Array Value } ((↑x0.n:Int).toNat*(5:Nat))).toList),.v (.int .i64 ((0:Int)))] fun y1 =>
 .br (decide (y1.2.1<(↑x0.n:Int))) (
  .el (x0.a) (x0.n) (y1.2.1) fun y2 =>
  .ld false (y2.add (Int.toNat y1.2.1*(5:Nat))) (.g [.s,.s,.b,.l,.i .i64]) fun y3 =>
  .call false 76 [Sh1.val (.g [.s,.s,.b,.l,.i .i64]) (y3)] (.v (.g [.s,.s,.b,.l,.i .i64])) fun y4 =>
  .rq ((0:Int)≤y1.2.1∧y1.2.1<(↑y1.1.1:Int)) <|
  .rq (Int.toNat y1.2.1*(5:Nat)+[Value.string y4.1,Value.string y4.2.1,Value.bool y4.2.2.1,Value.slice y4.2.2.2.1.a y4.2.2.2.1.n y4.2.2.2.1.c,Value.int IntKind.i64 y4.2.2.2.2.1].length≤y1.1.2.length) <|
  .nx 0 [.a 131 (y1.1.1) (setl y1.1.2 (Int.toNat y1.2.1*(5:Nat)) [Value.string y4.1,Value.string y4.2.1,Value.bool y4.2.2.1,Value.slice y4.2.2.2.1.a y4.2.2.2.1.n y4.2.2.2.1.c,Value.int IntKind.i64 y4.2.2.2.2.1]),.v (.int .i64 (IntKind.i64.wrap (y1.2.1+(1:Int))))]) <|
 .fz (y1.1.1) (y1.1.2) 131 fun b2 c2 =>
 .ret [.slice (some { block:=b2,off:=(0:Nat):Addr }) (y1.1.1) (c2)]
theorem fL_toRateS (x0:SlV):fits Tryz.prog aL_toRateS 39 [Sc.val .l (x0)] (tL_toRateS x0) :=
 fitK (by kernel_rfl)
def aL_toSigned:An:=⟨[],[],[]⟩
noncomputable def tL_toSigned (x0:Bool × SlV × PUnit):T :=
 .call false 77 [Sc.val .l (x0.2.1)] (.v (.o (.l))) fun y1 =>
 .ret [Sh1.val (.g [.b,.l]) ((x0.1),y1,())]
theorem fL_toSigned (x0:Bool × SlV × PUnit):fits Tryz.prog aL_toSigned 40 [Sh1.val (.g [.b,.l]) (x0)] (tL_toSigned x0) :=
 fitK (by kernel_rfl)
def aL_eqSigned:An:=⟨[],[],[]⟩
noncomputable def tL_eqSigned (x0:Bool × SlV × PUnit) (x1:Bool × SlV × PUnit):T :=
 .br (!x0.1 == x1.1) (
  .ret [.bool (false)]) <|
 .call false 42 [Sc.val .l (x0.2.1),Sc.val .l (x1.2.1)] (.v (.o (.b))) fun y1 =>
 .br (!y1) (
  .ret [.bool (false)]) <|
 .ret [.bool (true)]
theorem fL_eqSigned (x0:Bool × SlV × PUnit) (x1:Bool × SlV × PUnit):fits Tryz.prog aL_eqSigned 41 [Sh1.val (.g [.b,.l]) (x0),Sh1.val (.g [.b,.l]) (x1)] (tL_eqSigned x0 x1) :=
 fitK (by kernel_rfl)
def aL_eqIntS:An:=⟨[(4,[.s 5],[.o (.o (.i .i64))])],[],[]⟩
noncomputable def tL_eqIntS (x0:SlV) (x1:SlV):T :=
 .br ((↑x0.n:Int) != (↑x1.n:Int)) (
  .ret [.bool (false)]) <|
 .lp [.o (.o (.i .i64))] [.v (.int .i64 ((0:Int)))] fun y1 =>
 .br (decide (y1.1<(↑x0.n:Int))) (
  .rg <|
  .el (x0.a) (x0.n) (y1.1) fun y2 =>
  .ld true (y2.add (Int.toNat y1.1*(1:Nat))) (.o (.i .i64)) fun y3 =>
  .el (x1.a) (x1.n) (y1.1) fun y4 =>
  .ld true (y4.add (Int.toNat y1.1*(1:Nat))) (.o (.i .i64)) fun y5 =>
  .br (y3 != y5) (
   .ret [.bool (false)]) <|
  .nx 0 [.v (.int .i64 (IntKind.i64.wrap (y1.1+(1:Int))))]) <|
 .ret [.bool (true)]
theorem fL_eqIntS (x0:SlV) (x1:SlV):fits Tryz.prog aL_eqIntS 42 [Sc.val .l (x0),Sc.val .l (x1)] (tL_eqIntS x0 x1) :=
 fitK (by kernel_rfl)
def aL_eqRateS:An:=⟨[(4,[.s 5],[.o (.o (.i .i64))])],[],[]⟩
noncomputable def tL_eqRateS (x0:SlV) (x1:SlV):T :=
 .br ((↑x0.n:Int) != (↑x1.n:Int)) (
  .ret [.bool (false)]) <|
 .lp [.o (.o (.i .i64))] [.v (.int .i64 ((0:Int)))] fun y1 =>
 .br (decide (y1.1<(↑x0.n:Int))) (
  .rg <|
  .el (x0.a) (x0.n) (y1.1) fun y2 =>
  .ld true (y2.add (Int.toNat y1.1*(5:Nat))) (.g [.s,.s,.b,.l,.i .i64]) fun y3 =>
  .el (x1.a) (x1.n) (y1.1) fun y4 =>
  .ld true (y4.add (Int.toNat y1.1*(5:Nat))) (.g [.s,.s,.b,.l,.i .i64]) fun y5 =>
  .call true 78 [Sh1.val (.g [.s,.s,.b,.l,.i .i64]) (y3),Sh1.val (.g [.s,.s,.b,.l,.i .i64]) (y5)] (.v (.o (.b))) fun y6 =>
  .br (!y6) (
   .ret [.bool (false)]) <|
  .nx 0 [.v (.int .i64 (IntKind.i64.wrap (y1.1+(1:Int))))]) <|
 .ret [.bool (true)]
theorem fL_eqRateS (x0:SlV) (x1:SlV):fits Tryz.prog aL_eqRateS 43 [Sc.val .l (x0),Sc.val .l (x1)] (tL_eqRateS x0 x1) :=
 fitK (by kernel_rfl)
def aL_markRateS:An:=⟨[(2,[.s 1,.s 5],[.o (.o (.i .i64)),.o (.o (.i .i64))])],[],[]⟩
noncomputable def tL_markRateS (x0:SlV) (x1:Int):T :=
 .lp [.o (.o (.i .i64)),.o (.o (.i .i64))] [.v (.int .i64 (x1)),.v (.int .i64 ((0:Int)))] fun y1 =>
 .br (decide (y1.2.1<(↑x0.n:Int))) (
  .call false 53 [.int .i64 (y1.1)] (.v (.o (.s))) fun y2 =>
  .el (x0.a) (x0.n) (y1.2.1) fun y3 =>
  .st ((y3.add (Int.toNat y1.2.1*(5:Nat))).add (0:Nat)) [.string (y2)] <|
  .call false 53 [.int .i64 (IntKind.i64.wrap (y1.1+(1:Int)))] (.v (.o (.s))) fun y4 =>
  .el (x0.a) (x0.n) (y1.2.1) fun y5 =>
  .st ((y5.add (Int.toNat y1.2.1*(5:Nat))).add (1:Nat)) [.string (y4)] <|
  .rq ((3:Int)≠(0:Int)) <|
  .el (x0.a) (x0.n) (y1.2.1) fun y6 =>
  .st ((((y6.add (Int.toNat y1.2.1*(5:Nat))).add (2:Nat)).add (0:Nat)).add (0:Nat)) [.bool ((IntKind.i64.wrap (IntKind.i64.wrap (y1.1+(1:Int))+(1:Int))).tmod (3:Int) == (0:Int))] <|
  .el (x0.a) (x0.n) (y1.2.1) fun y7 =>
  .ld false ((((y7.add (Int.toNat y1.2.1*(5:Nat))).add (2:Nat)).add (0:Nat)).add (1:Nat)) (.o (.l)) fun y8 =>
  .call false 46 [Sc.val .l (y8),.int .i64 (IntKind.i64.wrap (IntKind.i64.wrap (IntKind.i64.wrap (y1.1+(1:Int))+(1:Int))+(1:Int)))] (.v (.o (.i .i64))) fun y9 =>
  .el (x0.a) (x0.n) (y1.2.1) fun y10 =>
  .st (((y10.add (Int.toNat y1.2.1*(5:Nat))).add (2:Nat)).add (2:Nat)) [.int .i64 (y9)] <|
  .nx 0 [.v (.int .i64 (IntKind.i64.wrap (y9+(1:Int)))),.v (.int .i64 (IntKind.i64.wrap (y1.2.1+(1:Int))))]) <|
 .ret [.int .i64 (y1.1)]
theorem fL_markRateS (x0:SlV) (x1:Int):fits Tryz.prog aL_markRateS 44 [Sc.val .l (x0),.int .i64 (x1)] (tL_markRateS x0 x1) :=
 fitK (by kernel_rfl)
def aL_markSigned:An:=⟨[],[],[]⟩
noncomputable def tL_markSigned (x0:Bool × SlV × PUnit) (x1:Int):T :=
 .call false 46 [Sc.val .l (x0.2.1),.int .i64 (x1)] (.v (.o (.i .i64))) fun y1 =>
 .ret [.int .i64 (y1)]
theorem fL_markSigned (x0:Bool × SlV × PUnit) (x1:Int):fits Tryz.prog aL_markSigned 45 [Sh1.val (.g [.b,.l]) (x0),.int .i64 (x1)] (tL_markSigned x0 x1) :=
 fitK (by kernel_rfl)
def aL_markIntS:An:=⟨[(2,[.s 1,.s 5],[.o (.o (.i .i64)),.o (.o (.i .i64))])],[],[]⟩
noncomputable def tL_markIntS (x0:SlV) (x1:Int):T :=
 .lp [.o (.o (.i .i64)),.o (.o (.i .i64))] [.v (.int .i64 (x1)),.v (.int .i64 ((0:Int)))] fun y1 =>
 .br (decide (y1.2.1<(↑x0.n:Int))) (
  .el (x0.a) (x0.n) (y1.2.1) fun y2 =>
  .st (y2.add (Int.toNat y1.2.1*(1:Nat))) [.int .i64 (y1.1)] <|
  .nx 0 [.v (.int .i64 (IntKind.i64.wrap (y1.1+(1:Int)))),.v (.int .i64 (IntKind.i64.wrap (y1.2.1+(1:Int))))]) <|
 .ret [.int .i64 (y1.1)]
theorem fL_markIntS (x0:SlV) (x1:Int):fits Tryz.prog aL_markIntS 46 [Sc.val .l (x0),.int .i64 (x1)] (tL_markIntS x0 x1) :=
 fitK (by kernel_rfl)
def aL_heldSigned:An:=⟨[],[],[]⟩
noncomputable def tL_heldSigned (x0:Bool × SlV × PUnit) (x1:Int):T :=
 .call false 48 [Sc.val .l (x0.2.1),.int .i64 (x1)] (.v (.o (.i .i64))) fun y1 =>
 .br (decide (y1<(0:Int))) (
  .ret [.int .i64 ((-1:Int))]) <|
 .ret [.int .i64 (y1)]
theorem fL_heldSigned (x0:Bool × SlV × PUnit) (x1:Int):fits Tryz.prog aL_heldSigned 47 [Sh1.val (.g [.b,.l]) (x0),.int .i64 (x1)] (tL_heldSigned x0 x1) :=
 fitK (by kernel_rfl)
def aL_heldIntS:An:=⟨[(2,[.s 1,.s 5],[.o (.o (.i .i64)),.o (.o (.i .i64))])],[],[]⟩
noncomputable def tL_heldIntS (x0:SlV) (x1:Int):T :=
 .lp [.o (.o (.i .i64)),.o (.o (.i .i64))] [.v (.int .i64 (x1)),.v (.int .i64 ((0:Int)))] fun y1 =>
 .br (decide (y1.2.1<(↑x0.n:Int))) (
  .el (x0.a) (x0.n) (y1.2.1) fun y2 =>
  .ld false (y2.add (Int.toNat y1.2.1*(1:Nat))) (.o (.i .i64)) fun y3 =>
  .br (y3 != y1.1) (
   .ret [.int .i64 ((-1:Int))]) <|
  .nx 0 [.v (.int .i64 (IntKind.i64.wrap (y1.1+(1:Int)))),.v (.int .i64 (IntKind.i64.wrap (y1.2.1+(1:Int))))]) <|
 .ret [.int .i64 (y1.1)]
theorem fL_heldIntS (x0:SlV) (x1:Int):fits Tryz.prog aL_heldIntS 48 [Sc.val .l (x0),.int .i64 (x1)] (tL_heldIntS x0 x1) :=
 fitK (by kernel_rfl)
def aS_RatZero:An:=⟨[],[],[]⟩
noncomputable def tS_RatZero :T :=
 .fz ((1:Nat)) [.int .i64 ((1:Int))] 3 fun b1 c1 =>
 .ret [Sh1.val (.g [.b,.l,.l]) ((false),nilS,(⟨(some { block:=b1,off:=(0:Nat):Addr }),((1:Nat)),(c1)⟩:SlV),())]
theorem fS_RatZero :fits Tryz.prog aS_RatZero 49 [] (tS_RatZero ) :=
 fitK (by kernel_rfl)
def aS_RatAdd:An:=⟨[],[],[]⟩
noncomputable def tS_RatAdd (x0:Bool × SlV × SlV × PUnit) (x1:Bool × SlV × SlV × PUnit):T :=
 .call false 79 [Sh1.val (.g [.b,.l,.l]) (x0)] (.v (.o (.b))) fun y1 =>
 .br (!y1) (
  .ret [Sh1.val (.g [.b,.l,.l]) ((false),nilS,nilS,()),.bool (false)]) <|
 .call false 79 [Sh1.val (.g [.b,.l,.l]) (x1)] (.v (.o (.b))) fun y2 =>
 .br (!y2) (
  .ret [Sh1.val (.g [.b,.l,.l]) ((false),nilS,nilS,()),.bool (false)]) <|
 .rg <|
 .call true 81 [Sc.val .l (x0.2.1),Sc.val .l (x1.2.2.1)] (.v (.o (.l))) fun y3 =>
 .call true 80 [.bool (x0.1),Sc.val .l (y3)] (.v (.g [.b,.l])) fun y4 =>
 .rg <|
 .call true 81 [Sc.val .l (x1.2.1),Sc.val .l (x0.2.2.1)] (.v (.o (.l))) fun y5 =>
 .call true 80 [.bool (x1.1),Sc.val .l (y5)] (.v (.g [.b,.l])) fun y6 =>
 .call false 82 [Sh1.val (.g [.b,.l]) (y4),Sh1.val (.g [.b,.l]) (y6)] (.v (.g [.b,.l])) fun y7 =>
 .rg <|
 .call true 81 [Sc.val .l (x0.2.2.1),Sc.val .l (x1.2.2.1)] (.v (.o (.l))) fun y8 =>
 .call true 83 [.bool (y7.1),Sc.val .l (y7.2.1),Sc.val .l (y8)] (.t [(.g [.b,.l,.l]),(.o (.b))]) fun y9 =>
 .ret [Sh1.val (.g [.b,.l,.l]) (y9.1),.bool (y9.2.1)]
theorem fS_RatAdd (x0:Bool × SlV × SlV × PUnit) (x1:Bool × SlV × SlV × PUnit):fits Tryz.prog aS_RatAdd 50 [Sh1.val (.g [.b,.l,.l]) (x0),Sh1.val (.g [.b,.l,.l]) (x1)] (tS_RatAdd x0 x1) :=
 fitK (by kernel_rfl)
def aI_convert:An:=⟨[(6,[.s 33,.c 12 0,.c 12 1,.c 12 2],[.o (.o (.i .i64)),.o (.o (.b)),.o (.o (.l)),.o (.o (.l))])],[],[]⟩
noncomputable def tI_convert (x0:ByteArray × SlV × PUnit) (x1:SlV) (x2:ByteArray) (x3:Int):T :=
 .call false 84 [Sh1.val (.g [.s,.l]) (x0),Sc.val .l (x1),.string (x2),.int .i64 (x3)] (.v (.o (.e))) fun y1 =>
 .spl (y1) (
  .br (!true) (
   .ret [Sh1.val (.g [.s,.b,.l]) (({ data:={ toList:=[]:Array UInt8 }:ByteArray }),(false),nilS,()),Sh1.val (.g [.b,.l,.l]) ((false),nilS,nilS,()),.nilIface]) <|
  .call false 85 [] (.v (.g [.b,.l,.l])) fun y2 =>
  .lp [.o (.o (.i .i64)),.o (.o (.b)),.o (.o (.l)),.o (.o (.l))] [.v (.int .i64 ((0:Int))),.v (.bool (y2.1)),.v (Sc.val .l (y2.2.1)),.v (Sc.val .l (y2.2.2.1))] fun y3 =>
  .br (decide (y3.1<(↑x1.n:Int))) (
   .el (x1.a) (x1.n) (y3.1) fun y4 =>
   .ld false (y4.add (Int.toNat y3.1*(3:Nat))) (.g [.s,.b,.l]) fun y5 =>
   .call false 86 [Sh1.val (.g [.s,.l]) (x0),Sh1.val (.g [.s,.b,.l]) (y5),.string (x2)] (.t [(.g [.b,.l,.l]),(.o (.b))]) fun y6 =>
   .br (y6.2.1) (
    .call false 87 [Sh1.val (.g [.b,.l,.l]) (y3.2),Sh1.val (.g [.b,.l,.l]) (y6.1)] (.t [(.g [.b,.l,.l]),(.o (.b))]) fun y7 =>
    .br (!y7.2.1) (
     .ret [Sh1.val (.g [.s,.b,.l]) (({ data:={ toList:=[]:Array UInt8 }:ByteArray }),(false),nilS,()),Sh1.val (.g [.b,.l,.l]) ((false),nilS,nilS,()),.iface 142 (Sh1.val (.g [.i .i64]) ((((3:Int)):Int),()))]) <|
    .nx 0 [.v (.int .i64 (IntKind.i64.wrap (y3.1+(1:Int)))),.v (.bool (y7.1.1)),.v (Sc.val .l (y7.1.2.1)),.v (Sc.val .l (y7.1.2.2.1))]) <|
   .br (!y6.2.1) (
    .ret [Sh1.val (.g [.s,.b,.l]) (({ data:={ toList:=[]:Array UInt8 }:ByteArray }),(false),nilS,()),Sh1.val (.g [.b,.l,.l]) ((false),nilS,nilS,()),.iface 142 (Sh1.val (.g [.i .i64]) ((((3:Int)):Int),()))]) <|
   .nx 0 [.v (.int .i64 (IntKind.i64.wrap (y3.1+(1:Int)))),.v (.bool (y3.2.1)),.v (Sc.val .l (y3.2.2.1)),.v (Sc.val .l (y3.2.2.2.1))]) <|
  .call false 88 [.string (x2),Sh1.val (.g [.b,.l,.l]) (y3.2),.int .i64 (x3)] (.t [(.g [.s,.b,.l]),(.g [.b,.l,.l]),(.o (.b))]) fun y4 =>
  .br (!y4.2.2.1) (
   .ret [Sh1.val (.g [.s,.b,.l]) (({ data:={ toList:=[]:Array UInt8 }:ByteArray }),(false),nilS,()),Sh1.val (.g [.b,.l,.l]) ((false),nilS,nilS,()),.iface 142 (Sh1.val (.g [.i .i64]) ((((3:Int)):Int),()))]) <|
  .rg <|
  .ret [Sh1.val (.g [.s,.b,.l]) (y4.1),Sh1.val (.g [.b,.l,.l]) (y4.2.1),.nilIface]) fun y2 =>
 .br (!false) (
  .ret [Sh1.val (.g [.s,.b,.l]) (({ data:={ toList:=[]:Array UInt8 }:ByteArray }),(false),nilS,()),Sh1.val (.g [.b,.l,.l]) ((false),nilS,nilS,()),.iface (y2.1) (Sh1.val (.g [.i .i64]) (((y2.2):Int),()))]) <|
 .call false 85 [] (.v (.g [.b,.l,.l])) fun y3 =>
 .lp [.o (.o (.i .i64)),.o (.o (.b)),.o (.o (.l)),.o (.o (.l))] [.v (.int .i64 ((0:Int))),.v (.bool (y3.1)),.v (Sc.val .l (y3.2.1)),.v (Sc.val .l (y3.2.2.1))] fun y4 =>
 .br (decide (y4.1<(↑x1.n:Int))) (
  .el (x1.a) (x1.n) (y4.1) fun y5 =>
  .ld false (y5.add (Int.toNat y4.1*(3:Nat))) (.g [.s,.b,.l]) fun y6 =>
  .call false 86 [Sh1.val (.g [.s,.l]) (x0),Sh1.val (.g [.s,.b,.l]) (y6),.string (x2)] (.t [(.g [.b,.l,.l]),(.o (.b))]) fun y7 =>
  .br (y7.2.1) (
   .call false 87 [Sh1.val (.g [.b,.l,.l]) (y4.2),Sh1.val (.g [.b,.l,.l]) (y7.1)] (.t [(.g [.b,.l,.l]),(.o (.b))]) fun y8 =>
   .br (!y8.2.1) (
    .ret [Sh1.val (.g [.s,.b,.l]) (({ data:={ toList:=[]:Array UInt8 }:ByteArray }),(false),nilS,()),Sh1.val (.g [.b,.l,.l]) ((false),nilS,nilS,()),.iface 142 (Sh1.val (.g [.i .i64]) ((((3:Int)):Int),()))]) <|
   .nx 0 [.v (.int .i64 (IntKind.i64.wrap (y4.1+(1:Int)))),.v (.bool (y8.1.1)),.v (Sc.val .l (y8.1.2.1)),.v (Sc.val .l (y8.1.2.2.1))]) <|
  .br (!y7.2.1) (
   .ret [Sh1.val (.g [.s,.b,.l]) (({ data:={ toList:=[]:Array UInt8 }:ByteArray }),(false),nilS,()),Sh1.val (.g [.b,.l,.l]) ((false),nilS,nilS,()),.iface 142 (Sh1.val (.g [.i .i64]) ((((3:Int)):Int),()))]) <|
  .nx 0 [.v (.int .i64 (IntKind.i64.wrap (y4.1+(1:Int)))),.v (.bool (y4.2.1)),.v (Sc.val .l (y4.2.2.1)),.v (Sc.val .l (y4.2.2.2.1))]) <|
 .call false 88 [.string (x2),Sh1.val (.g [.b,.l,.l]) (y4.2),.int .i64 (x3)] (.t [(.g [.s,.b,.l]),(.g [.b,.l,.l]),(.o (.b))]) fun y5 =>
 .br (!y5.2.2.1) (
  .ret [Sh1.val (.g [.s,.b,.l]) (({ data:={ toList:=[]:Array UInt8 }:ByteArray }),(false),nilS,()),Sh1.val (.g [.b,.l,.l]) ((false),nilS,nilS,()),.iface 142 (Sh1.val (.g [.i .i64]) ((((3:Int)):Int),()))]) <|
 .rg <|
 .ret [Sh1.val (.g [.s,.b,.l]) (y5.1),Sh1.val (.g [.b,.l,.l]) (y5.2.1),.nilIface]
theorem fI_convert (x0:ByteArray × SlV × PUnit) (x1:SlV) (x2:ByteArray) (x3:Int):fits Tryz.prog aI_convert 51 [Sh1.val (.g [.s,.l]) (x0),Sc.val .l (x1),.string (x2),.int .i64 (x3)] (tI_convert x0 x1 x2 x3) :=
 fitK (by kernel_rfl)
def aI_codeOf:An:=⟨[],[],[]⟩
noncomputable def tI_codeOf (x0:Option (Nat × Int)):T :=
 .es [.int .i64 ((0:Int))] 142 fun b1 =>
 .call false 89 ([]++[(Sh1.o Sc.e).val x0,Value.iface (144:Nat) (Value.pointer (some { block:=b1,off:=(0:Nat):Addr }))]++[]) (.v (.o (.b))) fun y2 =>
 .br (y2) (
  .ld false ({ block:=b1,off:=(0:Nat):Addr }.add (0:Nat)) (.o (.i .i64)) fun y3 =>
  .ret [.int .i64 (y3)]) <|
 .ret [.int .i64 ((0:Int))]
theorem fI_codeOf (x0:Option (Nat × Int)):fits Tryz.prog aI_codeOf 52 ([(Sh1.o Sc.e).val x0]) (tI_codeOf x0) :=
 fitK (by kernel_rfl)
def aL_markText:An:=⟨[(4,[.s 0,.s 3],[.o (.o (.i .i64)),.o (.o (.s))])],[],[]⟩
noncomputable def tL_markText (x0:Int):T :=
 .br (decide (x0≤(0:Int))) (
  .ret [.string ({ data:={ toList:=[(109:UInt8),(48:UInt8)]:Array UInt8 }:ByteArray })]) <|
 .lp [.o (.o (.i .i64)),.o (.o (.s))] [.v (.int .i64 (x0)),.v (.string ({ data:={ toList:=[]:Array UInt8 }:ByteArray }))] fun y1 =>
 .br (decide (y1.1 > (0:Int))) (
  .rq ((10:Int)≠(0:Int)) <|
  .fz ((1:Nat)) [.int .u8 (IntKind.u8.wrap (IntKind.i64.wrap ((48:Int)+Int.tmod y1.1 (10:Int))))] 5 fun b2 c2 =>
  .rd ({ a:=some { block:=b2,off:=(0:Nat):Addr },n:=(1:Nat),c:=c2:SlV }) ((1:Nat)) fun y3 =>
  .rq (bytesOf y3≠none) <|
  .rq ((bytesD y3).size+ByteArray.size y1.2.1≤(9223372036854775807:Nat)) <|
  .rq ((10:Int)≠(0:Int)) <|
  .nx 0 [.v (.int .i64 (IntKind.i64.wrap (Int.tdiv y1.1 (10:Int)))),.v (.string (bytesD y3++y1.2.1))]) <|
 .rq ({ data:={ toList:=[(109:UInt8)]:Array UInt8 }:ByteArray }.size+ByteArray.size y1.2.1≤(9223372036854775807:Nat)) <|
 .ret [.string ({ data:={ toList:=[(109:UInt8)]:Array UInt8 }:ByteArray }++y1.2.1)]
theorem fL_markText (x0:Int):fits Tryz.prog aL_markText 53 [.int .i64 (x0)] (tL_markText x0) :=
 fitK (by kernel_rfl)
def aL_szBook:An:=⟨[],[],[]⟩
noncomputable def tL_szBook (x0:SlV × PUnit) (x1:Int):T :=
 .call false 90 [Sc.val .l (x0.1),.int .i64 (x1)] (.v (.o (.i .i64))) fun y1 =>
 .br (decide (y1<(0:Int))) (
  .ret [.int .i64 ((-1:Int))]) <|
 .ret [.int .i64 (y1)]
theorem fL_szBook (x0:SlV × PUnit) (x1:Int):fits Tryz.prog aL_szBook 54 [Sh1.val (.g [.l]) (x0),.int .i64 (x1)] (tL_szBook x0 x1) :=
 fitK (by kernel_rfl)
def aL_szRestS:An:=⟨[(5,[.s 1,.s 5],[.o (.o (.i .i64)),.o (.o (.i .i64))])],[],[]⟩
noncomputable def tL_szRestS (x0:SlV) (x1:Int):T :=
 .br (decide (IntKind.i64.wrap (x1-(↑x0.n:Int))<(0:Int))) (
  .ret [.int .i64 ((-1:Int))]) <|
 .lp [.o (.o (.i .i64)),.o (.o (.i .i64))] [.v (.int .i64 (IntKind.i64.wrap (x1-(↑x0.n:Int)))),.v (.int .i64 ((0:Int)))] fun y1 =>
 .br (decide (y1.2.1<(↑x0.n:Int))) (
  .el (x0.a) (x0.n) (y1.2.1) fun y2 =>
  .ld false (y2.add (Int.toNat y1.2.1*(4:Nat))) (.g [.s,.b,.l,.l]) fun y3 =>
  .call false 91 [Sh1.val (.g [.s,.b,.l,.l]) (y3),.int .i64 (y1.1)] (.v (.o (.i .i64))) fun y4 =>
  .br (decide (y4<(0:Int))) (
   .ret [.int .i64 ((-1:Int))]) <|
  .nx 0 [.v (.int .i64 (y4)),.v (.int .i64 (IntKind.i64.wrap (y1.2.1+(1:Int))))]) <|
 .ret [.int .i64 (y1.1)]
theorem fL_szRestS (x0:SlV) (x1:Int):fits Tryz.prog aL_szRestS 55 [Sc.val .l (x0),.int .i64 (x1)] (tL_szRestS x0 x1) :=
 fitK (by kernel_rfl)
def aS_LedgerOk:An:=⟨[],[],[]⟩
noncomputable def tS_LedgerOk (x0:SlV × SlV × ByteArray × SlV × PUnit):T :=
 .call false 92 [Sh1.val (.g [.l]) (x0.1,())] (.v (.o (.b))) fun y1 =>
 .br (y1) (
  .call false 93 [Sc.val .l (x0.2.1)] (.v (.o (.b))) fun y2 =>
  .br (y2) (
   .call false 68 [Sh1.val (.g [.s,.l]) (x0.2.2)] (.v (.o (.b))) fun y3 =>
   .ret [.bool (y3)]) <|
  .ret [.bool (false)]) <|
 .ret [.bool (false)]
theorem fS_LedgerOk (x0:SlV × SlV × ByteArray × SlV × PUnit):fits Tryz.prog aS_LedgerOk 56 [Sh1.val (.g [.l,.l,.s,.l]) (x0)] (tS_LedgerOk x0) :=
 fitK (by kernel_rfl)
def aL_toBook:An:=⟨[],[],[]⟩
noncomputable def tL_toBook (x0:SlV × PUnit):T :=
 .call false 94 [Sc.val .l (x0.1)] (.v (.o (.l))) fun y1 =>
 .ret [Sh1.val (.g [.l]) (y1,())]
theorem fL_toBook (x0:SlV × PUnit):fits Tryz.prog aL_toBook 57 [Sh1.val (.g [.l]) (x0)] (tL_toBook x0) :=
 fitK (by kernel_rfl)
def aL_toRestS:An:=⟨[(3,[.s 3,.s 4],[.a 156,.o (.o (.i .i64))])],[],[]⟩
noncomputable def tL_toRestS (x0:SlV):T :=
 .rq ((0:Int)≤(↑x0.n:Int)∧(↑x0.n:Int)≤(↑x0.n:Int)∧(↑(72:Nat):Int)*(↑x0.n:Int)≤(281474976710656:Int)∧(↑x0.n:Int)≤(9223372036854775807:Int)) <|
 .lp [.a 156,.o (.o (.i .i64))] [.a 156 ((↑x0.n:Int).toNat) ((madeCells { toList:=[Value.string { data:={ toList:=[]:Array UInt8 }:ByteArray },Value.bool false,Value.slice none (0:Nat) (0:Nat),Value.slice none (0:Nat) (0:Nat)]:Array Value } ((↑x0.n:Int).toNat*(4:Nat))).toList),.v (.int .i64 ((0:Int)))] fun y1 =>
 .br (decide (y1.2.1<(↑x0.n:Int))) (
  .el (x0.a) (x0.n) (y1.2.1) fun y2 =>
  .ld false (y2.add (Int.toNat y1.2.1*(4:Nat))) (.g [.s,.b,.l,.l]) fun y3 =>
  .call false 95 [Sh1.val (.g [.s,.b,.l,.l]) (y3)] (.v (.g [.s,.b,.l,.l])) fun y4 =>
  .rq ((0:Int)≤y1.2.1∧y1.2.1<(↑y1.1.1:Int)) <|
  .rq (Int.toNat y1.2.1*(4:Nat)+[Value.string y4.1,Value.bool y4.2.1,Value.slice y4.2.2.1.a y4.2.2.1.n y4.2.2.1.c,Value.slice y4.2.2.2.1.a y4.2.2.2.1.n y4.2.2.2.1.c].length≤y1.1.2.length) <|
  .nx 0 [.a 156 (y1.1.1) (setl y1.1.2 (Int.toNat y1.2.1*(4:Nat)) [Value.string y4.1,Value.bool y4.2.1,Value.slice y4.2.2.1.a y4.2.2.1.n y4.2.2.1.c,Value.slice y4.2.2.2.1.a y4.2.2.2.1.n y4.2.2.2.1.c]),.v (.int .i64 (IntKind.i64.wrap (y1.2.1+(1:Int))))]) <|
 .fz (y1.1.1) (y1.1.2) 156 fun b2 c2 =>
 .ret [.slice (some { block:=b2,off:=(0:Nat):Addr }) (y1.1.1) (c2)]
theorem fL_toRestS (x0:SlV):fits Tryz.prog aL_toRestS 58 [Sc.val .l (x0)] (tL_toRestS x0) :=
 fitK (by kernel_rfl)
def aI_LedgerOk:An:=⟨[],[],[]⟩
noncomputable def tI_LedgerOk (x0:SlV × SlV × ByteArray × SlV × PUnit):T :=
 .call false 96 [Sh1.val (.g [.l]) (x0.1,())] (.v (.o (.b))) fun y1 =>
 .br (y1) (
  .call false 97 [Sc.val .l (x0.2.1)] (.v (.o (.b))) fun y2 =>
  .br (y2) (
   .call false 98 [Sh1.val (.g [.s,.l]) (x0.2.2)] (.v (.o (.b))) fun y3 =>
   .ret [.bool (y3)]) <|
  .ret [.bool (false)]) <|
 .ret [.bool (false)]
theorem fI_LedgerOk (x0:SlV × SlV × ByteArray × SlV × PUnit):fits Tryz.prog aI_LedgerOk 59 [Sh1.val (.g [.l,.l,.s,.l]) (x0)] (tI_LedgerOk x0) :=
 fitK (by kernel_rfl)
def aL_eqBook:An:=⟨[],[],[]⟩
noncomputable def tL_eqBook (x0:SlV × PUnit) (x1:SlV × PUnit):T :=
 .call false 99 [Sc.val .l (x0.1),Sc.val .l (x1.1)] (.v (.o (.b))) fun y1 =>
 .br (!y1) (
  .ret [.bool (false)]) <|
 .ret [.bool (true)]
theorem fL_eqBook (x0:SlV × PUnit) (x1:SlV × PUnit):fits Tryz.prog aL_eqBook 60 [Sh1.val (.g [.l]) (x0),Sh1.val (.g [.l]) (x1)] (tL_eqBook x0 x1) :=
 fitK (by kernel_rfl)
def aL_eqRestS:An:=⟨[(4,[.s 5],[.o (.o (.i .i64))])],[],[]⟩
noncomputable def tL_eqRestS (x0:SlV) (x1:SlV):T :=
 .br ((↑x0.n:Int) != (↑x1.n:Int)) (
  .ret [.bool (false)]) <|
 .lp [.o (.o (.i .i64))] [.v (.int .i64 ((0:Int)))] fun y1 =>
 .br (decide (y1.1<(↑x0.n:Int))) (
  .rg <|
  .el (x0.a) (x0.n) (y1.1) fun y2 =>
  .ld true (y2.add (Int.toNat y1.1*(4:Nat))) (.g [.s,.b,.l,.l]) fun y3 =>
  .el (x1.a) (x1.n) (y1.1) fun y4 =>
  .ld true (y4.add (Int.toNat y1.1*(4:Nat))) (.g [.s,.b,.l,.l]) fun y5 =>
  .call true 100 [Sh1.val (.g [.s,.b,.l,.l]) (y3),Sh1.val (.g [.s,.b,.l,.l]) (y5)] (.v (.o (.b))) fun y6 =>
  .br (!y6) (
   .ret [.bool (false)]) <|
  .nx 0 [.v (.int .i64 (IntKind.i64.wrap (y1.1+(1:Int))))]) <|
 .ret [.bool (true)]
theorem fL_eqRestS (x0:SlV) (x1:SlV):fits Tryz.prog aL_eqRestS 61 [Sc.val .l (x0),Sc.val .l (x1)] (tL_eqRestS x0 x1) :=
 fitK (by kernel_rfl)
def aL_markBook:An:=⟨[],[],[]⟩
noncomputable def tL_markBook (x0:SlV × PUnit) (x1:Int):T :=
 .call false 101 [Sc.val .l (x0.1),.int .i64 (x1)] (.v (.o (.i .i64))) fun y1 =>
 .ret [.int .i64 (y1)]
theorem fL_markBook (x0:SlV × PUnit) (x1:Int):fits Tryz.prog aL_markBook 62 [Sh1.val (.g [.l]) (x0),.int .i64 (x1)] (tL_markBook x0 x1) :=
 fitK (by kernel_rfl)
def aL_markRestS:An:=⟨[(2,[.s 1,.s 5],[.o (.o (.i .i64)),.o (.o (.i .i64))])],[],[]⟩
noncomputable def tL_markRestS (x0:SlV) (x1:Int):T :=
 .lp [.o (.o (.i .i64)),.o (.o (.i .i64))] [.v (.int .i64 (x1)),.v (.int .i64 ((0:Int)))] fun y1 =>
 .br (decide (y1.2.1<(↑x0.n:Int))) (
  .call false 53 [.int .i64 (y1.1)] (.v (.o (.s))) fun y2 =>
  .el (x0.a) (x0.n) (y1.2.1) fun y3 =>
  .st ((y3.add (Int.toNat y1.2.1*(4:Nat))).add (0:Nat)) [.string (y2)] <|
  .rq ((3:Int)≠(0:Int)) <|
  .el (x0.a) (x0.n) (y1.2.1) fun y4 =>
  .st ((((y4.add (Int.toNat y1.2.1*(4:Nat))).add (1:Nat)).add (0:Nat)).add (0:Nat)) [.bool ((IntKind.i64.wrap (y1.1+(1:Int))).tmod (3:Int) == (0:Int))] <|
  .el (x0.a) (x0.n) (y1.2.1) fun y5 =>
  .ld false ((((y5.add (Int.toNat y1.2.1*(4:Nat))).add (1:Nat)).add (0:Nat)).add (1:Nat)) (.o (.l)) fun y6 =>
  .call false 46 [Sc.val .l (y6),.int .i64 (IntKind.i64.wrap (IntKind.i64.wrap (y1.1+(1:Int))+(1:Int)))] (.v (.o (.i .i64))) fun y7 =>
  .el (x0.a) (x0.n) (y1.2.1) fun y8 =>
  .ld false (((y8.add (Int.toNat y1.2.1*(4:Nat))).add (1:Nat)).add (2:Nat)) (.o (.l)) fun y9 =>
  .call false 46 [Sc.val .l (y9),.int .i64 (y7)] (.v (.o (.i .i64))) fun y10 =>
  .nx 0 [.v (.int .i64 (y10)),.v (.int .i64 (IntKind.i64.wrap (y1.2.1+(1:Int))))]) <|
 .ret [.int .i64 (y1.1)]
theorem fL_markRestS (x0:SlV) (x1:Int):fits Tryz.prog aL_markRestS 63 [Sc.val .l (x0),.int .i64 (x1)] (tL_markRestS x0 x1) :=
 fitK (by kernel_rfl)
def aL_szRate:An:=⟨[],[],[]⟩
noncomputable def tL_szRate (x0:ByteArray × ByteArray × Bool × SlV × Int × PUnit) (x1:Int):T :=
 .br (decide (IntKind.i64.wrap (x1-(↑(ByteArray.size x0.1):Int))<(0:Int))) (
  .ret [.int .i64 ((-1:Int))]) <|
 .br (decide (IntKind.i64.wrap (IntKind.i64.wrap (x1-(↑(ByteArray.size x0.1):Int))-(↑(ByteArray.size x0.2.1):Int))<(0:Int))) (
  .ret [.int .i64 ((-1:Int))]) <|
 .call false 102 [Sh1.val (.g [.b,.l,.i .i64]) (x0.2.2),.int .i64 (IntKind.i64.wrap (IntKind.i64.wrap (x1-(↑(ByteArray.size x0.1):Int))-(↑(ByteArray.size x0.2.1):Int)))] (.v (.o (.i .i64))) fun y1 =>
 .br (decide (y1<(0:Int))) (
  .ret [.int .i64 ((-1:Int))]) <|
 .ret [.int .i64 (y1)]
theorem fL_szRate (x0:ByteArray × ByteArray × Bool × SlV × Int × PUnit) (x1:Int):fits Tryz.prog aL_szRate 64 [Sh1.val (.g [.s,.s,.b,.l,.i .i64]) (x0),.int .i64 (x1)] (tL_szRate x0 x1) :=
 fitK (by kernel_rfl)
def aL_szIntS:An:=⟨[],[],[]⟩
noncomputable def tL_szIntS (x0:SlV) (x1:Int):T :=
 .br (decide (IntKind.i64.wrap (x1-(↑x0.n:Int))<(0:Int))) (
  .ret [.int .i64 ((-1:Int))]) <|
 .ret [.int .i64 (IntKind.i64.wrap (x1-(↑x0.n:Int)))]
theorem fL_szIntS (x0:SlV) (x1:Int):fits Tryz.prog aL_szIntS 65 [Sc.val .l (x0),.int .i64 (x1)] (tL_szIntS x0 x1) :=
 fitK (by kernel_rfl)
def aS_CurKnown:An:=⟨[],[],[]⟩
noncomputable def tS_CurKnown (x0:ByteArray):T :=
 .call false 103 [.string (x0)] (.v (.g [.s,.s,.i .i64,.i .i64])) fun y1 =>
 .ret [.bool (!ByteArray.toList y1.1 == { data:={ toList:=[]:Array UInt8 }:ByteArray }.toList)]
theorem fS_CurKnown (x0:ByteArray):fits Tryz.prog aS_CurKnown 66 [.string (x0)] (tS_CurKnown x0) :=
 fitK (by kernel_rfl)
def aS_IntOk:An:=⟨[],[],[]⟩
noncomputable def tS_IntOk (x0:Bool × SlV × PUnit):T :=
 .call false 104 [Sc.val .l (x0.2.1)] (.v (.o (.b))) fun y1 =>
 .br (y1) (
  .br (!x0.1) (
   .ret [.bool (true)]) <|
  .ret [.bool (decide ((↑x0.2.1.n:Int) > (0:Int)))]) <|
 .ret [.bool (false)]
theorem fS_IntOk (x0:Bool × SlV × PUnit):fits Tryz.prog aS_IntOk 67 [Sh1.val (.g [.b,.l]) (x0)] (tS_IntOk x0) :=
 fitK (by kernel_rfl)
def aS_RatesOk:An:=⟨[(4,[.s 18],[.o (.o (.i .i64))])],[],[]⟩
noncomputable def tS_RatesOk (x0:ByteArray × SlV × PUnit):T :=
 .call false 66 [.string (x0.1)] (.v (.o (.b))) fun y1 =>
 .br (!y1) (
  .ret [.bool (false)]) <|
 .br (decide ((↑x0.2.1.n:Int) > (12:Int))) (
  .ret [.bool (false)]) <|
 .lp [.o (.o (.i .i64))] [.v (.int .i64 ((0:Int)))] fun y2 =>
 .br (decide (y2.1<(↑x0.2.1.n:Int))) (
  .el (x0.2.1.a) (x0.2.1.n) (y2.1) fun y3 =>
  .ld false (y3.add (Int.toNat y2.1*(5:Nat))) (.g [.s,.s,.b,.l,.i .i64]) fun y4 =>
  .call false 105 [Sh1.val (.g [.s,.s,.b,.l,.i .i64]) (y4)] (.v (.o (.b))) fun y5 =>
  .br (!y5) (
   .ret [.bool (false)]) <|
  .call false 106 [Sc.val .l (x0.2.1),.string (y4.1),.string (y4.2.1)] (.v (.o (.i .i64))) fun y6 =>
  .br (y6 != y2.1) (
   .ret [.bool (false)]) <|
  .nx 0 [.v (.int .i64 (IntKind.i64.wrap (y2.1+(1:Int))))]) <|
 .ret [.bool (true)]
theorem fS_RatesOk (x0:ByteArray × SlV × PUnit):fits Tryz.prog aS_RatesOk 68 [Sh1.val (.g [.s,.l]) (x0)] (tS_RatesOk x0) :=
 fitK (by kernel_rfl)
def aS_l06Mode:An:=⟨[],[],[]⟩
noncomputable def tS_l06Mode (x0:Int):T :=
 .call false 107 [.int .i64 (x0),.int .i64 ((0:Int)),.int .i64 ((6:Int))] (.v (.o (.b))) fun y1 =>
 .ret [.bool (y1)]
theorem fS_l06Mode (x0:Int):fits Tryz.prog aS_l06Mode 69 [.int .i64 (x0)] (tS_l06Mode x0) :=
 fitK (by kernel_rfl)
def aS_l10Leg:An:=⟨[],[],[]⟩
noncomputable def tS_l10Leg (x0:ByteArray × SlV × PUnit) (x1:ByteArray) (x2:ByteArray):T :=
 .call false 106 [Sc.val .l (x0.2.1),.string (x1),.string (x2)] (.v (.o (.i .i64))) fun y1 =>
 .br (decide (y1≥(0:Int))) (
  .ret [.int .i64 ((2:Int))]) <|
 .call false 106 [Sc.val .l (x0.2.1),.string (x2),.string (x1)] (.v (.o (.i .i64))) fun y2 =>
 .br (decide (y2≥(0:Int))) (
  .ret [.int .i64 ((3:Int))]) <|
 .ret [.int .i64 ((0:Int))]
theorem fS_l10Leg (x0:ByteArray × SlV × PUnit) (x1:ByteArray) (x2:ByteArray):fits Tryz.prog aS_l10Leg 70 [Sh1.val (.g [.s,.l]) (x0),.string (x1),.string (x2)] (tS_l10Leg x0 x1 x2) :=
 fitK (by kernel_rfl)
def aS_UnitRate:An:=⟨[],[],[]⟩
noncomputable def tS_UnitRate (x0:ByteArray × SlV × PUnit) (x1:ByteArray) (x2:ByteArray):T :=
 .call false 108 [Sh1.val (.g [.s,.l]) (x0),.string (x1),.string (x2)] (.t [(.g [.b,.l,.l]),(.o (.b))]) fun y1 =>
 .br (!y1.2.1) (
  .ret [Sh1.val (.g [.b,.l,.l]) ((false),nilS,nilS,()),.bool (false)]) <|
 .call false 110 [.string (x2)] (.v (.g [.b,.l,.l])) fun y2 =>
 .call false 110 [.string (x1)] (.v (.g [.b,.l,.l])) fun y3 =>
 .call false 109 [Sh1.val (.g [.b,.l,.l]) (y2),Sh1.val (.g [.b,.l,.l]) (y3)] (.t [(.g [.b,.l,.l]),(.o (.b))]) fun y4 =>
 .call false 72 [Sh1.val (.g [.b,.l,.l]) (y1.1),Sh1.val (.g [.b,.l,.l]) (y4.1)] (.t [(.g [.b,.l,.l]),(.o (.b))]) fun y5 =>
 .ret [Sh1.val (.g [.b,.l,.l]) (y5.1),.bool (y5.2.1)]
theorem fS_UnitRate (x0:ByteArray × SlV × PUnit) (x1:ByteArray) (x2:ByteArray):fits Tryz.prog aS_UnitRate 71 [Sh1.val (.g [.s,.l]) (x0),.string (x1),.string (x2)] (tS_UnitRate x0 x1 x2) :=
 fitK (by kernel_rfl)
def aS_RatMul:An:=⟨[],[],[]⟩
noncomputable def tS_RatMul (x0:Bool × SlV × SlV × PUnit) (x1:Bool × SlV × SlV × PUnit):T :=
 .call false 79 [Sh1.val (.g [.b,.l,.l]) (x0)] (.v (.o (.b))) fun y1 =>
 .br (!y1) (
  .ret [Sh1.val (.g [.b,.l,.l]) ((false),nilS,nilS,()),.bool (false)]) <|
 .call false 79 [Sh1.val (.g [.b,.l,.l]) (x1)] (.v (.o (.b))) fun y2 =>
 .br (!y2) (
  .ret [Sh1.val (.g [.b,.l,.l]) ((false),nilS,nilS,()),.bool (false)]) <|
 .rg <|
 .call true 81 [Sc.val .l (x0.2.1),Sc.val .l (x1.2.1)] (.v (.o (.l))) fun y3 =>
 .call true 81 [Sc.val .l (x0.2.2.1),Sc.val .l (x1.2.2.1)] (.v (.o (.l))) fun y4 =>
 .call true 83 [.bool (!x0.1 == x1.1),Sc.val .l (y3),Sc.val .l (y4)] (.t [(.g [.b,.l,.l]),(.o (.b))]) fun y5 =>
 .ret [Sh1.val (.g [.b,.l,.l]) (y5.1),.bool (y5.2.1)]
theorem fS_RatMul (x0:Bool × SlV × SlV × PUnit) (x1:Bool × SlV × SlV × PUnit):fits Tryz.prog aS_RatMul 72 [Sh1.val (.g [.b,.l,.l]) (x0),Sh1.val (.g [.b,.l,.l]) (x1)] (tS_RatMul x0 x1) :=
 fitK (by kernel_rfl)
def aS_MoneyRat:An:=⟨[],[],[]⟩
noncomputable def tS_MoneyRat (x0:ByteArray × Bool × SlV × PUnit):T :=
 .call false 34 [Sh1.val (.g [.s,.b,.l]) (x0)] (.v (.o (.b))) fun y1 =>
 .br (!y1) (
  .ret [Sh1.val (.g [.b,.l,.l]) ((false),nilS,nilS,())]) <|
 .call false 111 [Sh1.val (.g [.b,.l]) (x0.2)] (.t [(.g [.b,.l,.l]),(.o (.b))]) fun y2 =>
 .ret [Sh1.val (.g [.b,.l,.l]) (y2.1)]
theorem fS_MoneyRat (x0:ByteArray × Bool × SlV × PUnit):fits Tryz.prog aS_MoneyRat 73 [Sh1.val (.g [.s,.b,.l]) (x0)] (tS_MoneyRat x0) :=
 fitK (by kernel_rfl)
def aS_RatRest:An:=⟨[],[],[]⟩
noncomputable def tS_RatRest (x0:Bool × SlV × SlV × PUnit) (x1:Int):T :=
 .call false 112 [Sh1.val (.g [.b,.l,.l]) (x0),.int .i64 (x1)] (.t [(.g [.b,.l]),(.o (.b))]) fun y1 =>
 .call false 111 [Sh1.val (.g [.b,.l]) (y1.1)] (.t [(.g [.b,.l,.l]),(.o (.b))]) fun y2 =>
 .call false 113 [Sh1.val (.g [.b,.l,.l]) (x0),Sh1.val (.g [.b,.l,.l]) (y2.1)] (.t [(.g [.b,.l,.l]),(.o (.b))]) fun y3 =>
 .br (!y1.2.1) (
  .ret [Sh1.val (.g [.b,.l]) ((false),nilS,()),Sh1.val (.g [.b,.l,.l]) ((false),nilS,nilS,()),.bool (false)]) <|
 .br (!y2.2.1) (
  .ret [Sh1.val (.g [.b,.l]) ((false),nilS,()),Sh1.val (.g [.b,.l,.l]) ((false),nilS,nilS,()),.bool (false)]) <|
 .br (!y3.2.1) (
  .ret [Sh1.val (.g [.b,.l]) ((false),nilS,()),Sh1.val (.g [.b,.l,.l]) ((false),nilS,nilS,()),.bool (false)]) <|
 .rg <|
 .ret [Sh1.val (.g [.b,.l]) (y1.1),Sh1.val (.g [.b,.l,.l]) (y3.1),.bool (true)]
theorem fS_RatRest (x0:Bool × SlV × SlV × PUnit) (x1:Int):fits Tryz.prog aS_RatRest 74 [Sh1.val (.g [.b,.l,.l]) (x0),.int .i64 (x1)] (tS_RatRest x0 x1) :=
 fitK (by kernel_rfl)
def aS_l09Make:An:=⟨[],[],[]⟩
noncomputable def tS_l09Make (x0:ByteArray) (x1:Bool × SlV × PUnit):T :=
 .call false 34 [Sh1.val (.g [.s,.b,.l]) ((x0),(x1.1),x1.2.1,())] (.v (.o (.b))) fun y1 =>
 .br (!y1) (
  .ret [Sh1.val (.g [.s,.b,.l]) (({ data:={ toList:=[]:Array UInt8 }:ByteArray }),(false),nilS,()),.bool (false)]) <|
 .ret [Sh1.val (.g [.s,.b,.l]) ((x0),(x1.1),x1.2.1,()),.bool (true)]
theorem fS_l09Make (x0:ByteArray) (x1:Bool × SlV × PUnit):fits Tryz.prog aS_l09Make 75 [.string (x0),Sh1.val (.g [.b,.l]) (x1)] (tS_l09Make x0 x1) :=
 fitK (by kernel_rfl)
def aL_toRate:An:=⟨[],[],[]⟩
noncomputable def tL_toRate (x0:ByteArray × ByteArray × Bool × SlV × Int × PUnit):T :=
 .call false 114 [Sh1.val (.g [.b,.l,.i .i64]) (x0.2.2)] (.v (.g [.b,.l,.i .i64])) fun y1 =>
 .ret [Sh1.val (.g [.s,.s,.b,.l,.i .i64]) ((x0.1),(x0.2.1),(y1.1),y1.2.1,((y1.2.2.1):Int),())]
theorem fL_toRate (x0:ByteArray × ByteArray × Bool × SlV × Int × PUnit):fits Tryz.prog aL_toRate 76 [Sh1.val (.g [.s,.s,.b,.l,.i .i64]) (x0)] (tL_toRate x0) :=
 fitK (by kernel_rfl)
def aL_toIntS:An:=⟨[(3,[.s 3,.s 4],[.a 3,.o (.o (.i .i64))])],[],[]⟩
noncomputable def tL_toIntS (x0:SlV):T :=
 .rq ((0:Int)≤(↑x0.n:Int)∧(↑x0.n:Int)≤(↑x0.n:Int)∧(↑(8:Nat):Int)*(↑x0.n:Int)≤(281474976710656:Int)∧(↑x0.n:Int)≤(9223372036854775807:Int)) <|
 .lp [.a 3,.o (.o (.i .i64))] [.a 3 ((↑x0.n:Int).toNat) ((madeCells { toList:=[Value.int IntKind.i64 (0:Int)]:Array Value } ((↑x0.n:Int).toNat*(1:Nat))).toList),.v (.int .i64 ((0:Int)))] fun y1 =>
 .br (decide (y1.2.1<(↑x0.n:Int))) (
  .el (x0.a) (x0.n) (y1.2.1) fun y2 =>
  .ld false (y2.add (Int.toNat y1.2.1*(1:Nat))) (.o (.i .i64)) fun y3 =>
  .rq ((0:Int)≤y1.2.1∧y1.2.1<(↑y1.1.1:Int)) <|
  .rq (Int.toNat y1.2.1*(1:Nat)+[(Sh1.o (Sc.i IntKind.i64)).val y3].length≤y1.1.2.length) <|
  .nx 0 [.a 3 (y1.1.1) (setl y1.1.2 (Int.toNat y1.2.1*(1:Nat)) [(Sh1.o (Sc.i IntKind.i64)).val y3]),.v (.int .i64 (IntKind.i64.wrap (y1.2.1+(1:Int))))]) <|
 .fz (y1.1.1) (y1.1.2) 3 fun b2 c2 =>
 .ret [.slice (some { block:=b2,off:=(0:Nat):Addr }) (y1.1.1) (c2)]
theorem fL_toIntS (x0:SlV):fits Tryz.prog aL_toIntS 77 [Sc.val .l (x0)] (tL_toIntS x0) :=
 fitK (by kernel_rfl)
def aL_eqRate:An:=⟨[],[],[]⟩
noncomputable def tL_eqRate (x0:ByteArray × ByteArray × Bool × SlV × Int × PUnit) (x1:ByteArray × ByteArray × Bool × SlV × Int × PUnit):T :=
 .br (!ByteArray.toList x0.1 == ByteArray.toList x1.1) (
  .ret [.bool (false)]) <|
 .br (!ByteArray.toList x0.2.1 == ByteArray.toList x1.2.1) (
  .ret [.bool (false)]) <|
 .call false 115 [Sh1.val (.g [.b,.l,.i .i64]) (x0.2.2),Sh1.val (.g [.b,.l,.i .i64]) (x1.2.2)] (.v (.o (.b))) fun y1 =>
 .br (!y1) (
  .ret [.bool (false)]) <|
 .ret [.bool (true)]
theorem fL_eqRate (x0:ByteArray × ByteArray × Bool × SlV × Int × PUnit) (x1:ByteArray × ByteArray × Bool × SlV × Int × PUnit):fits Tryz.prog aL_eqRate 78 [Sh1.val (.g [.s,.s,.b,.l,.i .i64]) (x0),Sh1.val (.g [.s,.s,.b,.l,.i .i64]) (x1)] (tL_eqRate x0 x1) :=
 fitK (by kernel_rfl)
def aS_RatOk:An:=⟨[],[],[]⟩
noncomputable def tS_RatOk (x0:Bool × SlV × SlV × PUnit):T :=
 .call false 67 [Sh1.val (.g [.b,.l]) ((x0.1),x0.2.1,())] (.v (.o (.b))) fun y1 =>
 .br (!y1) (
  .ret [.bool (false)]) <|
 .call false 104 [Sc.val .l (x0.2.2.1)] (.v (.o (.b))) fun y2 =>
 .br (!y2) (
  .ret [.bool (false)]) <|
 .br ((↑x0.2.2.1.n:Int) == (0:Int)) (
  .ret [.bool (false)]) <|
 .br (decide ((↑x0.2.2.1.n:Int) > (18:Int))) (
  .ret [.bool (false)]) <|
 .br (decide ((↑x0.2.1.n:Int) > (18:Int))) (
  .ret [.bool (false)]) <|
 .call false 117 [Sc.val .l (x0.2.1),Sc.val .l (x0.2.2.1)] (.v (.o (.l))) fun y3 =>
 .fz ((1:Nat)) [.int .i64 ((1:Int))] 3 fun b4 c4 =>
 .call false 116 [Sc.val .l (y3),.slice (some { block:=b4,off:=(0:Nat):Addr }) ((1:Nat)) (c4)] (.v (.o (.i .i64))) fun y5 =>
 .ret [.bool (y5 == (0:Int))]
theorem fS_RatOk (x0:Bool × SlV × SlV × PUnit):fits Tryz.prog aS_RatOk 79 [Sh1.val (.g [.b,.l,.l]) (x0)] (tS_RatOk x0) :=
 fitK (by kernel_rfl)
def aS_l04Make:An:=⟨[],[],[]⟩
noncomputable def tS_l04Make (x0:Bool) (x1:SlV):T :=
 .call false 118 [Sc.val .l (x1)] (.v (.o (.l))) fun y1 =>
 .br (x0) (
  .rd ({ a:=y1.a,n:=y1.n,c:=y1.c:SlV }) ((1:Nat)) fun y2 =>
  .rq (one y2=true∧((0:Nat)+y1.n)*(8:Nat)≤(140737488355328:Nat)∧(0:Nat)+y1.n≤(9223372036854775807:Nat)) <|
  .fz ((0:Nat)+y1.n) ([]++y2) 3 fun b3 c3 =>
  .ret [Sh1.val (.g [.b,.l]) ((decide ((↑y1.n:Int) > (0:Int))),(⟨(some { block:=b3,off:=(0:Nat):Addr }),((0:Nat)+y1.n),(c3)⟩:SlV),())]) <|
 .rd ({ a:=y1.a,n:=y1.n,c:=y1.c:SlV }) ((1:Nat)) fun y2 =>
 .rq (one y2=true∧((0:Nat)+y1.n)*(8:Nat)≤(140737488355328:Nat)∧(0:Nat)+y1.n≤(9223372036854775807:Nat)) <|
 .fz ((0:Nat)+y1.n) ([]++y2) 3 fun b3 c3 =>
 .ret [Sh1.val (.g [.b,.l]) ((false),(⟨(some { block:=b3,off:=(0:Nat):Addr }),((0:Nat)+y1.n),(c3)⟩:SlV),())]
theorem fS_l04Make (x0:Bool) (x1:SlV):fits Tryz.prog aS_l04Make 80 [.bool (x0),Sc.val .l (x1)] (tS_l04Make x0 x1) :=
 fitK (by kernel_rfl)
def aS_l02Mul:An:=⟨[(5,[.s 5,.s 28],[.a 3,.o (.o (.i .i64))]),(9,[.s 5,.s 8,.s 35],[.a 3,.o (.o (.i .i64)),.o (.o (.i .i64))])],[],[]⟩
noncomputable def tS_l02Mul (x0:SlV) (x1:SlV):T :=
 .br ((↑x0.n:Int) == (0:Int)) (
  .ret [.slice (none) ((0:Nat)) ((0:Nat))]) <|
 .br ((↑x1.n:Int) == (0:Int)) (
  .ret [.slice (none) ((0:Nat)) ((0:Nat))]) <|
 .rq ((0:Int)≤IntKind.i64.wrap ((↑x0.n:Int)+(↑x1.n:Int))∧IntKind.i64.wrap ((↑x0.n:Int)+(↑x1.n:Int))≤IntKind.i64.wrap ((↑x0.n:Int)+(↑x1.n:Int))∧(↑(8:Nat):Int)*IntKind.i64.wrap ((↑x0.n:Int)+(↑x1.n:Int))≤(281474976710656:Int)∧IntKind.i64.wrap ((↑x0.n:Int)+(↑x1.n:Int))≤(9223372036854775807:Int)) <|
 .lp [.a 3,.o (.o (.i .i64))] [.a 3 ((IntKind.i64.wrap ((↑x0.n:Int)+(↑x1.n:Int))).toNat) ((madeCells { toList:=[Value.int IntKind.i64 (0:Int)]:Array Value } ((IntKind.i64.wrap ((↑x0.n:Int)+(↑x1.n:Int))).toNat*(1:Nat))).toList),.v (.int .i64 ((0:Int)))] fun y1 =>
 .br (decide (y1.2.1<(↑x0.n:Int))) (
  .el (x0.a) (x0.n) (y1.2.1) fun y2 =>
  .ld false (y2.add (Int.toNat y1.2.1*(1:Nat))) (.o (.i .i64)) fun y3 =>
  .lp [.a 3,.o (.o (.i .i64)),.o (.o (.i .i64))] [.a 3 (y1.1.1) (y1.1.2),.v (.int .i64 ((0:Int))),.v (.int .i64 ((0:Int)))] fun y4 =>
  .br (decide (y4.2.2.1<(↑x1.n:Int))) (
   .el (x1.a) (x1.n) (y4.2.2.1) fun y5 =>
   .ld false (y5.add (Int.toNat y4.2.2.1*(1:Nat))) (.o (.i .i64)) fun y6 =>
   .rq ((0:Int)≤IntKind.i64.wrap (y1.2.1+y4.2.2.1)∧IntKind.i64.wrap (y1.2.1+y4.2.2.1)<(↑y4.1.1:Int)) <|
   .xs (y4.1.2) ((IntKind.i64.wrap (y1.2.1+y4.2.2.1)).toNat*(1:Nat)) (.o (.i .i64)) fun y7 =>
   .rq ((1000000000:Int)≠(0:Int)) <|
   .rq ((0:Int)≤IntKind.i64.wrap (y1.2.1+y4.2.2.1)∧IntKind.i64.wrap (y1.2.1+y4.2.2.1)<(↑y4.1.1:Int)) <|
   .rq ((IntKind.i64.wrap (y1.2.1+y4.2.2.1)).toNat*(1:Nat)+[Value.int IntKind.i64 ((IntKind.i64.wrap (IntKind.i64.wrap (y7+IntKind.i64.wrap (y3*y6))+y4.2.1)).tmod (1000000000:Int))].length≤y4.1.2.length) <|
   .rq ((1000000000:Int)≠(0:Int)) <|
   .nx 1 [.a 3 (y4.1.1) (setl y4.1.2 ((IntKind.i64.wrap (y1.2.1+y4.2.2.1)).toNat*(1:Nat)) [Value.int IntKind.i64 ((IntKind.i64.wrap (IntKind.i64.wrap (y7+IntKind.i64.wrap (y3*y6))+y4.2.1)).tmod (1000000000:Int))]),.v (.int .i64 (IntKind.i64.wrap ((IntKind.i64.wrap (IntKind.i64.wrap (y7+IntKind.i64.wrap (y3*y6))+y4.2.1)).tdiv (1000000000:Int)))),.v (.int .i64 (IntKind.i64.wrap (y4.2.2.1+(1:Int))))]) <|
  .rq ((0:Int)≤IntKind.i64.wrap (y1.2.1+(↑x1.n:Int))∧IntKind.i64.wrap (y1.2.1+(↑x1.n:Int))<(↑y4.1.1:Int)) <|
  .rq ((IntKind.i64.wrap (y1.2.1+(↑x1.n:Int))).toNat*(1:Nat)+[(Sh1.o (Sc.i IntKind.i64)).val y4.2.1].length≤y4.1.2.length) <|
  .nx 0 [.a 3 (y4.1.1) (setl y4.1.2 ((IntKind.i64.wrap (y1.2.1+(↑x1.n:Int))).toNat*(1:Nat)) [(Sh1.o (Sc.i IntKind.i64)).val y4.2.1]),.v (.int .i64 (IntKind.i64.wrap (y1.2.1+(1:Int))))]) <|
 .fz (y1.1.1) (y1.1.2) 3 fun b2 c2 =>
 .call false 119 [.slice (some { block:=b2,off:=(0:Nat):Addr }) (y1.1.1) (c2)] (.v (.o (.l))) fun y3 =>
 .ret [Sc.val .l (y3)]
theorem fS_l02Mul (x0:SlV) (x1:SlV):fits Tryz.prog aS_l02Mul 81 [Sc.val .l (x0),Sc.val .l (x1)] (tS_l02Mul x0 x1) :=
 fitK (by kernel_rfl)
def aS_l04Add:An:=⟨[],[],[]⟩
noncomputable def tS_l04Add (x0:Bool × SlV × PUnit) (x1:Bool × SlV × PUnit):T :=
 .br (x0.1 == x1.1) (
  .rg <|
  .call true 120 [Sc.val .l (x0.2.1),Sc.val .l (x1.2.1)] (.v (.o (.l))) fun y1 =>
  .call true 80 [.bool (x0.1),Sc.val .l (y1)] (.v (.g [.b,.l])) fun y2 =>
  .ret [Sh1.val (.g [.b,.l]) (y2)]) <|
 .call false 116 [Sc.val .l (x0.2.1),Sc.val .l (x1.2.1)] (.v (.o (.i .i64))) fun y1 =>
 .br (decide (y1≥(0:Int))) (
  .rg <|
  .call true 121 [Sc.val .l (x0.2.1),Sc.val .l (x1.2.1)] (.v (.o (.l))) fun y2 =>
  .call true 80 [.bool (x0.1),Sc.val .l (y2)] (.v (.g [.b,.l])) fun y3 =>
  .ret [Sh1.val (.g [.b,.l]) (y3)]) <|
 .rg <|
 .call true 121 [Sc.val .l (x1.2.1),Sc.val .l (x0.2.1)] (.v (.o (.l))) fun y2 =>
 .call true 80 [.bool (x1.1),Sc.val .l (y2)] (.v (.g [.b,.l])) fun y3 =>
 .ret [Sh1.val (.g [.b,.l]) (y3)]
theorem fS_l04Add (x0:Bool × SlV × PUnit) (x1:Bool × SlV × PUnit):fits Tryz.prog aS_l04Add 82 [Sh1.val (.g [.b,.l]) (x0),Sh1.val (.g [.b,.l]) (x1)] (tS_l04Add x0 x1) :=
 fitK (by kernel_rfl)
def aS_l05Low:An:=⟨[],[],[]⟩
noncomputable def tS_l05Low (x0:Bool) (x1:SlV) (x2:SlV):T :=
 .call false 119 [Sc.val .l (x1)] (.v (.o (.l))) fun y1 =>
 .call false 119 [Sc.val .l (x2)] (.v (.o (.l))) fun y2 =>
 .br ((↑y2.n:Int) == (0:Int)) (
  .ret [Sh1.val (.g [.b,.l,.l]) ((false),nilS,nilS,()),.bool (false)]) <|
 .call false 122 [Sc.val .l (y1),Sc.val .l (y2)] (.v (.o (.l))) fun y3 =>
 .call false 123 [Sc.val .l (y1),Sc.val .l (y3)] (.t [(.o (.l)),(.o (.l))]) fun y4 =>
 .call false 123 [Sc.val .l (y2),Sc.val .l (y3)] (.t [(.o (.l)),(.o (.l))]) fun y5 =>
 .br (decide ((↑y4.1.n:Int) > (18:Int))) (
  .ret [Sh1.val (.g [.b,.l,.l]) ((false),nilS,nilS,()),.bool (false)]) <|
 .br (decide ((↑y5.1.n:Int) > (18:Int))) (
  .ret [Sh1.val (.g [.b,.l,.l]) ((false),nilS,nilS,()),.bool (false)]) <|
 .call false 80 [.bool (x0),Sc.val .l (y4.1)] (.v (.g [.b,.l])) fun y6 =>
 .rd ({ a:=y5.1.a,n:=y5.1.n,c:=y5.1.c:SlV }) ((1:Nat)) fun y7 =>
 .rq (one y7=true∧((0:Nat)+y5.1.n)*(8:Nat)≤(140737488355328:Nat)∧(0:Nat)+y5.1.n≤(9223372036854775807:Nat)) <|
 .fz ((0:Nat)+y5.1.n) ([]++y7) 3 fun b8 c8 =>
 .ret [Sh1.val (.g [.b,.l,.l]) ((y6.1),y6.2.1,(⟨(some { block:=b8,off:=(0:Nat):Addr }),((0:Nat)+y5.1.n),(c8)⟩:SlV),()),.bool (true)]
theorem fS_l05Low (x0:Bool) (x1:SlV) (x2:SlV):fits Tryz.prog aS_l05Low 83 [.bool (x0),Sc.val .l (x1),Sc.val .l (x2)] (tS_l05Low x0 x1 x2) :=
 fitK (by kernel_rfl)
def aI_checkConversion:An:=⟨[(3,[.s 9,.s 26],[.o (.o (.b)),.o (.o (.i .i64))]),(10,[.s 42],[.o (.o (.i .i64))])],[(2,[.s 9],[.o (.o (.b))])],[]⟩
noncomputable def tI_checkConversion (x0:ByteArray × SlV × PUnit) (x1:SlV) (x2:ByteArray) (x3:Int):T :=
 .jn [.o (.o (.b))] (fun y1 =>
  .lp [.o (.o (.b)),.o (.o (.i .i64))] [.v (.bool (y1.1)),.v (.int .i64 ((0:Int)))] fun y2 =>
  .br (decide (y2.2.1<(↑x1.n:Int))) (
   .el (x1.a) (x1.n) (y2.2.1) fun y3 =>
   .ld false (y3.add (Int.toNat y2.2.1*(3:Nat))) (.g [.s,.b,.l]) fun y4 =>
   .br (y2.1) (
    .call false 126 [Sh1.val (.g [.s,.b,.l]) (y4)] (.v (.o (.b))) fun y5 =>
    .nx 1 [.v (.bool (y5)),.v (.int .i64 (IntKind.i64.wrap (y2.2.1+(1:Int))))]) <|
   .nx 1 [.v (.bool (false)),.v (.int .i64 (IntKind.i64.wrap (y2.2.1+(1:Int))))]) <|
  .br (!y2.1) (
   .ret [.iface 142 (Sh1.val (.g [.i .i64]) ((((1:Int)):Int),()))]) <|
  .lp [.o (.o (.i .i64))] [.v (.int .i64 ((0:Int)))] fun y3 =>
  .br (decide (y3.1<(↑x1.n:Int))) (
   .el (x1.a) (x1.n) (y3.1) fun y4 =>
   .ld false (y4.add (Int.toNat y3.1*(3:Nat))) (.g [.s,.b,.l]) fun y5 =>
   .call false 127 [Sh1.val (.g [.s,.l]) (x0),.string (y5.1),.string (x2)] (.v (.o (.i .i64))) fun y6 =>
   .br (y6 == (0:Int)) (
    .ret [.iface 142 (Sh1.val (.g [.i .i64]) ((((2:Int)):Int),()))]) <|
   .nx 2 [.v (.int .i64 (IntKind.i64.wrap (y3.1+(1:Int))))]) <|
  .ret [.nilIface]) <|
 .call false 98 [Sh1.val (.g [.s,.l]) (x0)] (.v (.o (.b))) fun y1 =>
 .br (y1) (
  .call false 124 [.string (x2)] (.v (.o (.b))) fun y2 =>
  .br (y2) (
   .call false 125 [.int .i64 (x3)] (.v (.o (.b))) fun y3 =>
   .nx 0 [.v (.bool (y3))]) <|
  .nx 0 [.v (.bool (false))]) <|
 .nx 0 [.v (.bool (false))]
theorem fI_checkConversion (x0:ByteArray × SlV × PUnit) (x1:SlV) (x2:ByteArray) (x3:Int):fits Tryz.prog aI_checkConversion 84 [Sh1.val (.g [.s,.l]) (x0),Sc.val .l (x1),.string (x2),.int .i64 (x3)] (tI_checkConversion x0 x1 x2 x3) :=
 fitK (by kernel_rfl)
def aI_RatZero:An:=⟨[],[],[]⟩
noncomputable def tI_RatZero :T :=
 .fz ((1:Nat)) [.int .i64 ((1:Int))] 3 fun b1 c1 =>
 .ret [Sh1.val (.g [.b,.l,.l]) ((false),nilS,(⟨(some { block:=b1,off:=(0:Nat):Addr }),((1:Nat)),(c1)⟩:SlV),())]
theorem fI_RatZero :fits Tryz.prog aI_RatZero 85 [] (tI_RatZero ) :=
 fitK (by kernel_rfl)
def aI_Exact:An:=⟨[],[],[]⟩
noncomputable def tI_Exact (x0:ByteArray × SlV × PUnit) (x1:ByteArray × Bool × SlV × PUnit) (x2:ByteArray):T :=
 .call false 126 [Sh1.val (.g [.s,.b,.l]) (x1)] (.v (.o (.b))) fun y1 =>
 .br (!y1) (
  .ret [Sh1.val (.g [.b,.l,.l]) ((false),nilS,nilS,()),.bool (false)]) <|
 .call false 128 [Sh1.val (.g [.s,.l]) (x0),.string (x1.1),.string (x2)] (.t [(.g [.b,.l,.l]),(.o (.b))]) fun y2 =>
 .br (!y2.2.1) (
  .ret [Sh1.val (.g [.b,.l,.l]) ((false),nilS,nilS,()),.bool (false)]) <|
 .rg <|
 .call true 130 [Sh1.val (.g [.s,.b,.l]) (x1)] (.v (.g [.b,.l,.l])) fun y3 =>
 .call true 129 [Sh1.val (.g [.b,.l,.l]) (y3),Sh1.val (.g [.b,.l,.l]) (y2.1)] (.t [(.g [.b,.l,.l]),(.o (.b))]) fun y4 =>
 .ret [Sh1.val (.g [.b,.l,.l]) (y4.1),.bool (y4.2.1)]
theorem fI_Exact (x0:ByteArray × SlV × PUnit) (x1:ByteArray × Bool × SlV × PUnit) (x2:ByteArray):fits Tryz.prog aI_Exact 86 [Sh1.val (.g [.s,.l]) (x0),Sh1.val (.g [.s,.b,.l]) (x1),.string (x2)] (tI_Exact x0 x1 x2) :=
 fitK (by kernel_rfl)
def aI_RatAdd:An:=⟨[],[],[]⟩
noncomputable def tI_RatAdd (x0:Bool × SlV × SlV × PUnit) (x1:Bool × SlV × SlV × PUnit):T :=
 .call false 131 [Sh1.val (.g [.b,.l,.l]) (x0),Sh1.val (.g [.b,.l,.l]) (x1)] (.v (.o (.b))) fun y1 =>
 .br (!y1) (
  .ret [Sh1.val (.g [.b,.l,.l]) ((false),nilS,nilS,()),.bool (false)]) <|
 .rg <|
 .rg <|
 .call true 132 [Sh1.val (.g [.b,.l,.l]) (x0),Sc.val .l (x1.2.2.1)] (.v (.g [.b,.l])) fun y2 =>
 .call true 132 [Sh1.val (.g [.b,.l,.l]) (x1),Sc.val .l (x0.2.2.1)] (.v (.g [.b,.l])) fun y3 =>
 .call true 134 [Sh1.val (.g [.b,.l]) (y2),Sh1.val (.g [.b,.l]) (y3)] (.v (.g [.b,.l])) fun y4 =>
 .call true 135 [Sc.val .l (x0.2.2.1),Sc.val .l (x1.2.2.1)] (.v (.o (.l))) fun y5 =>
 .call true 133 [Sh1.val (.g [.b,.l]) (y4),Sc.val .l (y5)] (.t [(.g [.b,.l,.l]),(.o (.b))]) fun y6 =>
 .ret [Sh1.val (.g [.b,.l,.l]) (y6.1),.bool (y6.2.1)]
theorem fI_RatAdd (x0:Bool × SlV × SlV × PUnit) (x1:Bool × SlV × SlV × PUnit):fits Tryz.prog aI_RatAdd 87 [Sh1.val (.g [.b,.l,.l]) (x0),Sh1.val (.g [.b,.l,.l]) (x1)] (tI_RatAdd x0 x1) :=
 fitK (by kernel_rfl)
def aI_RatMoney:An:=⟨[],[],[]⟩
noncomputable def tI_RatMoney (x0:ByteArray) (x1:Bool × SlV × SlV × PUnit) (x2:Int):T :=
 .call false 136 [Sh1.val (.g [.b,.l,.l]) (x1),.int .i64 (x2)] (.t [(.g [.b,.l]),(.g [.b,.l,.l]),(.o (.b))]) fun y1 =>
 .br (!y1.2.2.1) (
  .ret [Sh1.val (.g [.s,.b,.l]) (({ data:={ toList:=[]:Array UInt8 }:ByteArray }),(false),nilS,()),Sh1.val (.g [.b,.l,.l]) ((false),nilS,nilS,()),.bool (false)]) <|
 .call false 137 [.string (x0),Sh1.val (.g [.b,.l]) (y1.1)] (.t [(.g [.s,.b,.l]),(.o (.b))]) fun y2 =>
 .br (!y2.2.1) (
  .ret [Sh1.val (.g [.s,.b,.l]) (({ data:={ toList:=[]:Array UInt8 }:ByteArray }),(false),nilS,()),Sh1.val (.g [.b,.l,.l]) ((false),nilS,nilS,()),.bool (false)]) <|
 .rg <|
 .ret [Sh1.val (.g [.s,.b,.l]) (y2.1),Sh1.val (.g [.b,.l,.l]) (y1.2.1),.bool (true)]
theorem fI_RatMoney (x0:ByteArray) (x1:Bool × SlV × SlV × PUnit) (x2:Int):fits Tryz.prog aI_RatMoney 88 [.string (x0),Sh1.val (.g [.b,.l,.l]) (x1),.int .i64 (x2)] (tI_RatMoney x0 x1 x2) :=
 fitK (by kernel_rfl)
def aL_szAcctS:An:=⟨[(5,[.s 1,.s 5],[.o (.o (.i .i64)),.o (.o (.i .i64))])],[],[]⟩
noncomputable def tL_szAcctS (x0:SlV) (x1:Int):T :=
 .br (decide (IntKind.i64.wrap (x1-(↑x0.n:Int))<(0:Int))) (
  .ret [.int .i64 ((-1:Int))]) <|
 .lp [.o (.o (.i .i64)),.o (.o (.i .i64))] [.v (.int .i64 (IntKind.i64.wrap (x1-(↑x0.n:Int)))),.v (.int .i64 ((0:Int)))] fun y1 =>
 .br (decide (y1.2.1<(↑x0.n:Int))) (
  .el (x0.a) (x0.n) (y1.2.1) fun y2 =>
  .ld false (y2.add (Int.toNat y1.2.1*(4:Nat))) (.g [.s,.s,.b,.l]) fun y3 =>
  .call false 142 [Sh1.val (.g [.s,.s,.b,.l]) (y3),.int .i64 (y1.1)] (.v (.o (.i .i64))) fun y4 =>
  .br (decide (y4<(0:Int))) (
   .ret [.int .i64 ((-1:Int))]) <|
  .nx 0 [.v (.int .i64 (y4)),.v (.int .i64 (IntKind.i64.wrap (y1.2.1+(1:Int))))]) <|
 .ret [.int .i64 (y1.1)]
theorem fL_szAcctS (x0:SlV) (x1:Int):fits Tryz.prog aL_szAcctS 90 [Sc.val .l (x0),.int .i64 (x1)] (tL_szAcctS x0 x1) :=
 fitK (by kernel_rfl)
def aL_szRest:An:=⟨[],[],[]⟩
noncomputable def tL_szRest (x0:ByteArray × Bool × SlV × SlV × PUnit) (x1:Int):T :=
 .br (decide (IntKind.i64.wrap (x1-(↑(ByteArray.size x0.1):Int))<(0:Int))) (
  .ret [.int .i64 ((-1:Int))]) <|
 .call false 143 [Sh1.val (.g [.b,.l,.l]) (x0.2),.int .i64 (IntKind.i64.wrap (x1-(↑(ByteArray.size x0.1):Int)))] (.v (.o (.i .i64))) fun y1 =>
 .br (decide (y1<(0:Int))) (
  .ret [.int .i64 ((-1:Int))]) <|
 .ret [.int .i64 (y1)]
theorem fL_szRest (x0:ByteArray × Bool × SlV × SlV × PUnit) (x1:Int):fits Tryz.prog aL_szRest 91 [Sh1.val (.g [.s,.b,.l,.l]) (x0),.int .i64 (x1)] (tL_szRest x0 x1) :=
 fitK (by kernel_rfl)
def aS_BookOk:An:=⟨[(2,[.s 8],[.o (.o (.i .i64))])],[],[]⟩
noncomputable def tS_BookOk (x0:SlV × PUnit):T :=
 .lp [.o (.o (.i .i64))] [.v (.int .i64 ((0:Int)))] fun y1 =>
 .br (decide (y1.1<(↑x0.1.n:Int))) (
  .el (x0.1.a) (x0.1.n) (y1.1) fun y2 =>
  .ld false (y2.add (Int.toNat y1.1*(4:Nat))) (.g [.s,.s,.b,.l]) fun y3 =>
  .rg <|
  .call true 144 [.string (y3.1)] (.v (.o (.b))) fun y4 =>
  .br (!y4) (
   .ret [.bool (false)]) <|
  .call true 34 [Sh1.val (.g [.s,.b,.l]) (y3.2)] (.v (.o (.b))) fun y5 =>
  .br (!y5) (
   .ret [.bool (false)]) <|
  .br (decide (y1.1 > (0:Int))) (
   .el (x0.1.a) (x0.1.n) (IntKind.i64.wrap (y1.1-(1:Int))) fun y6 =>
   .ld true ((y6.add ((IntKind.i64.wrap (y1.1-(1:Int))).toNat*(4:Nat))).add (0:Nat)) (.o (.s)) fun y7 =>
   .br (!Op.bytesLess y7.toList (ByteArray.toList y3.1)) (
    .ret [.bool (false)]) <|
   .nx 0 [.v (.int .i64 (IntKind.i64.wrap (y1.1+(1:Int))))]) <|
  .nx 0 [.v (.int .i64 (IntKind.i64.wrap (y1.1+(1:Int))))]) <|
 .ret [.bool (decide ((↑x0.1.n:Int)≤(12:Int)))]
theorem fS_BookOk (x0:SlV × PUnit):fits Tryz.prog aS_BookOk 92 [Sh1.val (.g [.l]) (x0)] (tS_BookOk x0) :=
 fitK (by kernel_rfl)
def aS_RestsOk:An:=⟨[(2,[.s 7],[.o (.o (.i .i64))])],[],[]⟩
noncomputable def tS_RestsOk (x0:SlV):T :=
 .lp [.o (.o (.i .i64))] [.v (.int .i64 ((0:Int)))] fun y1 =>
 .br (decide (y1.1<(↑x0.n:Int))) (
  .el (x0.a) (x0.n) (y1.1) fun y2 =>
  .ld false (y2.add (Int.toNat y1.1*(4:Nat))) (.g [.s,.b,.l,.l]) fun y3 =>
  .rg <|
  .call true 66 [.string (y3.1)] (.v (.o (.b))) fun y4 =>
  .br (!y4) (
   .ret [.bool (false)]) <|
  .call true 79 [Sh1.val (.g [.b,.l,.l]) (y3.2)] (.v (.o (.b))) fun y5 =>
  .br (!y5) (
   .ret [.bool (false)]) <|
  .call true 145 [Sh1.val (.g [.b,.l,.l]) (y3.2)] (.v (.o (.i .i64))) fun y6 =>
  .br (y6 == (0:Int)) (
   .ret [.bool (false)]) <|
  .br (decide (y1.1 > (0:Int))) (
   .el (x0.a) (x0.n) (IntKind.i64.wrap (y1.1-(1:Int))) fun y7 =>
   .ld true ((y7.add ((IntKind.i64.wrap (y1.1-(1:Int))).toNat*(4:Nat))).add (0:Nat)) (.o (.s)) fun y8 =>
   .br (!Op.bytesLess y8.toList (ByteArray.toList y3.1)) (
    .ret [.bool (false)]) <|
   .nx 0 [.v (.int .i64 (IntKind.i64.wrap (y1.1+(1:Int))))]) <|
  .nx 0 [.v (.int .i64 (IntKind.i64.wrap (y1.1+(1:Int))))]) <|
 .ret [.bool (true)]
theorem fS_RestsOk (x0:SlV):fits Tryz.prog aS_RestsOk 93 [Sc.val .l (x0)] (tS_RestsOk x0) :=
 fitK (by kernel_rfl)
def aL_toAcctS:An:=⟨[(3,[.s 3,.s 4],[.a 106,.o (.o (.i .i64))])],[],[]⟩
noncomputable def tL_toAcctS (x0:SlV):T :=
 .rq ((0:Int)≤(↑x0.n:Int)∧(↑x0.n:Int)≤(↑x0.n:Int)∧(↑(64:Nat):Int)*(↑x0.n:Int)≤(281474976710656:Int)∧(↑x0.n:Int)≤(9223372036854775807:Int)) <|
 .lp [.a 106,.o (.o (.i .i64))] [.a 106 ((↑x0.n:Int).toNat) ((madeCells { toList:=[Value.string { data:={ toList:=[]:Array UInt8 }:ByteArray },Value.string { data:={ toList:=[]:Array UInt8 }:ByteArray },Value.bool false,Value.slice none (0:Nat) (0:Nat)]:Array Value } ((↑x0.n:Int).toNat*(4:Nat))).toList),.v (.int .i64 ((0:Int)))] fun y1 =>
 .br (decide (y1.2.1<(↑x0.n:Int))) (
  .el (x0.a) (x0.n) (y1.2.1) fun y2 =>
  .ld false (y2.add (Int.toNat y1.2.1*(4:Nat))) (.g [.s,.s,.b,.l]) fun y3 =>
  .call false 146 [Sh1.val (.g [.s,.s,.b,.l]) (y3)] (.v (.g [.s,.s,.b,.l])) fun y4 =>
  .rq ((0:Int)≤y1.2.1∧y1.2.1<(↑y1.1.1:Int)) <|
  .rq (Int.toNat y1.2.1*(4:Nat)+[Value.string y4.1,Value.string y4.2.1,Value.bool y4.2.2.1,Value.slice y4.2.2.2.1.a y4.2.2.2.1.n y4.2.2.2.1.c].length≤y1.1.2.length) <|
  .nx 0 [.a 106 (y1.1.1) (setl y1.1.2 (Int.toNat y1.2.1*(4:Nat)) [Value.string y4.1,Value.string y4.2.1,Value.bool y4.2.2.1,Value.slice y4.2.2.2.1.a y4.2.2.2.1.n y4.2.2.2.1.c]),.v (.int .i64 (IntKind.i64.wrap (y1.2.1+(1:Int))))]) <|
 .fz (y1.1.1) (y1.1.2) 106 fun b2 c2 =>
 .ret [.slice (some { block:=b2,off:=(0:Nat):Addr }) (y1.1.1) (c2)]
theorem fL_toAcctS (x0:SlV):fits Tryz.prog aL_toAcctS 94 [Sc.val .l (x0)] (tL_toAcctS x0) :=
 fitK (by kernel_rfl)
def aL_toRest:An:=⟨[],[],[]⟩
noncomputable def tL_toRest (x0:ByteArray × Bool × SlV × SlV × PUnit):T :=
 .call false 147 [Sh1.val (.g [.b,.l,.l]) (x0.2)] (.v (.g [.b,.l,.l])) fun y1 =>
 .ret [Sh1.val (.g [.s,.b,.l,.l]) ((x0.1),(y1.1),y1.2.1,y1.2.2.1,())]
theorem fL_toRest (x0:ByteArray × Bool × SlV × SlV × PUnit):fits Tryz.prog aL_toRest 95 [Sh1.val (.g [.s,.b,.l,.l]) (x0)] (tL_toRest x0) :=
 fitK (by kernel_rfl)
def aI_BookOk:An:=⟨[(4,[.s 12],[.o (.o (.i .i64))])],[],[]⟩
noncomputable def tI_BookOk (x0:SlV × PUnit):T :=
 .br (decide ((↑x0.1.n:Int) > (12:Int))) (
  .ret [.bool (false)]) <|
 .lp [.o (.o (.i .i64))] [.v (.int .i64 ((0:Int)))] fun y1 =>
 .br (decide (y1.1<(↑x0.1.n:Int))) (
  .el (x0.1.a) (x0.1.n) (y1.1) fun y2 =>
  .ld false (y2.add (Int.toNat y1.1*(4:Nat))) (.g [.s,.s,.b,.l]) fun y3 =>
  .rg <|
  .call true 148 [.string (y3.1)] (.v (.o (.b))) fun y4 =>
  .br (!y4) (
   .ret [.bool (false)]) <|
  .call true 126 [Sh1.val (.g [.s,.b,.l]) (y3.2)] (.v (.o (.b))) fun y5 =>
  .br (!y5) (
   .ret [.bool (false)]) <|
  .br (decide (y1.1 > (0:Int))) (
   .el (x0.1.a) (x0.1.n) (IntKind.i64.wrap (y1.1-(1:Int))) fun y6 =>
   .ld true ((y6.add ((IntKind.i64.wrap (y1.1-(1:Int))).toNat*(4:Nat))).add (0:Nat)) (.o (.s)) fun y7 =>
   .br (!Op.bytesLess y7.toList (ByteArray.toList y3.1)) (
    .ret [.bool (false)]) <|
   .nx 0 [.v (.int .i64 (IntKind.i64.wrap (y1.1+(1:Int))))]) <|
  .nx 0 [.v (.int .i64 (IntKind.i64.wrap (y1.1+(1:Int))))]) <|
 .ret [.bool (true)]
theorem fI_BookOk (x0:SlV × PUnit):fits Tryz.prog aI_BookOk 96 [Sh1.val (.g [.l]) (x0)] (tI_BookOk x0) :=
 fitK (by kernel_rfl)
def aI_RestsOk:An:=⟨[(2,[.s 7],[.o (.o (.i .i64))])],[],[]⟩
noncomputable def tI_RestsOk (x0:SlV):T :=
 .lp [.o (.o (.i .i64))] [.v (.int .i64 ((0:Int)))] fun y1 =>
 .br (decide (y1.1<(↑x0.n:Int))) (
  .el (x0.a) (x0.n) (y1.1) fun y2 =>
  .ld false (y2.add (Int.toNat y1.1*(4:Nat))) (.g [.s,.b,.l,.l]) fun y3 =>
  .rg <|
  .call true 124 [.string (y3.1)] (.v (.o (.b))) fun y4 =>
  .br (!y4) (
   .ret [.bool (false)]) <|
  .call true 149 [Sh1.val (.g [.b,.l,.l]) (y3.2)] (.v (.o (.b))) fun y5 =>
  .br (!y5) (
   .ret [.bool (false)]) <|
  .call true 150 [Sh1.val (.g [.b,.l,.l]) (y3.2)] (.v (.o (.i .i64))) fun y6 =>
  .br (y6 == (0:Int)) (
   .ret [.bool (false)]) <|
  .br (decide (y1.1 > (0:Int))) (
   .el (x0.a) (x0.n) (IntKind.i64.wrap (y1.1-(1:Int))) fun y7 =>
   .ld true ((y7.add ((IntKind.i64.wrap (y1.1-(1:Int))).toNat*(4:Nat))).add (0:Nat)) (.o (.s)) fun y8 =>
   .br (!Op.bytesLess y8.toList (ByteArray.toList y3.1)) (
    .ret [.bool (false)]) <|
   .nx 0 [.v (.int .i64 (IntKind.i64.wrap (y1.1+(1:Int))))]) <|
  .nx 0 [.v (.int .i64 (IntKind.i64.wrap (y1.1+(1:Int))))]) <|
 .ret [.bool (true)]
theorem fI_RestsOk (x0:SlV):fits Tryz.prog aI_RestsOk 97 [Sc.val .l (x0)] (tI_RestsOk x0) :=
 fitK (by kernel_rfl)
def aI_RatesOk:An:=⟨[(5,[.s 21],[.o (.o (.i .i64))])],[],[]⟩
noncomputable def tI_RatesOk (x0:ByteArray × SlV × PUnit):T :=
 .call false 124 [.string (x0.1)] (.v (.o (.b))) fun y1 =>
 .br (!y1) (
  .ret [.bool (false)]) <|
 .br (decide ((↑x0.2.1.n:Int) > (12:Int))) (
  .ret [.bool (false)]) <|
 .mo (.mk 200) (.v (.o (.x))) fun y2 =>
 .lp [.o (.o (.i .i64))] [.v (.int .i64 ((0:Int)))] fun y3 =>
 .br (decide (y3.1<(↑x0.2.1.n:Int))) (
  .el (x0.2.1.a) (x0.2.1.n) (y3.1) fun y4 =>
  .ld false (y4.add (Int.toNat y3.1*(5:Nat))) (.g [.s,.s,.b,.l,.i .i64]) fun y5 =>
  .call false 151 [Sh1.val (.g [.s,.s,.b,.l,.i .i64]) (y5)] (.v (.o (.b))) fun y6 =>
  .br (!y6) (
   .ret [.bool (false)]) <|
  .mo (.lk 200 ((y2.1)) (Sh1.val (.g [.s,.s]) ((y5.1),(y5.2.1),())) false) (.v (.o (.b))) fun y7 =>
  .br (y7) (
   .ret [.bool (false)]) <|
  .mo (.up 200 ((y2.1)) (Sh1.val (.g [.s,.s]) ((y5.1),(y5.2.1),())) (.bool (true))) (.t []) fun _ =>
  .nx 0 [.v (.int .i64 (IntKind.i64.wrap (y3.1+(1:Int))))]) <|
 .ret [.bool (true)]
theorem fI_RatesOk (x0:ByteArray × SlV × PUnit):fits Tryz.prog aI_RatesOk 98 [Sh1.val (.g [.s,.l]) (x0)] (tI_RatesOk x0) :=
 fitK (by kernel_rfl)
def aL_eqAcctS:An:=⟨[(4,[.s 5],[.o (.o (.i .i64))])],[],[]⟩
noncomputable def tL_eqAcctS (x0:SlV) (x1:SlV):T :=
 .br ((↑x0.n:Int) != (↑x1.n:Int)) (
  .ret [.bool (false)]) <|
 .lp [.o (.o (.i .i64))] [.v (.int .i64 ((0:Int)))] fun y1 =>
 .br (decide (y1.1<(↑x0.n:Int))) (
  .rg <|
  .el (x0.a) (x0.n) (y1.1) fun y2 =>
  .ld true (y2.add (Int.toNat y1.1*(4:Nat))) (.g [.s,.s,.b,.l]) fun y3 =>
  .el (x1.a) (x1.n) (y1.1) fun y4 =>
  .ld true (y4.add (Int.toNat y1.1*(4:Nat))) (.g [.s,.s,.b,.l]) fun y5 =>
  .call true 152 [Sh1.val (.g [.s,.s,.b,.l]) (y3),Sh1.val (.g [.s,.s,.b,.l]) (y5)] (.v (.o (.b))) fun y6 =>
  .br (!y6) (
   .ret [.bool (false)]) <|
  .nx 0 [.v (.int .i64 (IntKind.i64.wrap (y1.1+(1:Int))))]) <|
 .ret [.bool (true)]
theorem fL_eqAcctS (x0:SlV) (x1:SlV):fits Tryz.prog aL_eqAcctS 99 [Sc.val .l (x0),Sc.val .l (x1)] (tL_eqAcctS x0 x1) :=
 fitK (by kernel_rfl)
def aL_eqRest:An:=⟨[],[],[]⟩
noncomputable def tL_eqRest (x0:ByteArray × Bool × SlV × SlV × PUnit) (x1:ByteArray × Bool × SlV × SlV × PUnit):T :=
 .br (!ByteArray.toList x0.1 == ByteArray.toList x1.1) (
  .ret [.bool (false)]) <|
 .call false 13 [Sh1.val (.g [.b,.l,.l]) (x0.2),Sh1.val (.g [.b,.l,.l]) (x1.2)] (.v (.o (.b))) fun y1 =>
 .br (!y1) (
  .ret [.bool (false)]) <|
 .ret [.bool (true)]
theorem fL_eqRest (x0:ByteArray × Bool × SlV × SlV × PUnit) (x1:ByteArray × Bool × SlV × SlV × PUnit):fits Tryz.prog aL_eqRest 100 [Sh1.val (.g [.s,.b,.l,.l]) (x0),Sh1.val (.g [.s,.b,.l,.l]) (x1)] (tL_eqRest x0 x1) :=
 fitK (by kernel_rfl)
def aL_markAcctS:An:=⟨[(2,[.s 1,.s 5],[.o (.o (.i .i64)),.o (.o (.i .i64))])],[],[]⟩
noncomputable def tL_markAcctS (x0:SlV) (x1:Int):T :=
 .lp [.o (.o (.i .i64)),.o (.o (.i .i64))] [.v (.int .i64 (x1)),.v (.int .i64 ((0:Int)))] fun y1 =>
 .br (decide (y1.2.1<(↑x0.n:Int))) (
  .call false 53 [.int .i64 (y1.1)] (.v (.o (.s))) fun y2 =>
  .el (x0.a) (x0.n) (y1.2.1) fun y3 =>
  .st ((y3.add (Int.toNat y1.2.1*(4:Nat))).add (0:Nat)) [.string (y2)] <|
  .call false 53 [.int .i64 (IntKind.i64.wrap (y1.1+(1:Int)))] (.v (.o (.s))) fun y4 =>
  .el (x0.a) (x0.n) (y1.2.1) fun y5 =>
  .st (((y5.add (Int.toNat y1.2.1*(4:Nat))).add (1:Nat)).add (0:Nat)) [.string (y4)] <|
  .rq ((3:Int)≠(0:Int)) <|
  .el (x0.a) (x0.n) (y1.2.1) fun y6 =>
  .st ((((y6.add (Int.toNat y1.2.1*(4:Nat))).add (1:Nat)).add (1:Nat)).add (0:Nat)) [.bool ((IntKind.i64.wrap (IntKind.i64.wrap (y1.1+(1:Int))+(1:Int))).tmod (3:Int) == (0:Int))] <|
  .el (x0.a) (x0.n) (y1.2.1) fun y7 =>
  .ld false ((((y7.add (Int.toNat y1.2.1*(4:Nat))).add (1:Nat)).add (1:Nat)).add (1:Nat)) (.o (.l)) fun y8 =>
  .call false 46 [Sc.val .l (y8),.int .i64 (IntKind.i64.wrap (IntKind.i64.wrap (IntKind.i64.wrap (y1.1+(1:Int))+(1:Int))+(1:Int)))] (.v (.o (.i .i64))) fun y9 =>
  .nx 0 [.v (.int .i64 (y9)),.v (.int .i64 (IntKind.i64.wrap (y1.2.1+(1:Int))))]) <|
 .ret [.int .i64 (y1.1)]
theorem fL_markAcctS (x0:SlV) (x1:Int):fits Tryz.prog aL_markAcctS 101 [Sc.val .l (x0),.int .i64 (x1)] (tL_markAcctS x0 x1) :=
 fitK (by kernel_rfl)
def aL_szDec:An:=⟨[],[],[]⟩
noncomputable def tL_szDec (x0:Bool × SlV × Int × PUnit) (x1:Int):T :=
 .call false 33 [Sh1.val (.g [.b,.l]) ((x0.1),x0.2.1,()),.int .i64 (x1)] (.v (.o (.i .i64))) fun y1 =>
 .br (decide (y1<(0:Int))) (
  .ret [.int .i64 ((-1:Int))]) <|
 .ret [.int .i64 (y1)]
theorem fL_szDec (x0:Bool × SlV × Int × PUnit) (x1:Int):fits Tryz.prog aL_szDec 102 [Sh1.val (.g [.b,.l,.i .i64]) (x0),.int .i64 (x1)] (tL_szDec x0 x1) :=
 fitK (by kernel_rfl)
def aS_l08Find:An:=⟨[(2,[.s 7,.c 2 0,.c 2 1,.c 2 2,.c 2 3],[.o (.o (.i .i64)),.o (.o (.s)),.o (.o (.s)),.o (.o (.i .i64)),.o (.o (.i .i64))])],[],[]⟩
noncomputable def tS_l08Find (x0:ByteArray):T :=
 .call false 153 [] (.v (.o (.l))) fun y1 =>
 .lp [.o (.o (.i .i64)),.o (.o (.s)),.o (.o (.s)),.o (.o (.i .i64)),.o (.o (.i .i64))] [.v (.int .i64 ((0:Int))),.v (.string ({ data:={ toList:=[]:Array UInt8 }:ByteArray })),.v (.string ({ data:={ toList:=[]:Array UInt8 }:ByteArray })),.v (.int .i64 ((0:Int))),.v (.int .i64 ((0:Int)))] fun y2 =>
 .br (decide (y2.1<(↑y1.n:Int))) (
  .el (y1.a) (y1.n) (y2.1) fun y3 =>
  .ld false (y3.add (Int.toNat y2.1*(4:Nat))) (.g [.s,.s,.i .i64,.i .i64]) fun y4 =>
  .br (ByteArray.toList y4.1 == x0.toList) (
   .ret [Sh1.val (.g [.s,.s,.i .i64,.i .i64]) (y4)]) <|
  .nx 0 [.v (.int .i64 (IntKind.i64.wrap (y2.1+(1:Int)))),.v (.string (y2.2.1)),.v (.string (y2.2.2.1)),.v (.int .i64 (y2.2.2.2.1)),.v (.int .i64 (y2.2.2.2.2.1))]) <|
 .ret [Sh1.val (.g [.s,.s,.i .i64,.i .i64]) (({ data:={ toList:=[]:Array UInt8 }:ByteArray }),({ data:={ toList:=[]:Array UInt8 }:ByteArray }),(((0:Int)):Int),(((0:Int)):Int),())]
theorem fS_l08Find (x0:ByteArray):fits Tryz.prog aS_l08Find 103 [.string (x0)] (tS_l08Find x0) :=
 fitK (by kernel_rfl)
def aS_NatOk:An:=⟨[(2,[.s 7],[.o (.o (.i .i64))])],[],[]⟩
noncomputable def tS_NatOk (x0:SlV):T :=
 .lp [.o (.o (.i .i64))] [.v (.int .i64 ((0:Int)))] fun y1 =>
 .br (decide (y1.1<(↑x0.n:Int))) (
  .el (x0.a) (x0.n) (y1.1) fun y2 =>
  .ld false (y2.add (Int.toNat y1.1*(1:Nat))) (.o (.i .i64)) fun y3 =>
  .call false 107 [.int .i64 (y3),.int .i64 ((0:Int)),.int .i64 ((999999999:Int))] (.v (.o (.b))) fun y4 =>
  .br (!y4) (
   .ret [.bool (false)]) <|
  .nx 0 [.v (.int .i64 (IntKind.i64.wrap (y1.1+(1:Int))))]) <|
 .br (decide ((↑x0.n:Int)≤(50:Int))) (
  .br ((↑x0.n:Int) == (0:Int)) (
   .ret [.bool (true)]) <|
  .el (x0.a) (x0.n) (IntKind.i64.wrap ((↑x0.n:Int)-(1:Int))) fun y2 =>
  .ld false (y2.add ((IntKind.i64.wrap ((↑x0.n:Int)-(1:Int))).toNat*(1:Nat))) (.o (.i .i64)) fun y3 =>
  .ret [.bool (y3 != (0:Int))]) <|
 .ret [.bool (false)]
theorem fS_NatOk (x0:SlV):fits Tryz.prog aS_NatOk 104 [Sc.val .l (x0)] (tS_NatOk x0) :=
 fitK (by kernel_rfl)
def aS_RateOk:An:=⟨[],[],[]⟩
noncomputable def tS_RateOk (x0:ByteArray × ByteArray × Bool × SlV × Int × PUnit):T :=
 .call false 66 [.string (x0.1)] (.v (.o (.b))) fun y1 =>
 .br (y1) (
  .call false 66 [.string (x0.2.1)] (.v (.o (.b))) fun y2 =>
  .br (y2) (
   .br (!ByteArray.toList x0.1 == ByteArray.toList x0.2.1) (
    .call false 154 [Sh1.val (.g [.b,.l,.i .i64]) (x0.2.2)] (.v (.o (.b))) fun y3 =>
    .br (y3) (
     .call false 155 [Sh1.val (.g [.b,.l]) ((x0.2.2.1),x0.2.2.2.1,())] (.v (.o (.i .i64))) fun y4 =>
     .br (decide (y4 > (0:Int))) (
      .ret [.bool (decide ((↑x0.2.2.2.1.n:Int)≤(2:Int)))]) <|
     .ret [.bool (false)]) <|
    .ret [.bool (false)]) <|
   .ret [.bool (false)]) <|
  .ret [.bool (false)]) <|
 .ret [.bool (false)]
theorem fS_RateOk (x0:ByteArray × ByteArray × Bool × SlV × Int × PUnit):fits Tryz.prog aS_RateOk 105 [Sh1.val (.g [.s,.s,.b,.l,.i .i64]) (x0)] (tS_RateOk x0) :=
 fitK (by kernel_rfl)
def aS_l10At:An:=⟨[(2,[.s 11],[.o (.o (.i .i64))])],[],[]⟩
noncomputable def tS_l10At (x0:SlV) (x1:ByteArray) (x2:ByteArray):T :=
 .lp [.o (.o (.i .i64))] [.v (.int .i64 ((0:Int)))] fun y1 =>
 .br (decide (y1.1<(↑x0.n:Int))) (
  .el (x0.a) (x0.n) (y1.1) fun y2 =>
  .ld false (y2.add (Int.toNat y1.1*(5:Nat))) (.g [.s,.s,.b,.l,.i .i64]) fun y3 =>
  .br (ByteArray.toList y3.1 == x1.toList) (
   .br (ByteArray.toList y3.2.1 == x2.toList) (
    .ret [.int .i64 (y1.1)]) <|
   .nx 0 [.v (.int .i64 (IntKind.i64.wrap (y1.1+(1:Int))))]) <|
  .nx 0 [.v (.int .i64 (IntKind.i64.wrap (y1.1+(1:Int))))]) <|
 .ret [.int .i64 ((-1:Int))]
theorem fS_l10At (x0:SlV) (x1:ByteArray) (x2:ByteArray):fits Tryz.prog aS_l10At 106 [Sc.val .l (x0),.string (x1),.string (x2)] (tS_l10At x0 x1 x2) :=
 fitK (by kernel_rfl)
def aS_l01In:An:=⟨[],[],[]⟩
noncomputable def tS_l01In (x0:Int) (x1:Int) (x2:Int):T :=
 .br (decide (x0≥x1)) (
  .ret [.bool (decide (x0≤x2))]) <|
 .ret [.bool (false)]
theorem fS_l01In (x0:Int) (x1:Int) (x2:Int):fits Tryz.prog aS_l01In 107 [.int .i64 (x0),.int .i64 (x1),.int .i64 (x2)] (tS_l01In x0 x1 x2) :=
 fitK (by kernel_rfl)
def aS_RateOf:An:=⟨[],[],[]⟩
noncomputable def tS_RateOf (x0:ByteArray × SlV × PUnit) (x1:ByteArray) (x2:ByteArray):T :=
 .call false 36 [Sh1.val (.g [.s,.l]) (x0),.string (x1),.string (x2)] (.v (.o (.i .i64))) fun y1 =>
 .br (y1 == (1:Int)) (
  .call false 156 [.int .i64 ((1:Int))] (.v (.g [.b,.l])) fun y2 =>
  .call false 111 [Sh1.val (.g [.b,.l]) (y2)] (.t [(.g [.b,.l,.l]),(.o (.b))]) fun y3 =>
  .ret [Sh1.val (.g [.b,.l,.l]) (y3.1),.bool (y3.2.1)]) <|
 .br (y1 == (2:Int)) (
  .call false 157 [Sh1.val (.g [.s,.l]) (x0),.string (x1),.string (x2)] (.v (.g [.b,.l,.l])) fun y2 =>
  .ret [Sh1.val (.g [.b,.l,.l]) (y2),.bool (true)]) <|
 .br (y1 == (3:Int)) (
  .call false 157 [Sh1.val (.g [.s,.l]) (x0),.string (x1),.string (x2)] (.v (.g [.b,.l,.l])) fun y2 =>
  .ret [Sh1.val (.g [.b,.l,.l]) (y2),.bool (true)]) <|
 .br (y1 == (4:Int)) (
  .rg <|
  .call true 157 [Sh1.val (.g [.s,.l]) (x0),.string (x1),.string (x0.1)] (.v (.g [.b,.l,.l])) fun y2 =>
  .call true 157 [Sh1.val (.g [.s,.l]) (x0),.string (x0.1),.string (x2)] (.v (.g [.b,.l,.l])) fun y3 =>
  .call true 72 [Sh1.val (.g [.b,.l,.l]) (y2),Sh1.val (.g [.b,.l,.l]) (y3)] (.t [(.g [.b,.l,.l]),(.o (.b))]) fun y4 =>
  .ret [Sh1.val (.g [.b,.l,.l]) (y4.1),.bool (y4.2.1)]) <|
 .ret [Sh1.val (.g [.b,.l,.l]) ((false),nilS,nilS,()),.bool (false)]
theorem fS_RateOf (x0:ByteArray × SlV × PUnit) (x1:ByteArray) (x2:ByteArray):fits Tryz.prog aS_RateOf 108 [Sh1.val (.g [.s,.l]) (x0),.string (x1),.string (x2)] (tS_RateOf x0 x1 x2) :=
 fitK (by kernel_rfl)
def aS_RatDiv:An:=⟨[],[],[]⟩
noncomputable def tS_RatDiv (x0:Bool × SlV × SlV × PUnit) (x1:Bool × SlV × SlV × PUnit):T :=
 .call false 79 [Sh1.val (.g [.b,.l,.l]) (x0)] (.v (.o (.b))) fun y1 =>
 .br (!y1) (
  .ret [Sh1.val (.g [.b,.l,.l]) ((false),nilS,nilS,()),.bool (false)]) <|
 .call false 79 [Sh1.val (.g [.b,.l,.l]) (x1)] (.v (.o (.b))) fun y2 =>
 .br (!y2) (
  .ret [Sh1.val (.g [.b,.l,.l]) ((false),nilS,nilS,()),.bool (false)]) <|
 .rg <|
 .call true 81 [Sc.val .l (x0.2.1),Sc.val .l (x1.2.2.1)] (.v (.o (.l))) fun y3 =>
 .call true 81 [Sc.val .l (x0.2.2.1),Sc.val .l (x1.2.1)] (.v (.o (.l))) fun y4 =>
 .call true 83 [.bool (!x0.1 == x1.1),Sc.val .l (y3),Sc.val .l (y4)] (.t [(.g [.b,.l,.l]),(.o (.b))]) fun y5 =>
 .ret [Sh1.val (.g [.b,.l,.l]) (y5.1),.bool (y5.2.1)]
theorem fS_RatDiv (x0:Bool × SlV × SlV × PUnit) (x1:Bool × SlV × SlV × PUnit):fits Tryz.prog aS_RatDiv 109 [Sh1.val (.g [.b,.l,.l]) (x0),Sh1.val (.g [.b,.l,.l]) (x1)] (tS_RatDiv x0 x1) :=
 fitK (by kernel_rfl)
def aS_CurUnit:An:=⟨[],[],[]⟩
noncomputable def tS_CurUnit (x0:ByteArray):T :=
 .call false 66 [.string (x0)] (.v (.o (.b))) fun y1 =>
 .br (!y1) (
  .ret [Sh1.val (.g [.b,.l,.l]) ((false),nilS,nilS,())]) <|
 .call false 159 [.string (x0)] (.v (.o (.i .i64))) fun y2 =>
 .call false 158 [.int .i64 (y2)] (.v (.g [.b,.l])) fun y3 =>
 .fz ((1:Nat)) [.int .i64 ((1:Int))] 3 fun b4 c4 =>
 .ret [Sh1.val (.g [.b,.l,.l]) ((y3.1),y3.2.1,(⟨(some { block:=b4,off:=(0:Nat):Addr }),((1:Nat)),(c4)⟩:SlV),())]
theorem fS_CurUnit (x0:ByteArray):fits Tryz.prog aS_CurUnit 110 [.string (x0)] (tS_CurUnit x0) :=
 fitK (by kernel_rfl)
def aS_RatInt:An:=⟨[],[],[]⟩
noncomputable def tS_RatInt (x0:Bool × SlV × PUnit):T :=
 .rg <|
 .call true 156 [.int .i64 ((1:Int))] (.v (.g [.b,.l])) fun y1 =>
 .call true 160 [Sh1.val (.g [.b,.l]) (x0),Sh1.val (.g [.b,.l]) (y1)] (.t [(.g [.b,.l,.l]),(.o (.b))]) fun y2 =>
 .ret [Sh1.val (.g [.b,.l,.l]) (y2.1),.bool (y2.2.1)]
theorem fS_RatInt (x0:Bool × SlV × PUnit):fits Tryz.prog aS_RatInt 111 [Sh1.val (.g [.b,.l]) (x0)] (tS_RatInt x0) :=
 fitK (by kernel_rfl)
def aS_RatRound:An:=⟨[],[],[]⟩
noncomputable def tS_RatRound (x0:Bool × SlV × SlV × PUnit) (x1:Int):T :=
 .call false 79 [Sh1.val (.g [.b,.l,.l]) (x0)] (.v (.o (.b))) fun y1 =>
 .br (!y1) (
  .ret [Sh1.val (.g [.b,.l]) ((false),nilS,()),.bool (false)]) <|
 .call false 69 [.int .i64 (x1)] (.v (.o (.b))) fun y2 =>
 .br (!y2) (
  .ret [Sh1.val (.g [.b,.l]) ((false),nilS,()),.bool (false)]) <|
 .call false 161 [Sh1.val (.g [.b,.l,.l]) (x0),.int .i64 (x1)] (.v (.g [.b,.l])) fun y3 =>
 .ret [Sh1.val (.g [.b,.l]) (y3),.bool (true)]
theorem fS_RatRound (x0:Bool × SlV × SlV × PUnit) (x1:Int):fits Tryz.prog aS_RatRound 112 [Sh1.val (.g [.b,.l,.l]) (x0),.int .i64 (x1)] (tS_RatRound x0 x1) :=
 fitK (by kernel_rfl)
def aS_RatSub:An:=⟨[],[],[]⟩
noncomputable def tS_RatSub (x0:Bool × SlV × SlV × PUnit) (x1:Bool × SlV × SlV × PUnit):T :=
 .call false 162 [Sh1.val (.g [.b,.l,.l]) (x1)] (.t [(.g [.b,.l,.l]),(.o (.b))]) fun y1 =>
 .br (!y1.2.1) (
  .ret [Sh1.val (.g [.b,.l,.l]) ((false),nilS,nilS,()),.bool (false)]) <|
 .call false 50 [Sh1.val (.g [.b,.l,.l]) (x0),Sh1.val (.g [.b,.l,.l]) (y1.1)] (.t [(.g [.b,.l,.l]),(.o (.b))]) fun y2 =>
 .ret [Sh1.val (.g [.b,.l,.l]) (y2.1),.bool (y2.2.1)]
theorem fS_RatSub (x0:Bool × SlV × SlV × PUnit) (x1:Bool × SlV × SlV × PUnit):fits Tryz.prog aS_RatSub 113 [Sh1.val (.g [.b,.l,.l]) (x0),Sh1.val (.g [.b,.l,.l]) (x1)] (tS_RatSub x0 x1) :=
 fitK (by kernel_rfl)
def aL_toDec:An:=⟨[],[],[]⟩
noncomputable def tL_toDec (x0:Bool × SlV × Int × PUnit):T :=
 .call false 40 [Sh1.val (.g [.b,.l]) ((x0.1),x0.2.1,())] (.v (.g [.b,.l])) fun y1 =>
 .ret [Sh1.val (.g [.b,.l,.i .i64]) ((y1.1),y1.2.1,((x0.2.2.1):Int),())]
theorem fL_toDec (x0:Bool × SlV × Int × PUnit):fits Tryz.prog aL_toDec 114 [Sh1.val (.g [.b,.l,.i .i64]) (x0)] (tL_toDec x0) :=
 fitK (by kernel_rfl)
def aL_eqDec:An:=⟨[],[],[]⟩
noncomputable def tL_eqDec (x0:Bool × SlV × Int × PUnit) (x1:Bool × SlV × Int × PUnit):T :=
 .call false 41 [Sh1.val (.g [.b,.l]) ((x0.1),x0.2.1,()),Sh1.val (.g [.b,.l]) ((x1.1),x1.2.1,())] (.v (.o (.b))) fun y1 =>
 .br (!y1) (
  .ret [.bool (false)]) <|
 .br (x0.2.2.1 != x1.2.2.1) (
  .ret [.bool (false)]) <|
 .ret [.bool (true)]
theorem fL_eqDec (x0:Bool × SlV × Int × PUnit) (x1:Bool × SlV × Int × PUnit):fits Tryz.prog aL_eqDec 115 [Sh1.val (.g [.b,.l,.i .i64]) (x0),Sh1.val (.g [.b,.l,.i .i64]) (x1)] (tL_eqDec x0 x1) :=
 fitK (by kernel_rfl)
def aS_l02Cmp:An:=⟨[(6,[.s 5],[.o (.o (.i .i64))])],[],[]⟩
noncomputable def tS_l02Cmp (x0:SlV) (x1:SlV):T :=
 .br ((↑x0.n:Int) != (↑x1.n:Int)) (
  .br (decide ((↑x0.n:Int)<(↑x1.n:Int))) (
   .ret [.int .i64 ((-1:Int))]) <|
  .ret [.int .i64 ((1:Int))]) <|
 .lp [.o (.o (.i .i64))] [.v (.int .i64 (IntKind.i64.wrap ((↑x0.n:Int)-(1:Int))))] fun y1 =>
 .br (decide (y1.1≥(0:Int))) (
  .rg <|
  .el (x0.a) (x0.n) (y1.1) fun y2 =>
  .ld true (y2.add (Int.toNat y1.1*(1:Nat))) (.o (.i .i64)) fun y3 =>
  .el (x1.a) (x1.n) (y1.1) fun y4 =>
  .ld true (y4.add (Int.toNat y1.1*(1:Nat))) (.o (.i .i64)) fun y5 =>
  .br (decide (y3<y5)) (
   .ret [.int .i64 ((-1:Int))]) <|
  .rg <|
  .el (x0.a) (x0.n) (y1.1) fun y6 =>
  .ld true (y6.add (Int.toNat y1.1*(1:Nat))) (.o (.i .i64)) fun y7 =>
  .el (x1.a) (x1.n) (y1.1) fun y8 =>
  .ld true (y8.add (Int.toNat y1.1*(1:Nat))) (.o (.i .i64)) fun y9 =>
  .br (decide (y7 > y9)) (
   .ret [.int .i64 ((1:Int))]) <|
  .nx 0 [.v (.int .i64 (IntKind.i64.wrap (y1.1-(1:Int))))]) <|
 .ret [.int .i64 ((0:Int))]
theorem fS_l02Cmp (x0:SlV) (x1:SlV):fits Tryz.prog aS_l02Cmp 116 [Sc.val .l (x0),Sc.val .l (x1)] (tS_l02Cmp x0 x1) :=
 fitK (by kernel_rfl)
def aS_NatGcd:An:=⟨[(5,[.s 5,.s 6],[.o (.o (.l)),.o (.o (.l))])],[],[]⟩
noncomputable def tS_NatGcd (x0:SlV) (x1:SlV):T :=
 .call false 104 [Sc.val .l (x0)] (.v (.o (.b))) fun y1 =>
 .br (!y1) (
  .ret [.slice (none) ((0:Nat)) ((0:Nat))]) <|
 .call false 104 [Sc.val .l (x1)] (.v (.o (.b))) fun y2 =>
 .br (!y2) (
  .ret [.slice (none) ((0:Nat)) ((0:Nat))]) <|
 .rd ({ a:=x0.a,n:=x0.n,c:=x0.c:SlV }) ((1:Nat)) fun y3 =>
 .rq (one y3=true∧((0:Nat)+x0.n)*(8:Nat)≤(140737488355328:Nat)∧(0:Nat)+x0.n≤(9223372036854775807:Nat)) <|
 .rd ({ a:=x1.a,n:=x1.n,c:=x1.c:SlV }) ((1:Nat)) fun y4 =>
 .rq (one y4=true∧((0:Nat)+x1.n)*(8:Nat)≤(140737488355328:Nat)∧(0:Nat)+x1.n≤(9223372036854775807:Nat)) <|
 .fz ((0:Nat)+x0.n) ([]++y3) 3 fun b5 c5 =>
 .fz ((0:Nat)+x1.n) ([]++y4) 3 fun b6 c6 =>
 .lp [.o (.o (.l)),.o (.o (.l))] [.v (.slice (some { block:=b5,off:=(0:Nat):Addr }) ((0:Nat)+x0.n) (c5)),.v (.slice (some { block:=b6,off:=(0:Nat):Addr }) ((0:Nat)+x1.n) (c6))] fun y7 =>
 .br (decide ((↑y7.2.1.n:Int) > (0:Int))) (
  .call false 123 [Sc.val .l (y7.1),Sc.val .l (y7.2.1)] (.t [(.o (.l)),(.o (.l))]) fun y8 =>
  .nx 0 [.v (Sc.val .l (y7.2.1)),.v (Sc.val .l (y8.2.1))]) <|
 .ret [Sc.val .l (y7.1)]
theorem fS_NatGcd (x0:SlV) (x1:SlV):fits Tryz.prog aS_NatGcd 117 [Sc.val .l (x0),Sc.val .l (x1)] (tS_NatGcd x0 x1) :=
 fitK (by kernel_rfl)
def aS_l02Cap:An:=⟨[],[],[]⟩
noncomputable def tS_l02Cap (x0:SlV):T :=
 .call false 119 [Sc.val .l (x0)] (.v (.o (.l))) fun y1 =>
 .br (decide ((↑y1.n:Int) > (50:Int))) (
  .ret [.slice (none) ((0:Nat)) ((0:Nat))]) <|
 .ret [Sc.val .l (y1)]
theorem fS_l02Cap (x0:SlV):fits Tryz.prog aS_l02Cap 118 [Sc.val .l (x0)] (tS_l02Cap x0) :=
 fitK (by kernel_rfl)
def aS_l02Trim:An:=⟨[(2,[.s 3],[.o (.o (.i .i64))])],[],[]⟩
noncomputable def tS_l02Trim (x0:SlV):T :=
 .lp [.o (.o (.i .i64))] [.v (.int .i64 ((↑x0.n:Int)))] fun y1 =>
 .br (decide (y1.1 > (0:Int))) (
  .el (x0.a) (x0.n) (IntKind.i64.wrap (y1.1-(1:Int))) fun y2 =>
  .ld false (y2.add ((IntKind.i64.wrap (y1.1-(1:Int))).toNat*(1:Nat))) (.o (.i .i64)) fun y3 =>
  .br (y3 == (0:Int)) (
   .nx 0 [.v (.int .i64 (IntKind.i64.wrap (y1.1-(1:Int))))]) <|
  .rq ((0:Int)≤(0:Int)∧(0:Int)≤y1.1∧y1.1≤(↑x0.c:Int)∧(↑x0.c:Int)≤(↑x0.c:Int)) <|
  .ret [.slice (if (↑x0.c:Int).toNat=Int.toNat (0:Int) then x0.a else Option.map (fun x=>x.add (Int.toNat (0:Int)*Proofs.Tryz.prog.types[(3:Nat)].size)) x0.a) (Int.toNat y1.1-Int.toNat (0:Int)) ((↑x0.c:Int).toNat-Int.toNat (0:Int))]) <|
 .rq ((0:Int)≤(0:Int)∧(0:Int)≤y1.1∧y1.1≤(↑x0.c:Int)∧(↑x0.c:Int)≤(↑x0.c:Int)) <|
 .ret [.slice (if (↑x0.c:Int).toNat=Int.toNat (0:Int) then x0.a else Option.map (fun x=>x.add (Int.toNat (0:Int)*Proofs.Tryz.prog.types[(3:Nat)].size)) x0.a) (Int.toNat y1.1-Int.toNat (0:Int)) ((↑x0.c:Int).toNat-Int.toNat (0:Int))]
theorem fS_l02Trim (x0:SlV):fits Tryz.prog aS_l02Trim 119 [Sc.val .l (x0)] (tS_l02Trim x0) :=
 fitK (by kernel_rfl)
def aS_l02Add:An:=⟨[(4,[.s 5,.s 6,.s 7],[.a 3,.o (.o (.i .i64)),.o (.o (.i .i64))])],[],[]⟩
noncomputable def tS_l02Add (x0:SlV) (x1:SlV):T :=
 .lp [.a 3,.o (.o (.i .i64)),.o (.o (.i .i64))] [.a 3 ((0:Nat)) [],.v (.int .i64 ((0:Int))),.v (.int .i64 ((0:Int)))] fun y1 =>
 .br (decide (y1.2.2.1<(↑x0.n:Int))) (
  .br (decide (y1.2.2.1<(↑x0.n:Int))) (
   .el (x0.a) (x0.n) (y1.2.2.1) fun y2 =>
   .ld false (y2.add (Int.toNat y1.2.2.1*(1:Nat))) (.o (.i .i64)) fun y3 =>
   .br (decide (y1.2.2.1<(↑x1.n:Int))) (
    .el (x1.a) (x1.n) (y1.2.2.1) fun y4 =>
    .ld false (y4.add (Int.toNat y1.2.2.1*(1:Nat))) (.o (.i .i64)) fun y5 =>
    .rq ((1000000000:Int)≠(0:Int)) <|
    .rq ([Value.int IntKind.i64 ((IntKind.i64.wrap (IntKind.i64.wrap (y1.2.1+y3)+y5)).tmod (1000000000:Int))].length=(1:Nat)*(1:Nat)) <|
    .rq (one [Value.int IntKind.i64 ((IntKind.i64.wrap (IntKind.i64.wrap (y1.2.1+y3)+y5)).tmod (1000000000:Int))]=true∧(y1.1.1+(1:Nat))*(8:Nat)≤(140737488355328:Nat)∧y1.1.1+(1:Nat)≤(9223372036854775807:Nat)) <|
    .rq ((1000000000:Int)≠(0:Int)) <|
    .nx 0 [.a 3 (y1.1.1+(1:Nat)) (y1.1.2++[Value.int IntKind.i64 ((IntKind.i64.wrap (IntKind.i64.wrap (y1.2.1+y3)+y5)).tmod (1000000000:Int))]),.v (.int .i64 (IntKind.i64.wrap ((IntKind.i64.wrap (IntKind.i64.wrap (y1.2.1+y3)+y5)).tdiv (1000000000:Int)))),.v (.int .i64 (IntKind.i64.wrap (y1.2.2.1+(1:Int))))]) <|
   .rq ((1000000000:Int)≠(0:Int)) <|
   .rq ([Value.int IntKind.i64 ((IntKind.i64.wrap (y1.2.1+y3)).tmod (1000000000:Int))].length=(1:Nat)*(1:Nat)) <|
   .rq (one [Value.int IntKind.i64 ((IntKind.i64.wrap (y1.2.1+y3)).tmod (1000000000:Int))]=true∧(y1.1.1+(1:Nat))*(8:Nat)≤(140737488355328:Nat)∧y1.1.1+(1:Nat)≤(9223372036854775807:Nat)) <|
   .rq ((1000000000:Int)≠(0:Int)) <|
   .nx 0 [.a 3 (y1.1.1+(1:Nat)) (y1.1.2++[Value.int IntKind.i64 ((IntKind.i64.wrap (y1.2.1+y3)).tmod (1000000000:Int))]),.v (.int .i64 (IntKind.i64.wrap ((IntKind.i64.wrap (y1.2.1+y3)).tdiv (1000000000:Int)))),.v (.int .i64 (IntKind.i64.wrap (y1.2.2.1+(1:Int))))]) <|
  .br (decide (y1.2.2.1<(↑x1.n:Int))) (
   .el (x1.a) (x1.n) (y1.2.2.1) fun y2 =>
   .ld false (y2.add (Int.toNat y1.2.2.1*(1:Nat))) (.o (.i .i64)) fun y3 =>
   .rq ((1000000000:Int)≠(0:Int)) <|
   .rq ([Value.int IntKind.i64 ((IntKind.i64.wrap (y1.2.1+y3)).tmod (1000000000:Int))].length=(1:Nat)*(1:Nat)) <|
   .rq (one [Value.int IntKind.i64 ((IntKind.i64.wrap (y1.2.1+y3)).tmod (1000000000:Int))]=true∧(y1.1.1+(1:Nat))*(8:Nat)≤(140737488355328:Nat)∧y1.1.1+(1:Nat)≤(9223372036854775807:Nat)) <|
   .rq ((1000000000:Int)≠(0:Int)) <|
   .nx 0 [.a 3 (y1.1.1+(1:Nat)) (y1.1.2++[Value.int IntKind.i64 ((IntKind.i64.wrap (y1.2.1+y3)).tmod (1000000000:Int))]),.v (.int .i64 (IntKind.i64.wrap ((IntKind.i64.wrap (y1.2.1+y3)).tdiv (1000000000:Int)))),.v (.int .i64 (IntKind.i64.wrap (y1.2.2.1+(1:Int))))]) <|
  .rq ((1000000000:Int)≠(0:Int)) <|
  .rq ([Value.int IntKind.i64 (Int.tmod y1.2.1 (1000000000:Int))].length=(1:Nat)*(1:Nat)) <|
  .rq (one [Value.int IntKind.i64 (Int.tmod y1.2.1 (1000000000:Int))]=true∧(y1.1.1+(1:Nat))*(8:Nat)≤(140737488355328:Nat)∧y1.1.1+(1:Nat)≤(9223372036854775807:Nat)) <|
  .rq ((1000000000:Int)≠(0:Int)) <|
  .nx 0 [.a 3 (y1.1.1+(1:Nat)) (y1.1.2++[Value.int IntKind.i64 (Int.tmod y1.2.1 (1000000000:Int))]),.v (.int .i64 (IntKind.i64.wrap (Int.tdiv y1.2.1 (1000000000:Int)))),.v (.int .i64 (IntKind.i64.wrap (y1.2.2.1+(1:Int))))]) <|
 .br (decide (y1.2.2.1<(↑x1.n:Int))) (
  .br (decide (y1.2.2.1<(↑x0.n:Int))) (
   .el (x0.a) (x0.n) (y1.2.2.1) fun y2 =>
   .ld false (y2.add (Int.toNat y1.2.2.1*(1:Nat))) (.o (.i .i64)) fun y3 =>
   .br (decide (y1.2.2.1<(↑x1.n:Int))) (
    .el (x1.a) (x1.n) (y1.2.2.1) fun y4 =>
    .ld false (y4.add (Int.toNat y1.2.2.1*(1:Nat))) (.o (.i .i64)) fun y5 =>
    .rq ((1000000000:Int)≠(0:Int)) <|
    .rq ([Value.int IntKind.i64 ((IntKind.i64.wrap (IntKind.i64.wrap (y1.2.1+y3)+y5)).tmod (1000000000:Int))].length=(1:Nat)*(1:Nat)) <|
    .rq (one [Value.int IntKind.i64 ((IntKind.i64.wrap (IntKind.i64.wrap (y1.2.1+y3)+y5)).tmod (1000000000:Int))]=true∧(y1.1.1+(1:Nat))*(8:Nat)≤(140737488355328:Nat)∧y1.1.1+(1:Nat)≤(9223372036854775807:Nat)) <|
    .rq ((1000000000:Int)≠(0:Int)) <|
    .nx 0 [.a 3 (y1.1.1+(1:Nat)) (y1.1.2++[Value.int IntKind.i64 ((IntKind.i64.wrap (IntKind.i64.wrap (y1.2.1+y3)+y5)).tmod (1000000000:Int))]),.v (.int .i64 (IntKind.i64.wrap ((IntKind.i64.wrap (IntKind.i64.wrap (y1.2.1+y3)+y5)).tdiv (1000000000:Int)))),.v (.int .i64 (IntKind.i64.wrap (y1.2.2.1+(1:Int))))]) <|
   .rq ((1000000000:Int)≠(0:Int)) <|
   .rq ([Value.int IntKind.i64 ((IntKind.i64.wrap (y1.2.1+y3)).tmod (1000000000:Int))].length=(1:Nat)*(1:Nat)) <|
   .rq (one [Value.int IntKind.i64 ((IntKind.i64.wrap (y1.2.1+y3)).tmod (1000000000:Int))]=true∧(y1.1.1+(1:Nat))*(8:Nat)≤(140737488355328:Nat)∧y1.1.1+(1:Nat)≤(9223372036854775807:Nat)) <|
   .rq ((1000000000:Int)≠(0:Int)) <|
   .nx 0 [.a 3 (y1.1.1+(1:Nat)) (y1.1.2++[Value.int IntKind.i64 ((IntKind.i64.wrap (y1.2.1+y3)).tmod (1000000000:Int))]),.v (.int .i64 (IntKind.i64.wrap ((IntKind.i64.wrap (y1.2.1+y3)).tdiv (1000000000:Int)))),.v (.int .i64 (IntKind.i64.wrap (y1.2.2.1+(1:Int))))]) <|
  .br (decide (y1.2.2.1<(↑x1.n:Int))) (
   .el (x1.a) (x1.n) (y1.2.2.1) fun y2 =>
   .ld false (y2.add (Int.toNat y1.2.2.1*(1:Nat))) (.o (.i .i64)) fun y3 =>
   .rq ((1000000000:Int)≠(0:Int)) <|
   .rq ([Value.int IntKind.i64 ((IntKind.i64.wrap (y1.2.1+y3)).tmod (1000000000:Int))].length=(1:Nat)*(1:Nat)) <|
   .rq (one [Value.int IntKind.i64 ((IntKind.i64.wrap (y1.2.1+y3)).tmod (1000000000:Int))]=true∧(y1.1.1+(1:Nat))*(8:Nat)≤(140737488355328:Nat)∧y1.1.1+(1:Nat)≤(9223372036854775807:Nat)) <|
   .rq ((1000000000:Int)≠(0:Int)) <|
   .nx 0 [.a 3 (y1.1.1+(1:Nat)) (y1.1.2++[Value.int IntKind.i64 ((IntKind.i64.wrap (y1.2.1+y3)).tmod (1000000000:Int))]),.v (.int .i64 (IntKind.i64.wrap ((IntKind.i64.wrap (y1.2.1+y3)).tdiv (1000000000:Int)))),.v (.int .i64 (IntKind.i64.wrap (y1.2.2.1+(1:Int))))]) <|
  .rq ((1000000000:Int)≠(0:Int)) <|
  .rq ([Value.int IntKind.i64 (Int.tmod y1.2.1 (1000000000:Int))].length=(1:Nat)*(1:Nat)) <|
  .rq (one [Value.int IntKind.i64 (Int.tmod y1.2.1 (1000000000:Int))]=true∧(y1.1.1+(1:Nat))*(8:Nat)≤(140737488355328:Nat)∧y1.1.1+(1:Nat)≤(9223372036854775807:Nat)) <|
  .rq ((1000000000:Int)≠(0:Int)) <|
  .nx 0 [.a 3 (y1.1.1+(1:Nat)) (y1.1.2++[Value.int IntKind.i64 (Int.tmod y1.2.1 (1000000000:Int))]),.v (.int .i64 (IntKind.i64.wrap (Int.tdiv y1.2.1 (1000000000:Int)))),.v (.int .i64 (IntKind.i64.wrap (y1.2.2.1+(1:Int))))]) <|
 .br (decide (y1.2.1 > (0:Int))) (
  .br (decide (y1.2.2.1<(↑x0.n:Int))) (
   .el (x0.a) (x0.n) (y1.2.2.1) fun y2 =>
   .ld false (y2.add (Int.toNat y1.2.2.1*(1:Nat))) (.o (.i .i64)) fun y3 =>
   .br (decide (y1.2.2.1<(↑x1.n:Int))) (
    .el (x1.a) (x1.n) (y1.2.2.1) fun y4 =>
    .ld false (y4.add (Int.toNat y1.2.2.1*(1:Nat))) (.o (.i .i64)) fun y5 =>
    .rq ((1000000000:Int)≠(0:Int)) <|
    .rq ([Value.int IntKind.i64 ((IntKind.i64.wrap (IntKind.i64.wrap (y1.2.1+y3)+y5)).tmod (1000000000:Int))].length=(1:Nat)*(1:Nat)) <|
    .rq (one [Value.int IntKind.i64 ((IntKind.i64.wrap (IntKind.i64.wrap (y1.2.1+y3)+y5)).tmod (1000000000:Int))]=true∧(y1.1.1+(1:Nat))*(8:Nat)≤(140737488355328:Nat)∧y1.1.1+(1:Nat)≤(9223372036854775807:Nat)) <|
    .rq ((1000000000:Int)≠(0:Int)) <|
    .nx 0 [.a 3 (y1.1.1+(1:Nat)) (y1.1.2++[Value.int IntKind.i64 ((IntKind.i64.wrap (IntKind.i64.wrap (y1.2.1+y3)+y5)).tmod (1000000000:Int))]),.v (.int .i64 (IntKind.i64.wrap ((IntKind.i64.wrap (IntKind.i64.wrap (y1.2.1+y3)+y5)).tdiv (1000000000:Int)))),.v (.int .i64 (IntKind.i64.wrap (y1.2.2.1+(1:Int))))]) <|
   .rq ((1000000000:Int)≠(0:Int)) <|
   .rq ([Value.int IntKind.i64 ((IntKind.i64.wrap (y1.2.1+y3)).tmod (1000000000:Int))].length=(1:Nat)*(1:Nat)) <|
   .rq (one [Value.int IntKind.i64 ((IntKind.i64.wrap (y1.2.1+y3)).tmod (1000000000:Int))]=true∧(y1.1.1+(1:Nat))*(8:Nat)≤(140737488355328:Nat)∧y1.1.1+(1:Nat)≤(9223372036854775807:Nat)) <|
   .rq ((1000000000:Int)≠(0:Int)) <|
   .nx 0 [.a 3 (y1.1.1+(1:Nat)) (y1.1.2++[Value.int IntKind.i64 ((IntKind.i64.wrap (y1.2.1+y3)).tmod (1000000000:Int))]),.v (.int .i64 (IntKind.i64.wrap ((IntKind.i64.wrap (y1.2.1+y3)).tdiv (1000000000:Int)))),.v (.int .i64 (IntKind.i64.wrap (y1.2.2.1+(1:Int))))]) <|
  .br (decide (y1.2.2.1<(↑x1.n:Int))) (
   .el (x1.a) (x1.n) (y1.2.2.1) fun y2 =>
   .ld false (y2.add (Int.toNat y1.2.2.1*(1:Nat))) (.o (.i .i64)) fun y3 =>
   .rq ((1000000000:Int)≠(0:Int)) <|
   .rq ([Value.int IntKind.i64 ((IntKind.i64.wrap (y1.2.1+y3)).tmod (1000000000:Int))].length=(1:Nat)*(1:Nat)) <|
   .rq (one [Value.int IntKind.i64 ((IntKind.i64.wrap (y1.2.1+y3)).tmod (1000000000:Int))]=true∧(y1.1.1+(1:Nat))*(8:Nat)≤(140737488355328:Nat)∧y1.1.1+(1:Nat)≤(9223372036854775807:Nat)) <|
   .rq ((1000000000:Int)≠(0:Int)) <|
   .nx 0 [.a 3 (y1.1.1+(1:Nat)) (y1.1.2++[Value.int IntKind.i64 ((IntKind.i64.wrap (y1.2.1+y3)).tmod (1000000000:Int))]),.v (.int .i64 (IntKind.i64.wrap ((IntKind.i64.wrap (y1.2.1+y3)).tdiv (1000000000:Int)))),.v (.int .i64 (IntKind.i64.wrap (y1.2.2.1+(1:Int))))]) <|
  .rq ((1000000000:Int)≠(0:Int)) <|
  .rq ([Value.int IntKind.i64 (Int.tmod y1.2.1 (1000000000:Int))].length=(1:Nat)*(1:Nat)) <|
  .rq (one [Value.int IntKind.i64 (Int.tmod y1.2.1 (1000000000:Int))]=true∧(y1.1.1+(1:Nat))*(8:Nat)≤(140737488355328:Nat)∧y1.1.1+(1:Nat)≤(9223372036854775807:Nat)) <|
  .rq ((1000000000:Int)≠(0:Int)) <|
  .nx 0 [.a 3 (y1.1.1+(1:Nat)) (y1.1.2++[Value.int IntKind.i64 (Int.tmod y1.2.1 (1000000000:Int))]),.v (.int .i64 (IntKind.i64.wrap (Int.tdiv y1.2.1 (1000000000:Int)))),.v (.int .i64 (IntKind.i64.wrap (y1.2.2.1+(1:Int))))]) <|
 .fz (y1.1.1) (y1.1.2) 3 fun b2 c2 =>
 .ret [.slice (some { block:=b2,off:=(0:Nat):Addr }) (y1.1.1) (c2)]
theorem fS_l02Add (x0:SlV) (x1:SlV):fits Tryz.prog aS_l02Add 120 [Sc.val .l (x0),Sc.val .l (x1)] (tS_l02Add x0 x1) :=
 fitK (by kernel_rfl)
def aS_l02Sub:An:=⟨[(4,[.s 5,.s 6,.s 12],[.a 3,.o (.o (.i .i64)),.o (.o (.i .i64))])],[],[]⟩
noncomputable def tS_l02Sub (x0:SlV) (x1:SlV):T :=
 .lp [.a 3,.o (.o (.i .i64)),.o (.o (.i .i64))] [.a 3 ((0:Nat)) [],.v (.int .i64 ((0:Int))),.v (.int .i64 ((0:Int)))] fun y1 =>
 .br (decide (y1.2.2.1<(↑x0.n:Int))) (
  .el (x0.a) (x0.n) (y1.2.2.1) fun y2 =>
  .ld false (y2.add (Int.toNat y1.2.2.1*(1:Nat))) (.o (.i .i64)) fun y3 =>
  .br (decide (y1.2.2.1<(↑x1.n:Int))) (
   .el (x1.a) (x1.n) (y1.2.2.1) fun y4 =>
   .ld false (y4.add (Int.toNat y1.2.2.1*(1:Nat))) (.o (.i .i64)) fun y5 =>
   .br (decide (IntKind.i64.wrap (IntKind.i64.wrap (y3-y1.2.1)-y5)<(0:Int))) (
    .rq ([Value.int IntKind.i64 (IntKind.i64.wrap (IntKind.i64.wrap (IntKind.i64.wrap (y3-y1.2.1)-y5)+(1000000000:Int)))].length=(1:Nat)*(1:Nat)) <|
    .rq (one [Value.int IntKind.i64 (IntKind.i64.wrap (IntKind.i64.wrap (IntKind.i64.wrap (y3-y1.2.1)-y5)+(1000000000:Int)))]=true∧(y1.1.1+(1:Nat))*(8:Nat)≤(140737488355328:Nat)∧y1.1.1+(1:Nat)≤(9223372036854775807:Nat)) <|
    .nx 0 [.a 3 (y1.1.1+(1:Nat)) (y1.1.2++[Value.int IntKind.i64 (IntKind.i64.wrap (IntKind.i64.wrap (IntKind.i64.wrap (y3-y1.2.1)-y5)+(1000000000:Int)))]),.v (.int .i64 ((1:Int))),.v (.int .i64 (IntKind.i64.wrap (y1.2.2.1+(1:Int))))]) <|
   .rq ([Value.int IntKind.i64 (IntKind.i64.wrap (IntKind.i64.wrap (y3-y1.2.1)-y5))].length=(1:Nat)*(1:Nat)) <|
   .rq (one [Value.int IntKind.i64 (IntKind.i64.wrap (IntKind.i64.wrap (y3-y1.2.1)-y5))]=true∧(y1.1.1+(1:Nat))*(8:Nat)≤(140737488355328:Nat)∧y1.1.1+(1:Nat)≤(9223372036854775807:Nat)) <|
   .nx 0 [.a 3 (y1.1.1+(1:Nat)) (y1.1.2++[Value.int IntKind.i64 (IntKind.i64.wrap (IntKind.i64.wrap (y3-y1.2.1)-y5))]),.v (.int .i64 ((0:Int))),.v (.int .i64 (IntKind.i64.wrap (y1.2.2.1+(1:Int))))]) <|
  .br (decide (IntKind.i64.wrap (y3-y1.2.1)<(0:Int))) (
   .rq ([Value.int IntKind.i64 (IntKind.i64.wrap (IntKind.i64.wrap (y3-y1.2.1)+(1000000000:Int)))].length=(1:Nat)*(1:Nat)) <|
   .rq (one [Value.int IntKind.i64 (IntKind.i64.wrap (IntKind.i64.wrap (y3-y1.2.1)+(1000000000:Int)))]=true∧(y1.1.1+(1:Nat))*(8:Nat)≤(140737488355328:Nat)∧y1.1.1+(1:Nat)≤(9223372036854775807:Nat)) <|
   .nx 0 [.a 3 (y1.1.1+(1:Nat)) (y1.1.2++[Value.int IntKind.i64 (IntKind.i64.wrap (IntKind.i64.wrap (y3-y1.2.1)+(1000000000:Int)))]),.v (.int .i64 ((1:Int))),.v (.int .i64 (IntKind.i64.wrap (y1.2.2.1+(1:Int))))]) <|
  .rq ([Value.int IntKind.i64 (IntKind.i64.wrap (y3-y1.2.1))].length=(1:Nat)*(1:Nat)) <|
  .rq (one [Value.int IntKind.i64 (IntKind.i64.wrap (y3-y1.2.1))]=true∧(y1.1.1+(1:Nat))*(8:Nat)≤(140737488355328:Nat)∧y1.1.1+(1:Nat)≤(9223372036854775807:Nat)) <|
  .nx 0 [.a 3 (y1.1.1+(1:Nat)) (y1.1.2++[Value.int IntKind.i64 (IntKind.i64.wrap (y3-y1.2.1))]),.v (.int .i64 ((0:Int))),.v (.int .i64 (IntKind.i64.wrap (y1.2.2.1+(1:Int))))]) <|
 .fz (y1.1.1) (y1.1.2) 3 fun b2 c2 =>
 .call false 119 [.slice (some { block:=b2,off:=(0:Nat):Addr }) (y1.1.1) (c2)] (.v (.o (.l))) fun y3 =>
 .ret [Sc.val .l (y3)]
theorem fS_l02Sub (x0:SlV) (x1:SlV):fits Tryz.prog aS_l02Sub 121 [Sc.val .l (x0),Sc.val .l (x1)] (tS_l02Sub x0 x1) :=
 fitK (by kernel_rfl)
def aS_l05Gcd:An:=⟨[(3,[.s 5,.s 6],[.o (.o (.l)),.o (.o (.l))])],[],[]⟩
noncomputable def tS_l05Gcd (x0:SlV) (x1:SlV):T :=
 .lp [.o (.o (.l)),.o (.o (.l))] [.v (Sc.val .l (x0)),.v (Sc.val .l (x1))] fun y1 =>
 .br (decide ((↑y1.2.1.n:Int) > (0:Int))) (
  .call false 123 [Sc.val .l (y1.1),Sc.val .l (y1.2.1)] (.t [(.o (.l)),(.o (.l))]) fun y2 =>
  .nx 0 [.v (Sc.val .l (y1.2.1)),.v (Sc.val .l (y2.2.1))]) <|
 .ret [Sc.val .l (y1.1)]
theorem fS_l05Gcd (x0:SlV) (x1:SlV):fits Tryz.prog aS_l05Gcd 122 [Sc.val .l (x0),Sc.val .l (x1)] (tS_l05Gcd x0 x1) :=
 fitK (by kernel_rfl)
def aS_l03Div:An:=⟨[(7,[.s 8,.s 9,.s 10],[.a 3,.o (.o (.l)),.o (.o (.i .i64))])],[],[]⟩
noncomputable def tS_l03Div (x0:SlV) (x1:SlV):T :=
 .br ((↑x1.n:Int) == (1:Int)) (
  .el (x1.a) (x1.n) ((0:Int)) fun y1 =>
  .ld false (y1.add (Int.toNat (0:Int)*(1:Nat))) (.o (.i .i64)) fun y2 =>
  .call false 163 [Sc.val .l (x0),.int .i64 (y2)] (.t [(.o (.l)),(.o (.i .i64))]) fun y3 =>
  .call false 164 [.int .i64 (y3.2.1)] (.v (.o (.l))) fun y4 =>
  .ret [Sc.val .l (y3.1),Sc.val .l (y4)]) <|
 .rq ((0:Int)≤(↑x0.n:Int)∧(↑x0.n:Int)≤(↑x0.n:Int)∧(↑(8:Nat):Int)*(↑x0.n:Int)≤(281474976710656:Int)∧(↑x0.n:Int)≤(9223372036854775807:Int)) <|
 .fz ((0:Nat)) [] 3 fun b1 c1 =>
 .lp [.a 3,.o (.o (.l)),.o (.o (.i .i64))] [.a 3 ((↑x0.n:Int).toNat) ((madeCells { toList:=[Value.int IntKind.i64 (0:Int)]:Array Value } ((↑x0.n:Int).toNat*(1:Nat))).toList),.v (.slice (some { block:=b1,off:=(0:Nat):Addr }) ((0:Nat)) (c1)),.v (.int .i64 (IntKind.i64.wrap ((↑x0.n:Int)-(1:Int))))] fun y2 =>
 .br (decide (y2.2.2.1≥(0:Int))) (
  .el (x0.a) (x0.n) (y2.2.2.1) fun y3 =>
  .ld false (y3.add (Int.toNat y2.2.2.1*(1:Nat))) (.o (.i .i64)) fun y4 =>
  .rd ({ a:=y2.2.1.a,n:=y2.2.1.n,c:=y2.2.1.c:SlV }) ((1:Nat)) fun y5 =>
  .rq (one y5=true∧((1:Nat)+y2.2.1.n)*(8:Nat)≤(140737488355328:Nat)∧(1:Nat)+y2.2.1.n≤(9223372036854775807:Nat)) <|
  .fz ((1:Nat)+y2.2.1.n) ([(Sh1.o (Sc.i IntKind.i64)).val y4]++y5) 3 fun b6 c6 =>
  .call false 119 [.slice (some { block:=b6,off:=(0:Nat):Addr }) ((1:Nat)+y2.2.1.n) (c6)] (.v (.o (.l))) fun y7 =>
  .call false 116 [Sc.val .l (y7),Sc.val .l (x1)] (.v (.o (.i .i64))) fun y8 =>
  .br (decide (y8<(0:Int))) (
   .nx 0 [.a 3 (y2.1.1) (y2.1.2),.v (Sc.val .l (y7)),.v (.int .i64 (IntKind.i64.wrap (y2.2.2.1-(1:Int))))]) <|
  .call false 165 [Sc.val .l (y7),Sc.val .l (x1)] (.v (.o (.i .i64))) fun y9 =>
  .rq ((0:Int)≤y2.2.2.1∧y2.2.2.1<(↑y2.1.1:Int)) <|
  .rq (Int.toNat y2.2.2.1*(1:Nat)+[(Sh1.o (Sc.i IntKind.i64)).val y9].length≤y2.1.2.length) <|
  .call false 164 [.int .i64 (y9)] (.v (.o (.l))) fun y10 =>
  .call false 81 [Sc.val .l (x1),Sc.val .l (y10)] (.v (.o (.l))) fun y11 =>
  .call false 121 [Sc.val .l (y7),Sc.val .l (y11)] (.v (.o (.l))) fun y12 =>
  .nx 0 [.a 3 (y2.1.1) (setl y2.1.2 (Int.toNat y2.2.2.1*(1:Nat)) [(Sh1.o (Sc.i IntKind.i64)).val y9]),.v (Sc.val .l (y12)),.v (.int .i64 (IntKind.i64.wrap (y2.2.2.1-(1:Int))))]) <|
 .fz (y2.1.1) (y2.1.2) 3 fun b3 c3 =>
 .call false 119 [.slice (some { block:=b3,off:=(0:Nat):Addr }) (y2.1.1) (c3)] (.v (.o (.l))) fun y4 =>
 .ret [Sc.val .l (y4),Sc.val .l (y2.2.1)]
theorem fS_l03Div (x0:SlV) (x1:SlV):fits Tryz.prog aS_l03Div 123 [Sc.val .l (x0),Sc.val .l (x1)] (tS_l03Div x0 x1) :=
 fitK (by kernel_rfl)
def aI_CurKnown:An:=⟨[],[],[]⟩
noncomputable def tI_CurKnown (x0:ByteArray):T :=
 .call false 166 [.string (x0)] (.t [(.g [.s,.s,.i .i64,.i .i64]),(.o (.b))]) fun y1 =>
 .ret [.bool (y1.2.1)]
theorem fI_CurKnown (x0:ByteArray):fits Tryz.prog aI_CurKnown 124 [.string (x0)] (tI_CurKnown x0) :=
 fitK (by kernel_rfl)
def aI_isMode:An:=⟨[],[],[]⟩
noncomputable def tI_isMode (x0:Int):T :=
 .br (decide (x0≥(0:Int))) (
  .ret [.bool (decide (x0≤(6:Int)))]) <|
 .ret [.bool (false)]
theorem fI_isMode (x0:Int):fits Tryz.prog aI_isMode 125 [.int .i64 (x0)] (tI_isMode x0) :=
 fitK (by kernel_rfl)
def aI_MoneyOk:An:=⟨[],[],[]⟩
noncomputable def tI_MoneyOk (x0:ByteArray × Bool × SlV × PUnit):T :=
 .call false 124 [.string (x0.1)] (.v (.o (.b))) fun y1 =>
 .br (y1) (
  .call false 167 [Sh1.val (.g [.b,.l]) (x0.2)] (.v (.o (.b))) fun y2 =>
  .br (y2) (
   .ret [.bool (decide ((↑x0.2.2.1.n:Int)≤(4:Int)))]) <|
  .ret [.bool (false)]) <|
 .ret [.bool (false)]
theorem fI_MoneyOk (x0:ByteArray × Bool × SlV × PUnit):fits Tryz.prog aI_MoneyOk 126 [Sh1.val (.g [.s,.b,.l]) (x0)] (tI_MoneyOk x0) :=
 fitK (by kernel_rfl)
def aI_RateHow:An:=⟨[],[],[]⟩
noncomputable def tI_RateHow (x0:ByteArray × SlV × PUnit) (x1:ByteArray) (x2:ByteArray):T :=
 .call false 98 [Sh1.val (.g [.s,.l]) (x0)] (.v (.o (.b))) fun y1 =>
 .br (!y1) (
  .ret [.int .i64 ((0:Int))]) <|
 .call false 124 [.string (x1)] (.v (.o (.b))) fun y2 =>
 .br (!y2) (
  .ret [.int .i64 ((0:Int))]) <|
 .call false 124 [.string (x2)] (.v (.o (.b))) fun y3 =>
 .br (!y3) (
  .ret [.int .i64 ((0:Int))]) <|
 .br (x1.toList == x2.toList) (
  .ret [.int .i64 ((1:Int))]) <|
 .call false 168 [Sh1.val (.g [.s,.l]) (x0),.string (x1),.string (x2)] (.v (.o (.i .i64))) fun y4 =>
 .br (y4 != (0:Int)) (
  .call false 168 [Sh1.val (.g [.s,.l]) (x0),.string (x1),.string (x2)] (.v (.o (.i .i64))) fun y5 =>
  .ret [.int .i64 (y5)]) <|
 .br (!x1.toList == ByteArray.toList x0.1) (
  .br (!x2.toList == ByteArray.toList x0.1) (
   .call false 168 [Sh1.val (.g [.s,.l]) (x0),.string (x1),.string (x0.1)] (.v (.o (.i .i64))) fun y5 =>
   .br (y5 != (0:Int)) (
    .call false 168 [Sh1.val (.g [.s,.l]) (x0),.string (x0.1),.string (x2)] (.v (.o (.i .i64))) fun y6 =>
    .br (y6 != (0:Int)) (
     .ret [.int .i64 ((4:Int))]) <|
    .ret [.int .i64 ((0:Int))]) <|
   .ret [.int .i64 ((0:Int))]) <|
  .ret [.int .i64 ((0:Int))]) <|
 .ret [.int .i64 ((0:Int))]
theorem fI_RateHow (x0:ByteArray × SlV × PUnit) (x1:ByteArray) (x2:ByteArray):fits Tryz.prog aI_RateHow 127 [Sh1.val (.g [.s,.l]) (x0),.string (x1),.string (x2)] (tI_RateHow x0 x1 x2) :=
 fitK (by kernel_rfl)
def aI_UnitRate:An:=⟨[],[],[]⟩
noncomputable def tI_UnitRate (x0:ByteArray × SlV × PUnit) (x1:ByteArray) (x2:ByteArray):T :=
 .call false 169 [Sh1.val (.g [.s,.l]) (x0),.string (x1),.string (x2)] (.t [(.g [.b,.l,.l]),(.o (.b))]) fun y1 =>
 .br (!y1.2.1) (
  .ret [Sh1.val (.g [.b,.l,.l]) ((false),nilS,nilS,()),.bool (false)]) <|
 .rg <|
 .call true 171 [.string (x2)] (.v (.o (.i .i64))) fun y2 =>
 .call true 170 [.int .i64 (y2)] (.v (.o (.l))) fun y3 =>
 .call true 135 [Sc.val .l (y1.1.2.1),Sc.val .l (y3)] (.v (.o (.l))) fun y4 =>
 .rg <|
 .call true 172 [.bool (y1.1.1),Sc.val .l (y4)] (.v (.g [.b,.l])) fun y5 =>
 .call true 171 [.string (x1)] (.v (.o (.i .i64))) fun y6 =>
 .call true 170 [.int .i64 (y6)] (.v (.o (.l))) fun y7 =>
 .call true 135 [Sc.val .l (y1.1.2.2.1),Sc.val .l (y7)] (.v (.o (.l))) fun y8 =>
 .call true 133 [Sh1.val (.g [.b,.l]) (y5),Sc.val .l (y8)] (.t [(.g [.b,.l,.l]),(.o (.b))]) fun y9 =>
 .ret [Sh1.val (.g [.b,.l,.l]) (y9.1),.bool (y9.2.1)]
theorem fI_UnitRate (x0:ByteArray × SlV × PUnit) (x1:ByteArray) (x2:ByteArray):fits Tryz.prog aI_UnitRate 128 [Sh1.val (.g [.s,.l]) (x0),.string (x1),.string (x2)] (tI_UnitRate x0 x1 x2) :=
 fitK (by kernel_rfl)
def aI_RatMul:An:=⟨[],[],[]⟩
noncomputable def tI_RatMul (x0:Bool × SlV × SlV × PUnit) (x1:Bool × SlV × SlV × PUnit):T :=
 .call false 131 [Sh1.val (.g [.b,.l,.l]) (x0),Sh1.val (.g [.b,.l,.l]) (x1)] (.v (.o (.b))) fun y1 =>
 .br (!y1) (
  .ret [Sh1.val (.g [.b,.l,.l]) ((false),nilS,nilS,()),.bool (false)]) <|
 .rg <|
 .call true 173 [Sh1.val (.g [.b,.l]) ((x0.1),x0.2.1,()),Sh1.val (.g [.b,.l]) ((x1.1),x1.2.1,())] (.v (.g [.b,.l])) fun y2 =>
 .call true 135 [Sc.val .l (x0.2.2.1),Sc.val .l (x1.2.2.1)] (.v (.o (.l))) fun y3 =>
 .call true 133 [Sh1.val (.g [.b,.l]) (y2),Sc.val .l (y3)] (.t [(.g [.b,.l,.l]),(.o (.b))]) fun y4 =>
 .ret [Sh1.val (.g [.b,.l,.l]) (y4.1),.bool (y4.2.1)]
theorem fI_RatMul (x0:Bool × SlV × SlV × PUnit) (x1:Bool × SlV × SlV × PUnit):fits Tryz.prog aI_RatMul 129 [Sh1.val (.g [.b,.l,.l]) (x0),Sh1.val (.g [.b,.l,.l]) (x1)] (tI_RatMul x0 x1) :=
 fitK (by kernel_rfl)
def aI_MoneyRat:An:=⟨[],[],[]⟩
noncomputable def tI_MoneyRat (x0:ByteArray × Bool × SlV × PUnit):T :=
 .call false 126 [Sh1.val (.g [.s,.b,.l]) (x0)] (.v (.o (.b))) fun y1 =>
 .br (!y1) (
  .ret [Sh1.val (.g [.b,.l,.l]) ((false),nilS,nilS,())]) <|
 .call false 174 [Sh1.val (.g [.b,.l]) (x0.2)] (.v (.g [.b,.l])) fun y2 =>
 .fz ((1:Nat)) [.int .i64 ((1:Int))] 3 fun b3 c3 =>
 .ret [Sh1.val (.g [.b,.l,.l]) ((y2.1),y2.2.1,(⟨(some { block:=b3,off:=(0:Nat):Addr }),((1:Nat)),(c3)⟩:SlV),())]
theorem fI_MoneyRat (x0:ByteArray × Bool × SlV × PUnit):fits Tryz.prog aI_MoneyRat 130 [Sh1.val (.g [.s,.b,.l]) (x0)] (tI_MoneyRat x0) :=
 fitK (by kernel_rfl)
def aI_ratsOk:An:=⟨[],[],[]⟩
noncomputable def tI_ratsOk (x0:Bool × SlV × SlV × PUnit) (x1:Bool × SlV × SlV × PUnit):T :=
 .call false 149 [Sh1.val (.g [.b,.l,.l]) (x0)] (.v (.o (.b))) fun y1 =>
 .br (y1) (
  .call false 149 [Sh1.val (.g [.b,.l,.l]) (x1)] (.v (.o (.b))) fun y2 =>
  .ret [.bool (y2)]) <|
 .ret [.bool (false)]
theorem fI_ratsOk (x0:Bool × SlV × SlV × PUnit) (x1:Bool × SlV × SlV × PUnit):fits Tryz.prog aI_ratsOk 131 [Sh1.val (.g [.b,.l,.l]) (x0),Sh1.val (.g [.b,.l,.l]) (x1)] (tI_ratsOk x0 x1) :=
 fitK (by kernel_rfl)
def aI_Rat__num:An:=⟨[],[],[]⟩
noncomputable def tI_Rat__num (x0:Bool × SlV × SlV × PUnit) (x1:SlV):T :=
 .rg <|
 .call true 135 [Sc.val .l (x0.2.1),Sc.val .l (x1)] (.v (.o (.l))) fun y1 =>
 .call true 172 [.bool (x0.1),Sc.val .l (y1)] (.v (.g [.b,.l])) fun y2 =>
 .ret [Sh1.val (.g [.b,.l]) (y2)]
theorem fI_Rat__num (x0:Bool × SlV × SlV × PUnit) (x1:SlV):fits Tryz.prog aI_Rat__num 132 [Sh1.val (.g [.b,.l,.l]) (x0),Sc.val .l (x1)] (tI_Rat__num x0 x1) :=
 fitK (by kernel_rfl)
def aI_reduce:An:=⟨[],[],[]⟩
noncomputable def tI_reduce (x0:Bool × SlV × PUnit) (x1:SlV):T :=
 .call false 175 [Sc.val .l (x0.2.1),Sc.val .l (x1)] (.v (.o (.l))) fun y1 =>
 .call false 176 [Sc.val .l (x0.2.1),Sc.val .l (y1)] (.t [(.o (.l)),(.o (.l))]) fun y2 =>
 .call false 176 [Sc.val .l (x1),Sc.val .l (y1)] (.t [(.o (.l)),(.o (.l))]) fun y3 =>
 .br (decide ((↑y2.1.n:Int) > (18:Int))) (
  .ret [Sh1.val (.g [.b,.l,.l]) ((false),nilS,nilS,()),.bool (false)]) <|
 .br (decide ((↑y3.1.n:Int) > (18:Int))) (
  .ret [Sh1.val (.g [.b,.l,.l]) ((false),nilS,nilS,()),.bool (false)]) <|
 .call false 172 [.bool (x0.1),Sc.val .l (y2.1)] (.v (.g [.b,.l])) fun y4 =>
 .ret [Sh1.val (.g [.b,.l,.l]) ((y4.1),y4.2.1,y3.1,()),.bool (true)]
theorem fI_reduce (x0:Bool × SlV × PUnit) (x1:SlV):fits Tryz.prog aI_reduce 133 [Sh1.val (.g [.b,.l]) (x0),Sc.val .l (x1)] (tI_reduce x0 x1) :=
 fitK (by kernel_rfl)
def aI_intAdd:An:=⟨[],[],[]⟩
noncomputable def tI_intAdd (x0:Bool × SlV × PUnit) (x1:Bool × SlV × PUnit):T :=
 .br (x0.1 == x1.1) (
  .rg <|
  .call true 177 [Sc.val .l (x0.2.1),Sc.val .l (x1.2.1)] (.v (.o (.l))) fun y1 =>
  .call true 172 [.bool (x0.1),Sc.val .l (y1)] (.v (.g [.b,.l])) fun y2 =>
  .ret [Sh1.val (.g [.b,.l]) (y2)]) <|
 .call false 178 [Sc.val .l (x0.2.1),Sc.val .l (x1.2.1)] (.v (.o (.i .i64))) fun y1 =>
 .br (decide (y1<(0:Int))) (
  .rg <|
  .call true 179 [Sc.val .l (x1.2.1),Sc.val .l (x0.2.1)] (.v (.o (.l))) fun y2 =>
  .call true 172 [.bool (x1.1),Sc.val .l (y2)] (.v (.g [.b,.l])) fun y3 =>
  .ret [Sh1.val (.g [.b,.l]) (y3)]) <|
 .rg <|
 .call true 179 [Sc.val .l (x0.2.1),Sc.val .l (x1.2.1)] (.v (.o (.l))) fun y2 =>
 .call true 172 [.bool (x0.1),Sc.val .l (y2)] (.v (.g [.b,.l])) fun y3 =>
 .ret [Sh1.val (.g [.b,.l]) (y3)]
theorem fI_intAdd (x0:Bool × SlV × PUnit) (x1:Bool × SlV × PUnit):fits Tryz.prog aI_intAdd 134 [Sh1.val (.g [.b,.l]) (x0),Sh1.val (.g [.b,.l]) (x1)] (tI_intAdd x0 x1) :=
 fitK (by kernel_rfl)
def aI_natMul:An:=⟨[(3,[.s 5,.s 21],[.a 3,.o (.o (.i .i64))]),(7,[.s 5,.s 8,.s 28],[.a 3,.o (.o (.i .i64)),.o (.o (.i .i64))]),(14,[.s 5,.s 8,.s 11],[.a 3,.o (.o (.i .i64)),.o (.o (.i .i64))])],[],[]⟩
noncomputable def tI_natMul (x0:SlV) (x1:SlV):T :=
 .rq ((0:Int)≤IntKind.i64.wrap (IntKind.i64.wrap ((↑x0.n:Int)+(↑x1.n:Int))+(1:Int))∧IntKind.i64.wrap (IntKind.i64.wrap ((↑x0.n:Int)+(↑x1.n:Int))+(1:Int))≤IntKind.i64.wrap (IntKind.i64.wrap ((↑x0.n:Int)+(↑x1.n:Int))+(1:Int))∧(↑(8:Nat):Int)*IntKind.i64.wrap (IntKind.i64.wrap ((↑x0.n:Int)+(↑x1.n:Int))+(1:Int))≤(281474976710656:Int)∧IntKind.i64.wrap (IntKind.i64.wrap ((↑x0.n:Int)+(↑x1.n:Int))+(1:Int))≤(9223372036854775807:Int)) <|
 .lp [.a 3,.o (.o (.i .i64))] [.a 3 ((IntKind.i64.wrap (IntKind.i64.wrap ((↑x0.n:Int)+(↑x1.n:Int))+(1:Int))).toNat) ((madeCells { toList:=[Value.int IntKind.i64 (0:Int)]:Array Value } ((IntKind.i64.wrap (IntKind.i64.wrap ((↑x0.n:Int)+(↑x1.n:Int))+(1:Int))).toNat*(1:Nat))).toList),.v (.int .i64 ((0:Int)))] fun y1 =>
 .br (decide (y1.2.1<(↑x0.n:Int))) (
  .el (x0.a) (x0.n) (y1.2.1) fun y2 =>
  .ld false (y2.add (Int.toNat y1.2.1*(1:Nat))) (.o (.i .i64)) fun y3 =>
  .lp [.a 3,.o (.o (.i .i64)),.o (.o (.i .i64))] [.a 3 (y1.1.1) (y1.1.2),.v (.int .i64 ((0:Int))),.v (.int .i64 ((0:Int)))] fun y4 =>
  .br (decide (y4.2.2.1<(↑x1.n:Int))) (
   .el (x1.a) (x1.n) (y4.2.2.1) fun y5 =>
   .ld false (y5.add (Int.toNat y4.2.2.1*(1:Nat))) (.o (.i .i64)) fun y6 =>
   .rq ((0:Int)≤IntKind.i64.wrap (y1.2.1+y4.2.2.1)∧IntKind.i64.wrap (y1.2.1+y4.2.2.1)<(↑y4.1.1:Int)) <|
   .xs (y4.1.2) ((IntKind.i64.wrap (y1.2.1+y4.2.2.1)).toNat*(1:Nat)) (.o (.i .i64)) fun y7 =>
   .rq ((1000000000:Int)≠(0:Int)) <|
   .rq ((0:Int)≤IntKind.i64.wrap (y1.2.1+y4.2.2.1)∧IntKind.i64.wrap (y1.2.1+y4.2.2.1)<(↑y4.1.1:Int)) <|
   .rq ((IntKind.i64.wrap (y1.2.1+y4.2.2.1)).toNat*(1:Nat)+[Value.int IntKind.i64 ((IntKind.i64.wrap (y4.2.1+IntKind.i64.wrap (y7+IntKind.i64.wrap (y3*y6)))).tmod (1000000000:Int))].length≤y4.1.2.length) <|
   .rq ((1000000000:Int)≠(0:Int)) <|
   .nx 1 [.a 3 (y4.1.1) (setl y4.1.2 ((IntKind.i64.wrap (y1.2.1+y4.2.2.1)).toNat*(1:Nat)) [Value.int IntKind.i64 ((IntKind.i64.wrap (y4.2.1+IntKind.i64.wrap (y7+IntKind.i64.wrap (y3*y6)))).tmod (1000000000:Int))]),.v (.int .i64 (IntKind.i64.wrap ((IntKind.i64.wrap (y4.2.1+IntKind.i64.wrap (y7+IntKind.i64.wrap (y3*y6)))).tdiv (1000000000:Int)))),.v (.int .i64 (IntKind.i64.wrap (y4.2.2.1+(1:Int))))]) <|
  .lp [.a 3,.o (.o (.i .i64)),.o (.o (.i .i64))] [.a 3 (y4.1.1) (y4.1.2),.v (.int .i64 (y4.2.1)),.v (.int .i64 (IntKind.i64.wrap (y1.2.1+(↑x1.n:Int))))] fun y5 =>
  .br (decide (y5.2.1 > (0:Int))) (
   .rq ((0:Int)≤y5.2.2.1∧y5.2.2.1<(↑y5.1.1:Int)) <|
   .xs (y5.1.2) (Int.toNat y5.2.2.1*(1:Nat)) (.o (.i .i64)) fun y6 =>
   .rq ((1000000000:Int)≠(0:Int)) <|
   .rq ((0:Int)≤y5.2.2.1∧y5.2.2.1<(↑y5.1.1:Int)) <|
   .rq (Int.toNat y5.2.2.1*(1:Nat)+[Value.int IntKind.i64 ((IntKind.i64.wrap (y5.2.1+y6)).tmod (1000000000:Int))].length≤y5.1.2.length) <|
   .rq ((1000000000:Int)≠(0:Int)) <|
   .nx 2 [.a 3 (y5.1.1) (setl y5.1.2 (Int.toNat y5.2.2.1*(1:Nat)) [Value.int IntKind.i64 ((IntKind.i64.wrap (y5.2.1+y6)).tmod (1000000000:Int))]),.v (.int .i64 (IntKind.i64.wrap ((IntKind.i64.wrap (y5.2.1+y6)).tdiv (1000000000:Int)))),.v (.int .i64 (IntKind.i64.wrap (y5.2.2.1+(1:Int))))]) <|
  .nx 0 [.a 3 (y5.1.1) (y5.1.2),.v (.int .i64 (IntKind.i64.wrap (y1.2.1+(1:Int))))]) <|
 .fz (y1.1.1) (y1.1.2) 3 fun b2 c2 =>
 .call false 180 [.slice (some { block:=b2,off:=(0:Nat):Addr }) (y1.1.1) (c2)] (.v (.o (.l))) fun y3 =>
 .ret [Sc.val .l (y3)]
theorem fI_natMul (x0:SlV) (x1:SlV):fits Tryz.prog aI_natMul 135 [Sc.val .l (x0),Sc.val .l (x1)] (tI_natMul x0 x1) :=
 fitK (by kernel_rfl)
def aI_RatRest:An:=⟨[],[],[]⟩
noncomputable def tI_RatRest (x0:Bool × SlV × SlV × PUnit) (x1:Int):T :=
 .call false 181 [Sh1.val (.g [.b,.l,.l]) (x0),.int .i64 (x1)] (.t [(.g [.b,.l]),(.o (.b))]) fun y1 =>
 .br (!y1.2.1) (
  .ret [Sh1.val (.g [.b,.l]) ((false),nilS,()),Sh1.val (.g [.b,.l,.l]) ((false),nilS,nilS,()),.bool (false)]) <|
 .call false 182 [Sh1.val (.g [.b,.l]) (y1.1)] (.t [(.g [.b,.l,.l]),(.o (.b))]) fun y2 =>
 .call false 183 [Sh1.val (.g [.b,.l,.l]) (x0),Sh1.val (.g [.b,.l,.l]) (y2.1)] (.t [(.g [.b,.l,.l]),(.o (.b))]) fun y3 =>
 .br (!y2.2.1) (
  .ret [Sh1.val (.g [.b,.l]) ((false),nilS,()),Sh1.val (.g [.b,.l,.l]) ((false),nilS,nilS,()),.bool (false)]) <|
 .br (!y3.2.1) (
  .ret [Sh1.val (.g [.b,.l]) ((false),nilS,()),Sh1.val (.g [.b,.l,.l]) ((false),nilS,nilS,()),.bool (false)]) <|
 .rg <|
 .ret [Sh1.val (.g [.b,.l]) (y1.1),Sh1.val (.g [.b,.l,.l]) (y3.1),.bool (true)]
theorem fI_RatRest (x0:Bool × SlV × SlV × PUnit) (x1:Int):fits Tryz.prog aI_RatRest 136 [Sh1.val (.g [.b,.l,.l]) (x0),.int .i64 (x1)] (tI_RatRest x0 x1) :=
 fitK (by kernel_rfl)
def aI_moneyOf:An:=⟨[],[],[]⟩
noncomputable def tI_moneyOf (x0:ByteArray) (x1:Bool × SlV × PUnit):T :=
 .call false 126 [Sh1.val (.g [.s,.b,.l]) ((x0),(x1.1),x1.2.1,())] (.v (.o (.b))) fun y1 =>
 .br (y1) (
  .ret [Sh1.val (.g [.s,.b,.l]) ((x0),(x1.1),x1.2.1,()),.bool (true)]) <|
 .ret [Sh1.val (.g [.s,.b,.l]) (({ data:={ toList:=[]:Array UInt8 }:ByteArray }),(false),nilS,()),.bool (false)]
theorem fI_moneyOf (x0:ByteArray) (x1:Bool × SlV × PUnit):fits Tryz.prog aI_moneyOf 137 [.string (x0),Sh1.val (.g [.b,.l]) (x1)] (tI_moneyOf x0 x1) :=
 fitK (by kernel_rfl)
def aL_szAcct:An:=⟨[],[],[]⟩
noncomputable def tL_szAcct (x0:ByteArray × ByteArray × Bool × SlV × PUnit) (x1:Int):T :=
 .br (decide (IntKind.i64.wrap (x1-(↑(ByteArray.size x0.1):Int))<(0:Int))) (
  .ret [.int .i64 ((-1:Int))]) <|
 .call false 7 [Sh1.val (.g [.s,.b,.l]) (x0.2),.int .i64 (IntKind.i64.wrap (x1-(↑(ByteArray.size x0.1):Int)))] (.v (.o (.i .i64))) fun y1 =>
 .br (decide (y1<(0:Int))) (
  .ret [.int .i64 ((-1:Int))]) <|
 .ret [.int .i64 (y1)]
theorem fL_szAcct (x0:ByteArray × ByteArray × Bool × SlV × PUnit) (x1:Int):fits Tryz.prog aL_szAcct 142 [Sh1.val (.g [.s,.s,.b,.l]) (x0),.int .i64 (x1)] (tL_szAcct x0 x1) :=
 fitK (by kernel_rfl)
def aL_szRat:An:=⟨[],[],[]⟩
noncomputable def tL_szRat (x0:Bool × SlV × SlV × PUnit) (x1:Int):T :=
 .call false 33 [Sh1.val (.g [.b,.l]) ((x0.1),x0.2.1,()),.int .i64 (x1)] (.v (.o (.i .i64))) fun y1 =>
 .br (decide (y1<(0:Int))) (
  .ret [.int .i64 ((-1:Int))]) <|
 .call false 65 [Sc.val .l (x0.2.2.1),.int .i64 (y1)] (.v (.o (.i .i64))) fun y2 =>
 .br (decide (y2<(0:Int))) (
  .ret [.int .i64 ((-1:Int))]) <|
 .ret [.int .i64 (y2)]
theorem fL_szRat (x0:Bool × SlV × SlV × PUnit) (x1:Int):fits Tryz.prog aL_szRat 143 [Sh1.val (.g [.b,.l,.l]) (x0),.int .i64 (x1)] (tL_szRat x0 x1) :=
 fitK (by kernel_rfl)
def aS_IsWord:An:=⟨[],[],[]⟩
noncomputable def tS_IsWord (x0:ByteArray):T :=
 .call false 187 [.string (x0),.int .u8 ((97:Int)),.int .u8 ((122:Int)),.int .u8 ((48:Int)),.int .u8 ((57:Int))] (.v (.o (.b))) fun y1 =>
 .br (y1) (
  .br (decide ((↑x0.size:Int)≤(12:Int))) (
   .rq ((0:Int)≤(0:Int)∧(0:Int)<(↑x0.size:Int)) <|
   .ret [.bool (decide (at0 x0 (Int.toNat (0:Int))≥(97:Int)))]) <|
  .ret [.bool (false)]) <|
 .ret [.bool (false)]
theorem fS_IsWord (x0:ByteArray):fits Tryz.prog aS_IsWord 144 [.string (x0)] (tS_IsWord x0) :=
 fitK (by kernel_rfl)
def aS_RatSign:An:=⟨[],[],[]⟩
noncomputable def tS_RatSign (x0:Bool × SlV × SlV × PUnit):T :=
 .rg <|
 .call true 49 [] (.v (.g [.b,.l,.l])) fun y1 =>
 .call true 188 [Sh1.val (.g [.b,.l,.l]) (x0),Sh1.val (.g [.b,.l,.l]) (y1)] (.v (.o (.i .i64))) fun y2 =>
 .ret [.int .i64 (y2)]
theorem fS_RatSign (x0:Bool × SlV × SlV × PUnit):fits Tryz.prog aS_RatSign 145 [Sh1.val (.g [.b,.l,.l]) (x0)] (tS_RatSign x0) :=
 fitK (by kernel_rfl)
end Go.Proofs.YtagjmmpiglgmhaaGreatDoor
