/-
  What each function of the seat comes to, as a tree; each tree is checked against the code.
-/
import Derived.Test.YtccnjccabllcaaaGreatDoorEngD
import Derived.Test.YtccnjccabllcaaaGreatDoorChecked
import Derived.KernelRfl
namespace Go.Proofs.YtccnjccabllcaaaGreatDoor
open Sx
set_option maxRecDepth 100000
abbrev gL_FnExactDoOpen:Nat:=3
abbrev gL_szLedger:Nat:=8
abbrev gS_DoOpen:Nat:=9
abbrev gL_toLedger:Nat:=10
abbrev gI_DoOpen:Nat:=11
abbrev gL_eqLedger:Nat:=12
abbrev gL_markLedger:Nat:=13
abbrev gL_heldLedger:Nat:=14
abbrev gL_szRate:Nat:=15
abbrev gL_toRate:Nat:=17
abbrev gL_eqRate:Nat:=19
abbrev gL_szMoney:Nat:=21
abbrev gL_toMoney:Nat:=23
abbrev gL_eqMoney:Nat:=25
abbrev gL_szBook:Nat:=31
abbrev gL_szRestS:Nat:=32
abbrev gL_szRates:Nat:=33
abbrev gS_LedgerOk:Nat:=34
abbrev gS_IsWord:Nat:=35
abbrev gS_CurKnown:Nat:=36
abbrev gS_AcctAt:Nat:=37
abbrev gS_BookOpen:Nat:=38
abbrev gS_l20Copy:Nat:=39
abbrev gL_toBook:Nat:=40
abbrev gL_toRestS:Nat:=41
abbrev gL_toRates:Nat:=42
abbrev gI_perform:Nat:=43
abbrev gL_eqBook:Nat:=44
abbrev gL_eqRestS:Nat:=45
abbrev gL_eqRates:Nat:=46
abbrev gL_markBook:Nat:=47
abbrev gL_markRestS:Nat:=48
abbrev gL_markRates:Nat:=49
abbrev gL_heldBook:Nat:=50
abbrev gL_heldRestS:Nat:=51
abbrev gL_heldRates:Nat:=52
abbrev gL_szDec:Nat:=53
abbrev gS_RateOk:Nat:=54
abbrev gL_toDec:Nat:=56
abbrev gL_eqDec:Nat:=57
abbrev gL_szSigned:Nat:=59
abbrev gL_toSigned:Nat:=62
abbrev gL_eqSigned:Nat:=63
abbrev gL_szAcctS:Nat:=66
abbrev gL_szRest:Nat:=67
abbrev gL_szRateS:Nat:=68
abbrev gS_BookOk:Nat:=69
abbrev gS_RestsOk:Nat:=70
abbrev gS_RatesOk:Nat:=71
abbrev gS_l01All:Nat:=72
abbrev gS_l08Find:Nat:=73
abbrev gS_l17Copy:Nat:=74
abbrev gS_l19Copy:Nat:=75
abbrev gS_l20Rates:Nat:=76
abbrev gL_toAcctS:Nat:=77
abbrev gL_toRest:Nat:=78
abbrev gL_toRateS:Nat:=79
abbrev gI_LedgerOk:Nat:=80
abbrev gI_ledgerCopy:Nat:=81
abbrev gL_eqAcctS:Nat:=82
abbrev gL_eqRest:Nat:=83
abbrev gL_eqRateS:Nat:=84
abbrev gL_markAcctS:Nat:=85
abbrev gL_markText:Nat:=86
abbrev gL_markIntS:Nat:=87
abbrev gL_markRateS:Nat:=88
abbrev gL_heldAcctS:Nat:=89
abbrev gL_heldIntS:Nat:=90
abbrev gL_heldRateS:Nat:=91
abbrev gS_DecOk:Nat:=92
abbrev gS_IntSign:Nat:=93
abbrev gS_l10At:Nat:=95
abbrev gL_szIntS:Nat:=97
abbrev gS_MoneyOk:Nat:=98
abbrev gL_toIntS:Nat:=100
abbrev gL_eqIntS:Nat:=101
abbrev gL_szAcct:Nat:=103
abbrev gL_szRat:Nat:=104
abbrev gS_RatOk:Nat:=105
abbrev gS_RatSign:Nat:=106
abbrev gS_l08Table:Nat:=107
abbrev gS_l17Money:Nat:=108
abbrev gS_l19Rat:Nat:=109
abbrev gL_toAcct:Nat:=110
abbrev gL_toRat:Nat:=111
abbrev gI_BookOk:Nat:=112
abbrev gI_RestsOk:Nat:=113
abbrev gI_RatesOk:Nat:=114
abbrev gI_bookCopy:Nat:=115
abbrev gI_restsCopy:Nat:=116
abbrev gI_ratesCopy:Nat:=117
abbrev gL_eqAcct:Nat:=118
abbrev gL_eqRat:Nat:=119
abbrev gS_IntOk:Nat:=120
abbrev gS_l01In:Nat:=121
abbrev gS_IntCmp:Nat:=122
abbrev gS_l04Make:Nat:=123
abbrev gS_NatOk:Nat:=125
abbrev gS_l02Cmp:Nat:=126
abbrev gS_NatGcd:Nat:=127
abbrev gS_RatCmp:Nat:=128
abbrev gS_RatZero:Nat:=129
abbrev gI_IsWord:Nat:=130
abbrev gI_MoneyOk:Nat:=131
abbrev gI_CurKnown:Nat:=132
abbrev gI_RatOk:Nat:=133
abbrev gI_RatSign:Nat:=134
abbrev gI_RateOk:Nat:=135
abbrev gI_moneyCopy:Nat:=136
abbrev gI_ratCopy:Nat:=137
abbrev gI_rateCopy:Nat:=138
abbrev gS_l02Cap:Nat:=139
abbrev gS_l03Div:Nat:=143
abbrev gS_l02Mul:Nat:=144
abbrev gI_isLower:Nat:=145
abbrev gI_isDigit:Nat:=146
abbrev gI_IntOk:Nat:=147
abbrev gI_currencyOf:Nat:=148
abbrev gI_NatOk:Nat:=149
abbrev gI_natGcd:Nat:=150
abbrev gI_intSign:Nat:=151
abbrev gI_DecOk:Nat:=152
abbrev gI_intCopy:Nat:=153
abbrev gI_natCopy:Nat:=154
abbrev gI_decCopy:Nat:=155
abbrev gS_l02Trim:Nat:=156
abbrev gS_l03Small:Nat:=158
abbrev gS_NatOf:Nat:=159
abbrev gS_l03Digit:Nat:=160
abbrev gS_l02Sub:Nat:=161
abbrev gI_natDiv:Nat:=162
abbrev gI_isScale:Nat:=163
abbrev gI_natCmp:Nat:=165
abbrev gI_natSmall:Nat:=166
abbrev gI_NatOf:Nat:=167
abbrev gI_natMul:Nat:=168
abbrev gI_divStep:Nat:=169
abbrev gI_trim:Nat:=170
abbrev gI_natOf:Nat:=171
abbrev gI_subTimes:Nat:=172
abbrev gI_addBack:Nat:=173
abbrev gI_opOpen__run:Nat:=190
abbrev gI_AcctAt:Nat:=191
abbrev gI_BookOpen:Nat:=192
abbrev gX_IndexFunc_Acct:Nat:=193
abbrev gI_AcctAt_1:Nat:=194
abbrev gI_changed:Nat:=195
abbrev gI_BookOpen_1:Nat:=196
def aL_FnExactDoOpen:An:=⟨[],[],[]⟩
noncomputable def tL_FnExactDoOpen (x0:SlV × SlV × ByteArray × SlV × PUnit) (x1:ByteArray) (x2:ByteArray):T :=
 .br (decide ((↑x1.size:Int) > (1048576:Int))) (
  .ret [.bool (true)]) <|
 .br (decide ((↑x2.size:Int) > (1048576:Int))) (
  .ret [.bool (true)]) <|
 .call false 8 [Sh1.val (.g [.l,.l,.s,.l]) (x0),.int .i64 ((1048576:Int))] (.v (.o (.i .i64))) fun y1 =>
 .br (decide (y1<(0:Int))) (
  .ret [.bool (true)]) <|
 .call false 10 [Sh1.val (.g [.l,.l,.s,.l]) (x0)] (.v (.g [.l,.l,.s,.l])) fun y2 =>
 .call false 9 [Sh1.val (.g [.l,.l,.s,.l]) (y2),.string (x1),.string (x2)] (.t [(.g [.l,.l,.s,.l]),(.o (.i .i64))]) fun y3 =>
 .call false 10 [Sh1.val (.g [.l,.l,.s,.l]) (x0)] (.v (.g [.l,.l,.s,.l])) fun y4 =>
 .call false 11 [Sh1.val (.g [.l,.l,.s,.l]) (y4),.string (x1),.string (x2)] (.t [(.g [.l,.l,.s,.l]),(.o (.i .i64))]) fun y5 =>
 .call false 12 [Sh1.val (.g [.l,.l,.s,.l]) (y5.1),Sh1.val (.g [.l,.l,.s,.l]) (y3.1)] (.v (.o (.b))) fun y6 =>
 .br (!y6) (
  .ret [.bool (false)]) <|
 .br (y5.2.1 != y3.2.1) (
  .ret [.bool (false)]) <|
 .rg <|
 .call true 10 [Sh1.val (.g [.l,.l,.s,.l]) (x0)] (.v (.g [.l,.l,.s,.l])) fun y7 =>
 .call false 12 [Sh1.val (.g [.l,.l,.s,.l]) (y4),Sh1.val (.g [.l,.l,.s,.l]) (y7)] (.v (.o (.b))) fun y8 =>
 .br (!y8) (
  .ret [.bool (false)]) <|
 .call false 13 [Sh1.val (.g [.l,.l,.s,.l]) (y4),.int .i64 ((1:Int))] (.v (.o (.i .i64))) fun y9 =>
 .br (decide (y9<(0:Int))) (
  .ret [.bool (false)]) <|
 .call false 12 [Sh1.val (.g [.l,.l,.s,.l]) (y5.1),Sh1.val (.g [.l,.l,.s,.l]) (y3.1)] (.v (.o (.b))) fun y10 =>
 .br (!y10) (
  .ret [.bool (false)]) <|
 .br (y5.2.1 != y3.2.1) (
  .ret [.bool (false)]) <|
 .call false 13 [Sh1.val (.g [.l,.l,.s,.l]) (y5.1),.int .i64 ((1:Int))] (.v (.o (.i .i64))) fun y11 =>
 .call false 14 [Sh1.val (.g [.l,.l,.s,.l]) (y5.1),.int .i64 ((1:Int))] (.v (.o (.i .i64))) fun y12 =>
 .br (decide (y12<(0:Int))) (
  .ret [.bool (false)]) <|
 .br (y12 != y11) (
  .ret [.bool (false)]) <|
 .call false 10 [Sh1.val (.g [.l,.l,.s,.l]) (x0)] (.v (.g [.l,.l,.s,.l])) fun y13 =>
 .call false 11 [Sh1.val (.g [.l,.l,.s,.l]) (y13),.string (x1),.string (x2)] (.t [(.g [.l,.l,.s,.l]),(.o (.i .i64))]) fun y14 =>
 .call false 12 [Sh1.val (.g [.l,.l,.s,.l]) (y14.1),Sh1.val (.g [.l,.l,.s,.l]) (y3.1)] (.v (.o (.b))) fun y15 =>
 .br (!y15) (
  .ret [.bool (false)]) <|
 .br (y14.2.1 != y3.2.1) (
  .ret [.bool (false)]) <|
 .call false 14 [Sh1.val (.g [.l,.l,.s,.l]) (y5.1),.int .i64 ((1:Int))] (.v (.o (.i .i64))) fun y16 =>
 .br (decide (y16<(0:Int))) (
  .ret [.bool (false)]) <|
 .br (y16 != y11) (
  .ret [.bool (false)]) <|
 .ret [.bool (true)]
theorem fL_FnExactDoOpen (x0:SlV × SlV × ByteArray × SlV × PUnit) (x1:ByteArray) (x2:ByteArray):fits Tryz.prog aL_FnExactDoOpen 3 [Sh1.val (.g [.l,.l,.s,.l]) (x0),.string (x1),.string (x2)] (tL_FnExactDoOpen x0 x1 x2) :=
 fitK (by kernel_rfl)
def aL_szLedger:An:=⟨[],[],[]⟩
noncomputable def tL_szLedger (x0:SlV × SlV × ByteArray × SlV × PUnit) (x1:Int):T :=
 .call false 31 [Sh1.val (.g [.l]) (x0.1,()),.int .i64 (x1)] (.v (.o (.i .i64))) fun y1 =>
 .br (decide (y1<(0:Int))) (
  .ret [.int .i64 ((-1:Int))]) <|
 .call false 32 [Sc.val .l (x0.2.1),.int .i64 (y1)] (.v (.o (.i .i64))) fun y2 =>
 .br (decide (y2<(0:Int))) (
  .ret [.int .i64 ((-1:Int))]) <|
 .call false 33 [Sh1.val (.g [.s,.l]) (x0.2.2),.int .i64 (y2)] (.v (.o (.i .i64))) fun y3 =>
 .br (decide (y3<(0:Int))) (
  .ret [.int .i64 ((-1:Int))]) <|
 .ret [.int .i64 (y3)]
theorem fL_szLedger (x0:SlV × SlV × ByteArray × SlV × PUnit) (x1:Int):fits Tryz.prog aL_szLedger 8 [Sh1.val (.g [.l,.l,.s,.l]) (x0),.int .i64 (x1)] (tL_szLedger x0 x1) :=
 fitK (by kernel_rfl)
def aS_DoOpen:An:=⟨[],[],[]⟩
noncomputable def tS_DoOpen (x0:SlV × SlV × ByteArray × SlV × PUnit) (x1:ByteArray) (x2:ByteArray):T :=
 .call false 34 [Sh1.val (.g [.l,.l,.s,.l]) (x0)] (.v (.o (.b))) fun y1 =>
 .br (!y1) (
  .ret [Sh1.val (.g [.l,.l,.s,.l]) (nilS,nilS,({ data:={ toList:=[]:Array UInt8 }:ByteArray }),nilS,()),.int .i64 ((1:Int))]) <|
 .call false 35 [.string (x1)] (.v (.o (.b))) fun y2 =>
 .br (!y2) (
  .ret [Sh1.val (.g [.l,.l,.s,.l]) (nilS,nilS,({ data:={ toList:=[]:Array UInt8 }:ByteArray }),nilS,()),.int .i64 ((1:Int))]) <|
 .call false 36 [.string (x2)] (.v (.o (.b))) fun y3 =>
 .br (!y3) (
  .ret [Sh1.val (.g [.l,.l,.s,.l]) (nilS,nilS,({ data:={ toList:=[]:Array UInt8 }:ByteArray }),nilS,()),.int .i64 ((2:Int))]) <|
 .call false 37 [Sh1.val (.g [.l]) (x0.1,()),.string (x1)] (.v (.o (.i .i64))) fun y4 =>
 .br (decide (y4≥(0:Int))) (
  .ret [Sh1.val (.g [.l,.l,.s,.l]) (nilS,nilS,({ data:={ toList:=[]:Array UInt8 }:ByteArray }),nilS,()),.int .i64 ((4:Int))]) <|
 .call false 38 [Sh1.val (.g [.l]) (x0.1,()),.string (x1),.string (x2)] (.t [(.g [.l]),(.o (.b))]) fun y5 =>
 .br (!y5.2.1) (
  .ret [Sh1.val (.g [.l,.l,.s,.l]) (nilS,nilS,({ data:={ toList:=[]:Array UInt8 }:ByteArray }),nilS,()),.int .i64 ((9:Int))]) <|
 .call false 39 [Sh1.val (.g [.l,.l,.s,.l]) (x0)] (.v (.g [.l,.l,.s,.l])) fun y6 =>
 .ret [Sh1.val (.g [.l,.l,.s,.l]) (y5.1.1,y6.2.1,(y6.2.2.1),y6.2.2.2.1,()),.int .i64 ((0:Int))]
theorem fS_DoOpen (x0:SlV × SlV × ByteArray × SlV × PUnit) (x1:ByteArray) (x2:ByteArray):fits Tryz.prog aS_DoOpen 9 [Sh1.val (.g [.l,.l,.s,.l]) (x0),.string (x1),.string (x2)] (tS_DoOpen x0 x1 x2) :=
 fitK (by kernel_rfl)
def aL_toLedger:An:=⟨[],[],[]⟩
noncomputable def tL_toLedger (x0:SlV × SlV × ByteArray × SlV × PUnit):T :=
 .call false 40 [Sh1.val (.g [.l]) (x0.1,())] (.v (.g [.l])) fun y1 =>
 .call false 41 [Sc.val .l (x0.2.1)] (.v (.o (.l))) fun y2 =>
 .call false 42 [Sh1.val (.g [.s,.l]) (x0.2.2)] (.v (.g [.s,.l])) fun y3 =>
 .ret [Sh1.val (.g [.l,.l,.s,.l]) (y1.1,y2,(y3.1),y3.2.1,())]
theorem fL_toLedger (x0:SlV × SlV × ByteArray × SlV × PUnit):fits Tryz.prog aL_toLedger 10 [Sh1.val (.g [.l,.l,.s,.l]) (x0)] (tL_toLedger x0) :=
 fitK (by kernel_rfl)
def aI_DoOpen:An:=⟨[],[],[]⟩
noncomputable def tI_DoOpen (x0:SlV × SlV × ByteArray × SlV × PUnit) (x1:ByteArray) (x2:ByteArray):T :=
 .call false 43 [Sh1.val (.g [.l,.l,.s,.l]) (x0),.iface 91 (Sh1.val (.g [.s,.s]) ((x1),(x2),()))] (.t [(.g [.l,.l,.s,.l]),(.o (.i .i64))]) fun y1 =>
 .ret [Sh1.val (.g [.l,.l,.s,.l]) (y1.1),.int .i64 (y1.2.1)]
theorem fI_DoOpen (x0:SlV × SlV × ByteArray × SlV × PUnit) (x1:ByteArray) (x2:ByteArray):fits Tryz.prog aI_DoOpen 11 [Sh1.val (.g [.l,.l,.s,.l]) (x0),.string (x1),.string (x2)] (tI_DoOpen x0 x1 x2) :=
 fitK (by kernel_rfl)
def aL_eqLedger:An:=⟨[],[],[]⟩
noncomputable def tL_eqLedger (x0:SlV × SlV × ByteArray × SlV × PUnit) (x1:SlV × SlV × ByteArray × SlV × PUnit):T :=
 .call false 44 [Sh1.val (.g [.l]) (x0.1,()),Sh1.val (.g [.l]) (x1.1,())] (.v (.o (.b))) fun y1 =>
 .br (!y1) (
  .ret [.bool (false)]) <|
 .call false 45 [Sc.val .l (x0.2.1),Sc.val .l (x1.2.1)] (.v (.o (.b))) fun y2 =>
 .br (!y2) (
  .ret [.bool (false)]) <|
 .call false 46 [Sh1.val (.g [.s,.l]) (x0.2.2),Sh1.val (.g [.s,.l]) (x1.2.2)] (.v (.o (.b))) fun y3 =>
 .br (!y3) (
  .ret [.bool (false)]) <|
 .ret [.bool (true)]
theorem fL_eqLedger (x0:SlV × SlV × ByteArray × SlV × PUnit) (x1:SlV × SlV × ByteArray × SlV × PUnit):fits Tryz.prog aL_eqLedger 12 [Sh1.val (.g [.l,.l,.s,.l]) (x0),Sh1.val (.g [.l,.l,.s,.l]) (x1)] (tL_eqLedger x0 x1) :=
 fitK (by kernel_rfl)
def aL_markLedger:An:=⟨[],[],[]⟩
noncomputable def tL_markLedger (x0:SlV × SlV × ByteArray × SlV × PUnit) (x1:Int):T :=
 .call false 47 [Sh1.val (.g [.l]) (x0.1,()),.int .i64 (x1)] (.v (.o (.i .i64))) fun y1 =>
 .call false 48 [Sc.val .l (x0.2.1),.int .i64 (y1)] (.v (.o (.i .i64))) fun y2 =>
 .call false 49 [Sh1.val (.g [.s,.l]) (x0.2.2),.int .i64 (y2)] (.v (.o (.i .i64))) fun y3 =>
 .ret [.int .i64 (y3)]
theorem fL_markLedger (x0:SlV × SlV × ByteArray × SlV × PUnit) (x1:Int):fits Tryz.prog aL_markLedger 13 [Sh1.val (.g [.l,.l,.s,.l]) (x0),.int .i64 (x1)] (tL_markLedger x0 x1) :=
 fitK (by kernel_rfl)
def aL_heldLedger:An:=⟨[],[],[]⟩
noncomputable def tL_heldLedger (x0:SlV × SlV × ByteArray × SlV × PUnit) (x1:Int):T :=
 .call false 50 [Sh1.val (.g [.l]) (x0.1,()),.int .i64 (x1)] (.v (.o (.i .i64))) fun y1 =>
 .br (decide (y1<(0:Int))) (
  .ret [.int .i64 ((-1:Int))]) <|
 .call false 51 [Sc.val .l (x0.2.1),.int .i64 (y1)] (.v (.o (.i .i64))) fun y2 =>
 .br (decide (y2<(0:Int))) (
  .ret [.int .i64 ((-1:Int))]) <|
 .call false 52 [Sh1.val (.g [.s,.l]) (x0.2.2),.int .i64 (y2)] (.v (.o (.i .i64))) fun y3 =>
 .br (decide (y3<(0:Int))) (
  .ret [.int .i64 ((-1:Int))]) <|
 .ret [.int .i64 (y3)]
theorem fL_heldLedger (x0:SlV × SlV × ByteArray × SlV × PUnit) (x1:Int):fits Tryz.prog aL_heldLedger 14 [Sh1.val (.g [.l,.l,.s,.l]) (x0),.int .i64 (x1)] (tL_heldLedger x0 x1) :=
 fitK (by kernel_rfl)
def aL_szRate:An:=⟨[],[],[]⟩
noncomputable def tL_szRate (x0:ByteArray × ByteArray × Bool × SlV × Int × PUnit) (x1:Int):T :=
 .br (decide (IntKind.i64.wrap (x1-(↑(ByteArray.size x0.1):Int))<(0:Int))) (
  .ret [.int .i64 ((-1:Int))]) <|
 .br (decide (IntKind.i64.wrap (IntKind.i64.wrap (x1-(↑(ByteArray.size x0.1):Int))-(↑(ByteArray.size x0.2.1):Int))<(0:Int))) (
  .ret [.int .i64 ((-1:Int))]) <|
 .call false 53 [Sh1.val (.g [.b,.l,.i .i64]) (x0.2.2),.int .i64 (IntKind.i64.wrap (IntKind.i64.wrap (x1-(↑(ByteArray.size x0.1):Int))-(↑(ByteArray.size x0.2.1):Int)))] (.v (.o (.i .i64))) fun y1 =>
 .br (decide (y1<(0:Int))) (
  .ret [.int .i64 ((-1:Int))]) <|
 .ret [.int .i64 (y1)]
theorem fL_szRate (x0:ByteArray × ByteArray × Bool × SlV × Int × PUnit) (x1:Int):fits Tryz.prog aL_szRate 15 [Sh1.val (.g [.s,.s,.b,.l,.i .i64]) (x0),.int .i64 (x1)] (tL_szRate x0 x1) :=
 fitK (by kernel_rfl)
def aL_toRate:An:=⟨[],[],[]⟩
noncomputable def tL_toRate (x0:ByteArray × ByteArray × Bool × SlV × Int × PUnit):T :=
 .call false 56 [Sh1.val (.g [.b,.l,.i .i64]) (x0.2.2)] (.v (.g [.b,.l,.i .i64])) fun y1 =>
 .ret [Sh1.val (.g [.s,.s,.b,.l,.i .i64]) ((x0.1),(x0.2.1),(y1.1),y1.2.1,((y1.2.2.1):Int),())]
theorem fL_toRate (x0:ByteArray × ByteArray × Bool × SlV × Int × PUnit):fits Tryz.prog aL_toRate 17 [Sh1.val (.g [.s,.s,.b,.l,.i .i64]) (x0)] (tL_toRate x0) :=
 fitK (by kernel_rfl)
def aL_eqRate:An:=⟨[],[],[]⟩
noncomputable def tL_eqRate (x0:ByteArray × ByteArray × Bool × SlV × Int × PUnit) (x1:ByteArray × ByteArray × Bool × SlV × Int × PUnit):T :=
 .br (!ByteArray.toList x0.1 == ByteArray.toList x1.1) (
  .ret [.bool (false)]) <|
 .br (!ByteArray.toList x0.2.1 == ByteArray.toList x1.2.1) (
  .ret [.bool (false)]) <|
 .call false 57 [Sh1.val (.g [.b,.l,.i .i64]) (x0.2.2),Sh1.val (.g [.b,.l,.i .i64]) (x1.2.2)] (.v (.o (.b))) fun y1 =>
 .br (!y1) (
  .ret [.bool (false)]) <|
 .ret [.bool (true)]
theorem fL_eqRate (x0:ByteArray × ByteArray × Bool × SlV × Int × PUnit) (x1:ByteArray × ByteArray × Bool × SlV × Int × PUnit):fits Tryz.prog aL_eqRate 19 [Sh1.val (.g [.s,.s,.b,.l,.i .i64]) (x0),Sh1.val (.g [.s,.s,.b,.l,.i .i64]) (x1)] (tL_eqRate x0 x1) :=
 fitK (by kernel_rfl)
def aL_szMoney:An:=⟨[],[],[]⟩
noncomputable def tL_szMoney (x0:ByteArray × Bool × SlV × PUnit) (x1:Int):T :=
 .br (decide (IntKind.i64.wrap (x1-(↑(ByteArray.size x0.1):Int))<(0:Int))) (
  .ret [.int .i64 ((-1:Int))]) <|
 .call false 59 [Sh1.val (.g [.b,.l]) (x0.2),.int .i64 (IntKind.i64.wrap (x1-(↑(ByteArray.size x0.1):Int)))] (.v (.o (.i .i64))) fun y1 =>
 .br (decide (y1<(0:Int))) (
  .ret [.int .i64 ((-1:Int))]) <|
 .ret [.int .i64 (y1)]
theorem fL_szMoney (x0:ByteArray × Bool × SlV × PUnit) (x1:Int):fits Tryz.prog aL_szMoney 21 [Sh1.val (.g [.s,.b,.l]) (x0),.int .i64 (x1)] (tL_szMoney x0 x1) :=
 fitK (by kernel_rfl)
def aL_toMoney:An:=⟨[],[],[]⟩
noncomputable def tL_toMoney (x0:ByteArray × Bool × SlV × PUnit):T :=
 .call false 62 [Sh1.val (.g [.b,.l]) (x0.2)] (.v (.g [.b,.l])) fun y1 =>
 .ret [Sh1.val (.g [.s,.b,.l]) ((x0.1),(y1.1),y1.2.1,())]
theorem fL_toMoney (x0:ByteArray × Bool × SlV × PUnit):fits Tryz.prog aL_toMoney 23 [Sh1.val (.g [.s,.b,.l]) (x0)] (tL_toMoney x0) :=
 fitK (by kernel_rfl)
def aL_eqMoney:An:=⟨[],[],[]⟩
noncomputable def tL_eqMoney (x0:ByteArray × Bool × SlV × PUnit) (x1:ByteArray × Bool × SlV × PUnit):T :=
 .br (!ByteArray.toList x0.1 == ByteArray.toList x1.1) (
  .ret [.bool (false)]) <|
 .call false 63 [Sh1.val (.g [.b,.l]) (x0.2),Sh1.val (.g [.b,.l]) (x1.2)] (.v (.o (.b))) fun y1 =>
 .br (!y1) (
  .ret [.bool (false)]) <|
 .ret [.bool (true)]
theorem fL_eqMoney (x0:ByteArray × Bool × SlV × PUnit) (x1:ByteArray × Bool × SlV × PUnit):fits Tryz.prog aL_eqMoney 25 [Sh1.val (.g [.s,.b,.l]) (x0),Sh1.val (.g [.s,.b,.l]) (x1)] (tL_eqMoney x0 x1) :=
 fitK (by kernel_rfl)
def aL_szBook:An:=⟨[],[],[]⟩
noncomputable def tL_szBook (x0:SlV × PUnit) (x1:Int):T :=
 .call false 66 [Sc.val .l (x0.1),.int .i64 (x1)] (.v (.o (.i .i64))) fun y1 =>
 .br (decide (y1<(0:Int))) (
  .ret [.int .i64 ((-1:Int))]) <|
 .ret [.int .i64 (y1)]
theorem fL_szBook (x0:SlV × PUnit) (x1:Int):fits Tryz.prog aL_szBook 31 [Sh1.val (.g [.l]) (x0),.int .i64 (x1)] (tL_szBook x0 x1) :=
 fitK (by kernel_rfl)
def aL_szRestS:An:=⟨[(5,[.s 1,.s 5],[.o (.o (.i .i64)),.o (.o (.i .i64))])],[],[]⟩
noncomputable def tL_szRestS (x0:SlV) (x1:Int):T :=
 .br (decide (IntKind.i64.wrap (x1-(↑x0.n:Int))<(0:Int))) (
  .ret [.int .i64 ((-1:Int))]) <|
 .lp [.o (.o (.i .i64)),.o (.o (.i .i64))] [.v (.int .i64 (IntKind.i64.wrap (x1-(↑x0.n:Int)))),.v (.int .i64 ((0:Int)))] fun y1 =>
 .br (decide (y1.2.1<(↑x0.n:Int))) (
  .el (x0.1) (x0.n) (y1.2.1) fun y2 =>
  .ld false (y2.add (Int.toNat y1.2.1*(4:Nat))) (.g [.s,.b,.l,.l]) fun y3 =>
  .call false 67 [Sh1.val (.g [.s,.b,.l,.l]) (y3),.int .i64 (y1.1)] (.v (.o (.i .i64))) fun y4 =>
  .br (decide (y4<(0:Int))) (
   .ret [.int .i64 ((-1:Int))]) <|
  .nx 0 [.v (.int .i64 (y4)),.v (.int .i64 (IntKind.i64.wrap (y1.2.1+(1:Int))))]) <|
 .ret [.int .i64 (y1.1)]
theorem fL_szRestS (x0:SlV) (x1:Int):fits Tryz.prog aL_szRestS 32 [Sc.val .l (x0),.int .i64 (x1)] (tL_szRestS x0 x1) :=
 fitK (by kernel_rfl)
def aL_szRates:An:=⟨[],[],[]⟩
noncomputable def tL_szRates (x0:ByteArray × SlV × PUnit) (x1:Int):T :=
 .br (decide (IntKind.i64.wrap (x1-(↑(ByteArray.size x0.1):Int))<(0:Int))) (
  .ret [.int .i64 ((-1:Int))]) <|
 .call false 68 [Sc.val .l (x0.2.1),.int .i64 (IntKind.i64.wrap (x1-(↑(ByteArray.size x0.1):Int)))] (.v (.o (.i .i64))) fun y1 =>
 .br (decide (y1<(0:Int))) (
  .ret [.int .i64 ((-1:Int))]) <|
 .ret [.int .i64 (y1)]
theorem fL_szRates (x0:ByteArray × SlV × PUnit) (x1:Int):fits Tryz.prog aL_szRates 33 [Sh1.val (.g [.s,.l]) (x0),.int .i64 (x1)] (tL_szRates x0 x1) :=
 fitK (by kernel_rfl)
def aS_LedgerOk:An:=⟨[],[],[]⟩
noncomputable def tS_LedgerOk (x0:SlV × SlV × ByteArray × SlV × PUnit):T :=
 .call false 69 [Sh1.val (.g [.l]) (x0.1,())] (.v (.o (.b))) fun y1 =>
 .br (y1) (
  .call false 70 [Sc.val .l (x0.2.1)] (.v (.o (.b))) fun y2 =>
  .br (y2) (
   .call false 71 [Sh1.val (.g [.s,.l]) (x0.2.2)] (.v (.o (.b))) fun y3 =>
   .ret [.bool (y3)]) <|
  .ret [.bool (false)]) <|
 .ret [.bool (false)]
theorem fS_LedgerOk (x0:SlV × SlV × ByteArray × SlV × PUnit):fits Tryz.prog aS_LedgerOk 34 [Sh1.val (.g [.l,.l,.s,.l]) (x0)] (tS_LedgerOk x0) :=
 fitK (by kernel_rfl)
def aS_IsWord:An:=⟨[],[],[]⟩
noncomputable def tS_IsWord (x0:ByteArray):T :=
 .call false 72 [.string (x0),.int .u8 ((97:Int)),.int .u8 ((122:Int)),.int .u8 ((48:Int)),.int .u8 ((57:Int))] (.v (.o (.b))) fun y1 =>
 .br (y1) (
  .br (decide ((↑x0.size:Int)≤(12:Int))) (
   .rq ((0:Int)≤(0:Int)∧(0:Int)<(↑x0.size:Int)) <|
   .ret [.bool (decide (at0 x0 (Int.toNat (0:Int))≥(97:Int)))]) <|
  .ret [.bool (false)]) <|
 .ret [.bool (false)]
theorem fS_IsWord (x0:ByteArray):fits Tryz.prog aS_IsWord 35 [.string (x0)] (tS_IsWord x0) :=
 fitK (by kernel_rfl)
def aS_CurKnown:An:=⟨[],[],[]⟩
noncomputable def tS_CurKnown (x0:ByteArray):T :=
 .call false 73 [.string (x0)] (.v (.g [.s,.s,.i .i64,.i .i64])) fun y1 =>
 .ret [.bool (!ByteArray.toList y1.1 == { data:={ toList:=[]:Array UInt8 }:ByteArray }.toList)]
theorem fS_CurKnown (x0:ByteArray):fits Tryz.prog aS_CurKnown 36 [.string (x0)] (tS_CurKnown x0) :=
 fitK (by kernel_rfl)
def aS_AcctAt:An:=⟨[(2,[.s 10],[.o (.o (.i .i64))])],[],[]⟩
noncomputable def tS_AcctAt (x0:SlV × PUnit) (x1:ByteArray):T :=
 .lp [.o (.o (.i .i64))] [.v (.int .i64 ((0:Int)))] fun y1 =>
 .br (decide (y1.1<(↑x0.1.n:Int))) (
  .el (x0.1.1) (x0.1.n) (y1.1) fun y2 =>
  .ld false (y2.add (Int.toNat y1.1*(4:Nat))) (.g [.s,.s,.b,.l]) fun y3 =>
  .br (ByteArray.toList y3.1 == x1.toList) (
   .ret [.int .i64 (y1.1)]) <|
  .nx 0 [.v (.int .i64 (IntKind.i64.wrap (y1.1+(1:Int))))]) <|
 .ret [.int .i64 ((-1:Int))]
theorem fS_AcctAt (x0:SlV × PUnit) (x1:ByteArray):fits Tryz.prog aS_AcctAt 37 [Sh1.val (.g [.l]) (x0),.string (x1)] (tS_AcctAt x0 x1) :=
 fitK (by kernel_rfl)
def aS_BookOpen:An:=⟨[(5,[.s 9],[.o (.o (.i .i64))])],[],[]⟩
noncomputable def tS_BookOpen (x0:SlV × PUnit) (x1:ByteArray) (x2:ByteArray):T :=
 .call false 69 [Sh1.val (.g [.l]) (x0)] (.v (.o (.b))) fun y1 =>
 .br (!y1) (
  .ret [Sh1.val (.g [.l]) (nilS,()),.bool (false)]) <|
 .call false 37 [Sh1.val (.g [.l]) (x0),.string (x1)] (.v (.o (.i .i64))) fun y2 =>
 .br (decide (y2≥(0:Int))) (
  .ret [Sh1.val (.g [.l]) (nilS,()),.bool (false)]) <|
 .call false 74 [Sh1.val (.g [.l]) (x0)] (.v (.g [.l])) fun y3 =>
 .lp [.o (.o (.i .i64))] [.v (.int .i64 ((0:Int)))] fun y4 =>
 .br (decide (y4.1<(↑y3.1.n:Int))) (
  .el (y3.1.1) (y3.1.n) (y4.1) fun y5 =>
  .ld false ((y5.add (Int.toNat y4.1*(4:Nat))).add (0:Nat)) (.o (.s)) fun y6 =>
  .br (Op.bytesLess y6.toList x1.toList) (
   .nx 0 [.v (.int .i64 (IntKind.i64.wrap (y4.1+(1:Int))))]) <|
  .rq ((0:Int)≤(0:Int)∧(0:Int)≤y4.1∧y4.1≤(↑y3.1.c:Int)∧(↑y3.1.c:Int)≤(↑y3.1.c:Int)) <|
  .rd ({ a:=if (↑y3.1.c:Int).toNat=Int.toNat (0:Int) then y3.1.1 else Option.map (fun x=>x.add (Int.toNat (0:Int)*Proofs.Tryz.prog.types[(135:Nat)].size)) y3.1.1,n:=Int.toNat y4.1-Int.toNat (0:Int),c:=(↑y3.1.c:Int).toNat-Int.toNat (0:Int):SlV }) ((4:Nat)) fun y7 =>
  .rq (one y7=true∧((0:Nat)+(Int.toNat y4.1-Int.toNat (0:Int)))*(64:Nat)≤(140737488355328:Nat)∧(0:Nat)+(Int.toNat y4.1-Int.toNat (0:Int))≤(9223372036854775807:Nat)) <|
  .rq ([Value.string x1,Value.string x2,Value.bool false,Value.slice none (0:Nat) (0:Nat)].length=(1:Nat)*(4:Nat)) <|
  .rq (one [Value.string x1,Value.string x2,Value.bool false,Value.slice none (0:Nat) (0:Nat)]=true∧((0:Nat)+(Int.toNat y4.1-Int.toNat (0:Int))+(1:Nat))*(64:Nat)≤(140737488355328:Nat)∧(0:Nat)+(Int.toNat y4.1-Int.toNat (0:Int))+(1:Nat)≤(9223372036854775807:Nat)) <|
  .rq ((0:Int)≤y4.1∧y4.1≤(↑y3.1.n:Int)∧(↑y3.1.n:Int)≤(↑y3.1.c:Int)∧(↑y3.1.c:Int)≤(↑y3.1.c:Int)) <|
  .rd ({ a:=if (↑y3.1.c:Int).toNat=Int.toNat y4.1 then y3.1.1 else Option.map (fun x=>x.add (Int.toNat y4.1*Proofs.Tryz.prog.types[(135:Nat)].size)) y3.1.1,n:=(↑y3.1.n:Int).toNat-Int.toNat y4.1,c:=(↑y3.1.c:Int).toNat-Int.toNat y4.1:SlV }) ((4:Nat)) fun y8 =>
  .rq (one y8=true∧((0:Nat)+(Int.toNat y4.1-Int.toNat (0:Int))+(1:Nat)+((↑y3.1.n:Int).toNat-Int.toNat y4.1))*(64:Nat)≤(140737488355328:Nat)∧(0:Nat)+(Int.toNat y4.1-Int.toNat (0:Int))+(1:Nat)+((↑y3.1.n:Int).toNat-Int.toNat y4.1)≤(9223372036854775807:Nat)) <|
  .fz ((0:Nat)+(Int.toNat y4.1-Int.toNat (0:Int))+(1:Nat)+((↑y3.1.n:Int).toNat-Int.toNat y4.1)) ([]++y7++[Value.string x1,Value.string x2,Value.bool false,Value.slice none (0:Nat) (0:Nat)]++y8) 135 fun b9 c9 =>
  .call false 69 [Sh1.val (.g [.l]) ((⟨(some { block:=b9,off:=(0:Nat):Addr }),((0:Nat)+(Int.toNat y4.1-Int.toNat (0:Int))+(1:Nat)+((↑y3.1.n:Int).toNat-Int.toNat y4.1)),(c9)⟩:SlV),())] (.v (.o (.b))) fun y10 =>
  .br (!y10) (
   .ret [Sh1.val (.g [.l]) (nilS,()),.bool (false)]) <|
  .ret [Sh1.val (.g [.l]) ((⟨(some { block:=b9,off:=(0:Nat):Addr }),((0:Nat)+(Int.toNat y4.1-Int.toNat (0:Int))+(1:Nat)+((↑y3.1.n:Int).toNat-Int.toNat y4.1)),(c9)⟩:SlV),()),.bool (true)]) <|
 .rq ((0:Int)≤(0:Int)∧(0:Int)≤y4.1∧y4.1≤(↑y3.1.c:Int)∧(↑y3.1.c:Int)≤(↑y3.1.c:Int)) <|
 .rd ({ a:=if (↑y3.1.c:Int).toNat=Int.toNat (0:Int) then y3.1.1 else Option.map (fun x=>x.add (Int.toNat (0:Int)*Proofs.Tryz.prog.types[(135:Nat)].size)) y3.1.1,n:=Int.toNat y4.1-Int.toNat (0:Int),c:=(↑y3.1.c:Int).toNat-Int.toNat (0:Int):SlV }) ((4:Nat)) fun y5 =>
 .rq (one y5=true∧((0:Nat)+(Int.toNat y4.1-Int.toNat (0:Int)))*(64:Nat)≤(140737488355328:Nat)∧(0:Nat)+(Int.toNat y4.1-Int.toNat (0:Int))≤(9223372036854775807:Nat)) <|
 .rq ([Value.string x1,Value.string x2,Value.bool false,Value.slice none (0:Nat) (0:Nat)].length=(1:Nat)*(4:Nat)) <|
 .rq (one [Value.string x1,Value.string x2,Value.bool false,Value.slice none (0:Nat) (0:Nat)]=true∧((0:Nat)+(Int.toNat y4.1-Int.toNat (0:Int))+(1:Nat))*(64:Nat)≤(140737488355328:Nat)∧(0:Nat)+(Int.toNat y4.1-Int.toNat (0:Int))+(1:Nat)≤(9223372036854775807:Nat)) <|
 .rq ((0:Int)≤y4.1∧y4.1≤(↑y3.1.n:Int)∧(↑y3.1.n:Int)≤(↑y3.1.c:Int)∧(↑y3.1.c:Int)≤(↑y3.1.c:Int)) <|
 .rd ({ a:=if (↑y3.1.c:Int).toNat=Int.toNat y4.1 then y3.1.1 else Option.map (fun x=>x.add (Int.toNat y4.1*Proofs.Tryz.prog.types[(135:Nat)].size)) y3.1.1,n:=(↑y3.1.n:Int).toNat-Int.toNat y4.1,c:=(↑y3.1.c:Int).toNat-Int.toNat y4.1:SlV }) ((4:Nat)) fun y6 =>
 .rq (one y6=true∧((0:Nat)+(Int.toNat y4.1-Int.toNat (0:Int))+(1:Nat)+((↑y3.1.n:Int).toNat-Int.toNat y4.1))*(64:Nat)≤(140737488355328:Nat)∧(0:Nat)+(Int.toNat y4.1-Int.toNat (0:Int))+(1:Nat)+((↑y3.1.n:Int).toNat-Int.toNat y4.1)≤(9223372036854775807:Nat)) <|
 .fz ((0:Nat)+(Int.toNat y4.1-Int.toNat (0:Int))+(1:Nat)+((↑y3.1.n:Int).toNat-Int.toNat y4.1)) ([]++y5++[Value.string x1,Value.string x2,Value.bool false,Value.slice none (0:Nat) (0:Nat)]++y6) 135 fun b7 c7 =>
 .call false 69 [Sh1.val (.g [.l]) ((⟨(some { block:=b7,off:=(0:Nat):Addr }),((0:Nat)+(Int.toNat y4.1-Int.toNat (0:Int))+(1:Nat)+((↑y3.1.n:Int).toNat-Int.toNat y4.1)),(c7)⟩:SlV),())] (.v (.o (.b))) fun y8 =>
 .br (!y8) (
  .ret [Sh1.val (.g [.l]) (nilS,()),.bool (false)]) <|
 .ret [Sh1.val (.g [.l]) ((⟨(some { block:=b7,off:=(0:Nat):Addr }),((0:Nat)+(Int.toNat y4.1-Int.toNat (0:Int))+(1:Nat)+((↑y3.1.n:Int).toNat-Int.toNat y4.1)),(c7)⟩:SlV),()),.bool (true)]
theorem fS_BookOpen (x0:SlV × PUnit) (x1:ByteArray) (x2:ByteArray):fits Tryz.prog aS_BookOpen 38 [Sh1.val (.g [.l]) (x0),.string (x1),.string (x2)] (tS_BookOpen x0 x1 x2) :=
 fitK (by kernel_rfl)
def aS_l20Copy:An:=⟨[],[],[]⟩
noncomputable def tS_l20Copy (x0:SlV × SlV × ByteArray × SlV × PUnit):T :=
 .rg <|
 .call true 74 [Sh1.val (.g [.l]) (x0.1,())] (.v (.g [.l])) fun y1 =>
 .call true 75 [Sc.val .l (x0.2.1)] (.v (.o (.l))) fun y2 =>
 .call false 76 [Sh1.val (.g [.s,.l]) (x0.2.2)] (.v (.g [.s,.l])) fun y3 =>
 .ret [Sh1.val (.g [.l,.l,.s,.l]) (y1.1,y2,(y3.1),y3.2.1,())]
theorem fS_l20Copy (x0:SlV × SlV × ByteArray × SlV × PUnit):fits Tryz.prog aS_l20Copy 39 [Sh1.val (.g [.l,.l,.s,.l]) (x0)] (tS_l20Copy x0) :=
 fitK (by kernel_rfl)
def aL_toBook:An:=⟨[],[],[]⟩
noncomputable def tL_toBook (x0:SlV × PUnit):T :=
 .call false 77 [Sc.val .l (x0.1)] (.v (.o (.l))) fun y1 =>
 .ret [Sh1.val (.g [.l]) (y1,())]
theorem fL_toBook (x0:SlV × PUnit):fits Tryz.prog aL_toBook 40 [Sh1.val (.g [.l]) (x0)] (tL_toBook x0) :=
 fitK (by kernel_rfl)
def aL_toRestS:An:=⟨[(3,[.s 3,.s 4],[.a 143,.o (.o (.i .i64))])],[],[]⟩
noncomputable def tL_toRestS (x0:SlV):T :=
 .rq ((0:Int)≤(↑x0.n:Int)∧(↑x0.n:Int)≤(↑x0.n:Int)∧(↑(72:Nat):Int)*(↑x0.n:Int)≤(281474976710656:Int)∧(↑x0.n:Int)≤(9223372036854775807:Int)) <|
 .lp [.a 143,.o (.o (.i .i64))] [.a 143 ((↑x0.n:Int).toNat) ((madeCells { toList:=[Value.string { data:={ toList:=[]:Array UInt8 }:ByteArray },Value.bool false,Value.slice none (0:Nat) (0:Nat),Value.slice none (0:Nat) (0:Nat)]:Array Value } ((↑x0.n:Int).toNat*(4:Nat))).toList),.v (.int .i64 ((0:Int)))] fun y1 =>
 .br (decide (y1.2.1<(↑x0.n:Int))) (
  .el (x0.1) (x0.n) (y1.2.1) fun y2 =>
  .ld false (y2.add (Int.toNat y1.2.1*(4:Nat))) (.g [.s,.b,.l,.l]) fun y3 =>
  .call false 78 [Sh1.val (.g [.s,.b,.l,.l]) (y3)] (.v (.g [.s,.b,.l,.l])) fun y4 =>
  .rq ((0:Int)≤y1.2.1∧y1.2.1<(↑y1.1.1:Int)) <|
  .rq (Int.toNat y1.2.1*(4:Nat)+[Value.string y4.1,Value.bool y4.2.1,Value.slice y4.2.2.1.1 y4.2.2.1.n y4.2.2.1.c,Value.slice y4.2.2.2.1.1 y4.2.2.2.1.n y4.2.2.2.1.c].length≤y1.1.2.length) <|
  .nx 0 [.a 143 (y1.1.1) (setl y1.1.2 (Int.toNat y1.2.1*(4:Nat)) [Value.string y4.1,Value.bool y4.2.1,Value.slice y4.2.2.1.1 y4.2.2.1.n y4.2.2.1.c,Value.slice y4.2.2.2.1.1 y4.2.2.2.1.n y4.2.2.2.1.c]),.v (.int .i64 (IntKind.i64.wrap (y1.2.1+(1:Int))))]) <|
 .fz (y1.1.1) (y1.1.2) 143 fun b2 c2 =>
 .ret [.slice (some { block:=b2,off:=(0:Nat):Addr }) (y1.1.1) (c2)]
theorem fL_toRestS (x0:SlV):fits Tryz.prog aL_toRestS 41 [Sc.val .l (x0)] (tL_toRestS x0) :=
 fitK (by kernel_rfl)
def aL_toRates:An:=⟨[],[],[]⟩
noncomputable def tL_toRates (x0:ByteArray × SlV × PUnit):T :=
 .call false 79 [Sc.val .l (x0.2.1)] (.v (.o (.l))) fun y1 =>
 .ret [Sh1.val (.g [.s,.l]) ((x0.1),y1,())]
theorem fL_toRates (x0:ByteArray × SlV × PUnit):fits Tryz.prog aL_toRates 42 [Sh1.val (.g [.s,.l]) (x0)] (tL_toRates x0) :=
 fitK (by kernel_rfl)
def aI_perform_opOpen:An:=⟨[],[],[]⟩
noncomputable def tI_perform_opOpen (x0:SlV × SlV × ByteArray × SlV × PUnit) (x1:ByteArray × ByteArray × PUnit):T :=
 .call false 80 [Sh1.val (.g [.l,.l,.s,.l]) (x0)] (.v (.o (.b))) fun y1 =>
 .br (!y1) (
  .ret [Sh1.val (.g [.l,.l,.s,.l]) (nilS,nilS,({ data:={ toList:=[]:Array UInt8 }:ByteArray }),nilS,()),.int .i64 ((1:Int))]) <|
 .rg <|
 .call false 81 [Sh1.val (.g [.l,.l,.s,.l]) (x0)] (.v (.g [.l,.l,.s,.l])) fun y2 =>
 .call false 190 [Sh1.val (.g [.s,.s]) (x1),Sh1.val (.g [.l,.l,.s,.l]) (y2)] (.t [(.g [.l,.l,.s,.l]),(.o (.i .i64))]) fun y3 =>
 .br (y3.2.1 != (0:Int)) (
  .ret [Sh1.val (.g [.l,.l,.s,.l]) (nilS,nilS,({ data:={ toList:=[]:Array UInt8 }:ByteArray }),nilS,()),.int .i64 (y3.2.1)]) <|
 .ret [Sh1.val (.g [.l,.l,.s,.l]) (y3.1),.int .i64 ((0:Int))]
theorem fI_perform_opOpen (x0:SlV × SlV × ByteArray × SlV × PUnit) (x1:ByteArray × ByteArray × PUnit):fits Tryz.prog aI_perform_opOpen 43 [Sh1.val (.g [.l,.l,.s,.l]) (x0),.iface 91 (Sh1.val (.g [.s,.s]) (x1))] (tI_perform_opOpen x0 x1) :=
 fitK (by kernel_rfl)
def aL_eqBook:An:=⟨[],[],[]⟩
noncomputable def tL_eqBook (x0:SlV × PUnit) (x1:SlV × PUnit):T :=
 .call false 82 [Sc.val .l (x0.1),Sc.val .l (x1.1)] (.v (.o (.b))) fun y1 =>
 .br (!y1) (
  .ret [.bool (false)]) <|
 .ret [.bool (true)]
theorem fL_eqBook (x0:SlV × PUnit) (x1:SlV × PUnit):fits Tryz.prog aL_eqBook 44 [Sh1.val (.g [.l]) (x0),Sh1.val (.g [.l]) (x1)] (tL_eqBook x0 x1) :=
 fitK (by kernel_rfl)
def aL_eqRestS:An:=⟨[(4,[.s 5],[.o (.o (.i .i64))])],[],[]⟩
noncomputable def tL_eqRestS (x0:SlV) (x1:SlV):T :=
 .br ((↑x0.n:Int) != (↑x1.n:Int)) (
  .ret [.bool (false)]) <|
 .lp [.o (.o (.i .i64))] [.v (.int .i64 ((0:Int)))] fun y1 =>
 .br (decide (y1.1<(↑x0.n:Int))) (
  .rg <|
  .el (x0.1) (x0.n) (y1.1) fun y2 =>
  .ld true (y2.add (Int.toNat y1.1*(4:Nat))) (.g [.s,.b,.l,.l]) fun y3 =>
  .el (x1.1) (x1.n) (y1.1) fun y4 =>
  .ld true (y4.add (Int.toNat y1.1*(4:Nat))) (.g [.s,.b,.l,.l]) fun y5 =>
  .call false 83 [Sh1.val (.g [.s,.b,.l,.l]) (y3),Sh1.val (.g [.s,.b,.l,.l]) (y5)] (.v (.o (.b))) fun y6 =>
  .br (!y6) (
   .ret [.bool (false)]) <|
  .nx 0 [.v (.int .i64 (IntKind.i64.wrap (y1.1+(1:Int))))]) <|
 .ret [.bool (true)]
theorem fL_eqRestS (x0:SlV) (x1:SlV):fits Tryz.prog aL_eqRestS 45 [Sc.val .l (x0),Sc.val .l (x1)] (tL_eqRestS x0 x1) :=
 fitK (by kernel_rfl)
def aL_eqRates:An:=⟨[],[],[]⟩
noncomputable def tL_eqRates (x0:ByteArray × SlV × PUnit) (x1:ByteArray × SlV × PUnit):T :=
 .br (!ByteArray.toList x0.1 == ByteArray.toList x1.1) (
  .ret [.bool (false)]) <|
 .call false 84 [Sc.val .l (x0.2.1),Sc.val .l (x1.2.1)] (.v (.o (.b))) fun y1 =>
 .br (!y1) (
  .ret [.bool (false)]) <|
 .ret [.bool (true)]
theorem fL_eqRates (x0:ByteArray × SlV × PUnit) (x1:ByteArray × SlV × PUnit):fits Tryz.prog aL_eqRates 46 [Sh1.val (.g [.s,.l]) (x0),Sh1.val (.g [.s,.l]) (x1)] (tL_eqRates x0 x1) :=
 fitK (by kernel_rfl)
def aL_markBook:An:=⟨[],[],[]⟩
noncomputable def tL_markBook (x0:SlV × PUnit) (x1:Int):T :=
 .call false 85 [Sc.val .l (x0.1),.int .i64 (x1)] (.v (.o (.i .i64))) fun y1 =>
 .ret [.int .i64 (y1)]
theorem fL_markBook (x0:SlV × PUnit) (x1:Int):fits Tryz.prog aL_markBook 47 [Sh1.val (.g [.l]) (x0),.int .i64 (x1)] (tL_markBook x0 x1) :=
 fitK (by kernel_rfl)
def aL_markRestS:An:=⟨[(2,[.s 1,.s 5],[.o (.o (.i .i64)),.o (.o (.i .i64))])],[],[]⟩
noncomputable def tL_markRestS (x0:SlV) (x1:Int):T :=
 .lp [.o (.o (.i .i64)),.o (.o (.i .i64))] [.v (.int .i64 (x1)),.v (.int .i64 ((0:Int)))] fun y1 =>
 .br (decide (y1.2.1<(↑x0.n:Int))) (
  .call false 86 [.int .i64 (y1.1)] (.v (.o (.s))) fun y2 =>
  .el (x0.1) (x0.n) (y1.2.1) fun y3 =>
  .st ((y3.add (Int.toNat y1.2.1*(4:Nat))).add (0:Nat)) [.string (y2)] <|
  .rq ((3:Int)≠(0:Int)) <|
  .el (x0.1) (x0.n) (y1.2.1) fun y4 =>
  .st ((((y4.add (Int.toNat y1.2.1*(4:Nat))).add (1:Nat)).add (0:Nat)).add (0:Nat)) [.bool ((IntKind.i64.wrap (y1.1+(1:Int))).tmod (3:Int) == (0:Int))] <|
  .el (x0.1) (x0.n) (y1.2.1) fun y5 =>
  .ld false ((((y5.add (Int.toNat y1.2.1*(4:Nat))).add (1:Nat)).add (0:Nat)).add (1:Nat)) (.o (.l)) fun y6 =>
  .call false 87 [Sc.val .l (y6),.int .i64 (IntKind.i64.wrap (IntKind.i64.wrap (y1.1+(1:Int))+(1:Int)))] (.v (.o (.i .i64))) fun y7 =>
  .el (x0.1) (x0.n) (y1.2.1) fun y8 =>
  .ld false (((y8.add (Int.toNat y1.2.1*(4:Nat))).add (1:Nat)).add (2:Nat)) (.o (.l)) fun y9 =>
  .call false 87 [Sc.val .l (y9),.int .i64 (y7)] (.v (.o (.i .i64))) fun y10 =>
  .nx 0 [.v (.int .i64 (y10)),.v (.int .i64 (IntKind.i64.wrap (y1.2.1+(1:Int))))]) <|
 .ret [.int .i64 (y1.1)]
theorem fL_markRestS (x0:SlV) (x1:Int):fits Tryz.prog aL_markRestS 48 [Sc.val .l (x0),.int .i64 (x1)] (tL_markRestS x0 x1) :=
 fitK (by kernel_rfl)
def aL_markRates:An:=⟨[],[],[]⟩
noncomputable def tL_markRates (x0:ByteArray × SlV × PUnit) (x1:Int):T :=
 .call false 88 [Sc.val .l (x0.2.1),.int .i64 (x1)] (.v (.o (.i .i64))) fun y1 =>
 .ret [.int .i64 (y1)]
theorem fL_markRates (x0:ByteArray × SlV × PUnit) (x1:Int):fits Tryz.prog aL_markRates 49 [Sh1.val (.g [.s,.l]) (x0),.int .i64 (x1)] (tL_markRates x0 x1) :=
 fitK (by kernel_rfl)
def aL_heldBook:An:=⟨[],[],[]⟩
noncomputable def tL_heldBook (x0:SlV × PUnit) (x1:Int):T :=
 .call false 89 [Sc.val .l (x0.1),.int .i64 (x1)] (.v (.o (.i .i64))) fun y1 =>
 .br (decide (y1<(0:Int))) (
  .ret [.int .i64 ((-1:Int))]) <|
 .ret [.int .i64 (y1)]
theorem fL_heldBook (x0:SlV × PUnit) (x1:Int):fits Tryz.prog aL_heldBook 50 [Sh1.val (.g [.l]) (x0),.int .i64 (x1)] (tL_heldBook x0 x1) :=
 fitK (by kernel_rfl)
def aL_heldRestS:An:=⟨[(2,[.s 1,.s 5],[.o (.o (.i .i64)),.o (.o (.i .i64))])],[],[]⟩
noncomputable def tL_heldRestS (x0:SlV) (x1:Int):T :=
 .lp [.o (.o (.i .i64)),.o (.o (.i .i64))] [.v (.int .i64 (x1)),.v (.int .i64 ((0:Int)))] fun y1 =>
 .br (decide (y1.2.1<(↑x0.n:Int))) (
  .rg <|
  .el (x0.1) (x0.n) (y1.2.1) fun y2 =>
  .ld true ((y2.add (Int.toNat y1.2.1*(4:Nat))).add (0:Nat)) (.o (.s)) fun y3 =>
  .call true 86 [.int .i64 (y1.1)] (.v (.o (.s))) fun y4 =>
  .br (!y3.toList == y4.toList) (
   .ret [.int .i64 ((-1:Int))]) <|
  .el (x0.1) (x0.n) (y1.2.1) fun y5 =>
  .ld false ((((y5.add (Int.toNat y1.2.1*(4:Nat))).add (1:Nat)).add (0:Nat)).add (0:Nat)) (.o (.b)) fun y6 =>
  .rq ((3:Int)≠(0:Int)) <|
  .br (!y6 == ((IntKind.i64.wrap (y1.1+(1:Int))).tmod (3:Int) == (0:Int))) (
   .ret [.int .i64 ((-1:Int))]) <|
  .el (x0.1) (x0.n) (y1.2.1) fun y7 =>
  .ld false ((((y7.add (Int.toNat y1.2.1*(4:Nat))).add (1:Nat)).add (0:Nat)).add (1:Nat)) (.o (.l)) fun y8 =>
  .call false 90 [Sc.val .l (y8),.int .i64 (IntKind.i64.wrap (IntKind.i64.wrap (y1.1+(1:Int))+(1:Int)))] (.v (.o (.i .i64))) fun y9 =>
  .br (decide (y9<(0:Int))) (
   .ret [.int .i64 ((-1:Int))]) <|
  .el (x0.1) (x0.n) (y1.2.1) fun y10 =>
  .ld false (((y10.add (Int.toNat y1.2.1*(4:Nat))).add (1:Nat)).add (2:Nat)) (.o (.l)) fun y11 =>
  .call false 90 [Sc.val .l (y11),.int .i64 (y9)] (.v (.o (.i .i64))) fun y12 =>
  .br (decide (y12<(0:Int))) (
   .ret [.int .i64 ((-1:Int))]) <|
  .nx 0 [.v (.int .i64 (y12)),.v (.int .i64 (IntKind.i64.wrap (y1.2.1+(1:Int))))]) <|
 .ret [.int .i64 (y1.1)]
theorem fL_heldRestS (x0:SlV) (x1:Int):fits Tryz.prog aL_heldRestS 51 [Sc.val .l (x0),.int .i64 (x1)] (tL_heldRestS x0 x1) :=
 fitK (by kernel_rfl)
def aL_heldRates:An:=⟨[],[],[]⟩
noncomputable def tL_heldRates (x0:ByteArray × SlV × PUnit) (x1:Int):T :=
 .call false 91 [Sc.val .l (x0.2.1),.int .i64 (x1)] (.v (.o (.i .i64))) fun y1 =>
 .br (decide (y1<(0:Int))) (
  .ret [.int .i64 ((-1:Int))]) <|
 .ret [.int .i64 (y1)]
theorem fL_heldRates (x0:ByteArray × SlV × PUnit) (x1:Int):fits Tryz.prog aL_heldRates 52 [Sh1.val (.g [.s,.l]) (x0),.int .i64 (x1)] (tL_heldRates x0 x1) :=
 fitK (by kernel_rfl)
def aL_szDec:An:=⟨[],[],[]⟩
noncomputable def tL_szDec (x0:Bool × SlV × Int × PUnit) (x1:Int):T :=
 .call false 59 [Sh1.val (.g [.b,.l]) ((x0.1),x0.2.1,()),.int .i64 (x1)] (.v (.o (.i .i64))) fun y1 =>
 .br (decide (y1<(0:Int))) (
  .ret [.int .i64 ((-1:Int))]) <|
 .ret [.int .i64 (y1)]
theorem fL_szDec (x0:Bool × SlV × Int × PUnit) (x1:Int):fits Tryz.prog aL_szDec 53 [Sh1.val (.g [.b,.l,.i .i64]) (x0),.int .i64 (x1)] (tL_szDec x0 x1) :=
 fitK (by kernel_rfl)
def aS_RateOk:An:=⟨[],[],[]⟩
noncomputable def tS_RateOk (x0:ByteArray × ByteArray × Bool × SlV × Int × PUnit):T :=
 .call false 36 [.string (x0.1)] (.v (.o (.b))) fun y1 =>
 .br (y1) (
  .call false 36 [.string (x0.2.1)] (.v (.o (.b))) fun y2 =>
  .br (y2) (
   .br (!ByteArray.toList x0.1 == ByteArray.toList x0.2.1) (
    .call false 92 [Sh1.val (.g [.b,.l,.i .i64]) (x0.2.2)] (.v (.o (.b))) fun y3 =>
    .br (y3) (
     .call false 93 [Sh1.val (.g [.b,.l]) ((x0.2.2.1),x0.2.2.2.1,())] (.v (.o (.i .i64))) fun y4 =>
     .br (decide (y4 > (0:Int))) (
      .ret [.bool (decide ((↑x0.2.2.2.1.n:Int)≤(2:Int)))]) <|
     .ret [.bool (false)]) <|
    .ret [.bool (false)]) <|
   .ret [.bool (false)]) <|
  .ret [.bool (false)]) <|
 .ret [.bool (false)]
theorem fS_RateOk (x0:ByteArray × ByteArray × Bool × SlV × Int × PUnit):fits Tryz.prog aS_RateOk 54 [Sh1.val (.g [.s,.s,.b,.l,.i .i64]) (x0)] (tS_RateOk x0) :=
 fitK (by kernel_rfl)
def aL_toDec:An:=⟨[],[],[]⟩
noncomputable def tL_toDec (x0:Bool × SlV × Int × PUnit):T :=
 .call false 62 [Sh1.val (.g [.b,.l]) ((x0.1),x0.2.1,())] (.v (.g [.b,.l])) fun y1 =>
 .ret [Sh1.val (.g [.b,.l,.i .i64]) ((y1.1),y1.2.1,((x0.2.2.1):Int),())]
theorem fL_toDec (x0:Bool × SlV × Int × PUnit):fits Tryz.prog aL_toDec 56 [Sh1.val (.g [.b,.l,.i .i64]) (x0)] (tL_toDec x0) :=
 fitK (by kernel_rfl)
def aL_eqDec:An:=⟨[],[],[]⟩
noncomputable def tL_eqDec (x0:Bool × SlV × Int × PUnit) (x1:Bool × SlV × Int × PUnit):T :=
 .call false 63 [Sh1.val (.g [.b,.l]) ((x0.1),x0.2.1,()),Sh1.val (.g [.b,.l]) ((x1.1),x1.2.1,())] (.v (.o (.b))) fun y1 =>
 .br (!y1) (
  .ret [.bool (false)]) <|
 .br (x0.2.2.1 != x1.2.2.1) (
  .ret [.bool (false)]) <|
 .ret [.bool (true)]
theorem fL_eqDec (x0:Bool × SlV × Int × PUnit) (x1:Bool × SlV × Int × PUnit):fits Tryz.prog aL_eqDec 57 [Sh1.val (.g [.b,.l,.i .i64]) (x0),Sh1.val (.g [.b,.l,.i .i64]) (x1)] (tL_eqDec x0 x1) :=
 fitK (by kernel_rfl)
def aL_szSigned:An:=⟨[],[],[]⟩
noncomputable def tL_szSigned (x0:Bool × SlV × PUnit) (x1:Int):T :=
 .call false 97 [Sc.val .l (x0.2.1),.int .i64 (x1)] (.v (.o (.i .i64))) fun y1 =>
 .br (decide (y1<(0:Int))) (
  .ret [.int .i64 ((-1:Int))]) <|
 .ret [.int .i64 (y1)]
theorem fL_szSigned (x0:Bool × SlV × PUnit) (x1:Int):fits Tryz.prog aL_szSigned 59 [Sh1.val (.g [.b,.l]) (x0),.int .i64 (x1)] (tL_szSigned x0 x1) :=
 fitK (by kernel_rfl)
def aL_toSigned:An:=⟨[],[],[]⟩
noncomputable def tL_toSigned (x0:Bool × SlV × PUnit):T :=
 .call false 100 [Sc.val .l (x0.2.1)] (.v (.o (.l))) fun y1 =>
 .ret [Sh1.val (.g [.b,.l]) ((x0.1),y1,())]
theorem fL_toSigned (x0:Bool × SlV × PUnit):fits Tryz.prog aL_toSigned 62 [Sh1.val (.g [.b,.l]) (x0)] (tL_toSigned x0) :=
 fitK (by kernel_rfl)
def aL_eqSigned:An:=⟨[],[],[]⟩
noncomputable def tL_eqSigned (x0:Bool × SlV × PUnit) (x1:Bool × SlV × PUnit):T :=
 .br (!x0.1 == x1.1) (
  .ret [.bool (false)]) <|
 .call false 101 [Sc.val .l (x0.2.1),Sc.val .l (x1.2.1)] (.v (.o (.b))) fun y1 =>
 .br (!y1) (
  .ret [.bool (false)]) <|
 .ret [.bool (true)]
theorem fL_eqSigned (x0:Bool × SlV × PUnit) (x1:Bool × SlV × PUnit):fits Tryz.prog aL_eqSigned 63 [Sh1.val (.g [.b,.l]) (x0),Sh1.val (.g [.b,.l]) (x1)] (tL_eqSigned x0 x1) :=
 fitK (by kernel_rfl)
def aL_szAcctS:An:=⟨[(5,[.s 1,.s 5],[.o (.o (.i .i64)),.o (.o (.i .i64))])],[],[]⟩
noncomputable def tL_szAcctS (x0:SlV) (x1:Int):T :=
 .br (decide (IntKind.i64.wrap (x1-(↑x0.n:Int))<(0:Int))) (
  .ret [.int .i64 ((-1:Int))]) <|
 .lp [.o (.o (.i .i64)),.o (.o (.i .i64))] [.v (.int .i64 (IntKind.i64.wrap (x1-(↑x0.n:Int)))),.v (.int .i64 ((0:Int)))] fun y1 =>
 .br (decide (y1.2.1<(↑x0.n:Int))) (
  .el (x0.1) (x0.n) (y1.2.1) fun y2 =>
  .ld false (y2.add (Int.toNat y1.2.1*(4:Nat))) (.g [.s,.s,.b,.l]) fun y3 =>
  .call false 103 [Sh1.val (.g [.s,.s,.b,.l]) (y3),.int .i64 (y1.1)] (.v (.o (.i .i64))) fun y4 =>
  .br (decide (y4<(0:Int))) (
   .ret [.int .i64 ((-1:Int))]) <|
  .nx 0 [.v (.int .i64 (y4)),.v (.int .i64 (IntKind.i64.wrap (y1.2.1+(1:Int))))]) <|
 .ret [.int .i64 (y1.1)]
theorem fL_szAcctS (x0:SlV) (x1:Int):fits Tryz.prog aL_szAcctS 66 [Sc.val .l (x0),.int .i64 (x1)] (tL_szAcctS x0 x1) :=
 fitK (by kernel_rfl)
def aL_szRest:An:=⟨[],[],[]⟩
noncomputable def tL_szRest (x0:ByteArray × Bool × SlV × SlV × PUnit) (x1:Int):T :=
 .br (decide (IntKind.i64.wrap (x1-(↑(ByteArray.size x0.1):Int))<(0:Int))) (
  .ret [.int .i64 ((-1:Int))]) <|
 .call false 104 [Sh1.val (.g [.b,.l,.l]) (x0.2),.int .i64 (IntKind.i64.wrap (x1-(↑(ByteArray.size x0.1):Int)))] (.v (.o (.i .i64))) fun y1 =>
 .br (decide (y1<(0:Int))) (
  .ret [.int .i64 ((-1:Int))]) <|
 .ret [.int .i64 (y1)]
theorem fL_szRest (x0:ByteArray × Bool × SlV × SlV × PUnit) (x1:Int):fits Tryz.prog aL_szRest 67 [Sh1.val (.g [.s,.b,.l,.l]) (x0),.int .i64 (x1)] (tL_szRest x0 x1) :=
 fitK (by kernel_rfl)
def aL_szRateS:An:=⟨[(5,[.s 1,.s 5],[.o (.o (.i .i64)),.o (.o (.i .i64))])],[],[]⟩
noncomputable def tL_szRateS (x0:SlV) (x1:Int):T :=
 .br (decide (IntKind.i64.wrap (x1-(↑x0.n:Int))<(0:Int))) (
  .ret [.int .i64 ((-1:Int))]) <|
 .lp [.o (.o (.i .i64)),.o (.o (.i .i64))] [.v (.int .i64 (IntKind.i64.wrap (x1-(↑x0.n:Int)))),.v (.int .i64 ((0:Int)))] fun y1 =>
 .br (decide (y1.2.1<(↑x0.n:Int))) (
  .el (x0.1) (x0.n) (y1.2.1) fun y2 =>
  .ld false (y2.add (Int.toNat y1.2.1*(5:Nat))) (.g [.s,.s,.b,.l,.i .i64]) fun y3 =>
  .call false 15 [Sh1.val (.g [.s,.s,.b,.l,.i .i64]) (y3),.int .i64 (y1.1)] (.v (.o (.i .i64))) fun y4 =>
  .br (decide (y4<(0:Int))) (
   .ret [.int .i64 ((-1:Int))]) <|
  .nx 0 [.v (.int .i64 (y4)),.v (.int .i64 (IntKind.i64.wrap (y1.2.1+(1:Int))))]) <|
 .ret [.int .i64 (y1.1)]
theorem fL_szRateS (x0:SlV) (x1:Int):fits Tryz.prog aL_szRateS 68 [Sc.val .l (x0),.int .i64 (x1)] (tL_szRateS x0 x1) :=
 fitK (by kernel_rfl)
def aS_BookOk:An:=⟨[(2,[.s 8],[.o (.o (.i .i64))])],[],[]⟩
noncomputable def tS_BookOk (x0:SlV × PUnit):T :=
 .lp [.o (.o (.i .i64))] [.v (.int .i64 ((0:Int)))] fun y1 =>
 .br (decide (y1.1<(↑x0.1.n:Int))) (
  .el (x0.1.1) (x0.1.n) (y1.1) fun y2 =>
  .ld false (y2.add (Int.toNat y1.1*(4:Nat))) (.g [.s,.s,.b,.l]) fun y3 =>
  .rg <|
  .call true 35 [.string (y3.1)] (.v (.o (.b))) fun y4 =>
  .br (!y4) (
   .ret [.bool (false)]) <|
  .call true 98 [Sh1.val (.g [.s,.b,.l]) (y3.2)] (.v (.o (.b))) fun y5 =>
  .br (!y5) (
   .ret [.bool (false)]) <|
  .br (decide (y1.1 > (0:Int))) (
   .el (x0.1.1) (x0.1.n) (IntKind.i64.wrap (y1.1-(1:Int))) fun y6 =>
   .ld true ((y6.add ((IntKind.i64.wrap (y1.1-(1:Int))).toNat*(4:Nat))).add (0:Nat)) (.o (.s)) fun y7 =>
   .br (!Op.bytesLess y7.toList (ByteArray.toList y3.1)) (
    .ret [.bool (false)]) <|
   .nx 0 [.v (.int .i64 (IntKind.i64.wrap (y1.1+(1:Int))))]) <|
  .nx 0 [.v (.int .i64 (IntKind.i64.wrap (y1.1+(1:Int))))]) <|
 .ret [.bool (decide ((↑x0.1.n:Int)≤(12:Int)))]
theorem fS_BookOk (x0:SlV × PUnit):fits Tryz.prog aS_BookOk 69 [Sh1.val (.g [.l]) (x0)] (tS_BookOk x0) :=
 fitK (by kernel_rfl)
def aS_RestsOk:An:=⟨[(2,[.s 7],[.o (.o (.i .i64))])],[],[]⟩
noncomputable def tS_RestsOk (x0:SlV):T :=
 .lp [.o (.o (.i .i64))] [.v (.int .i64 ((0:Int)))] fun y1 =>
 .br (decide (y1.1<(↑x0.n:Int))) (
  .el (x0.1) (x0.n) (y1.1) fun y2 =>
  .ld false (y2.add (Int.toNat y1.1*(4:Nat))) (.g [.s,.b,.l,.l]) fun y3 =>
  .rg <|
  .call true 36 [.string (y3.1)] (.v (.o (.b))) fun y4 =>
  .br (!y4) (
   .ret [.bool (false)]) <|
  .call true 105 [Sh1.val (.g [.b,.l,.l]) (y3.2)] (.v (.o (.b))) fun y5 =>
  .br (!y5) (
   .ret [.bool (false)]) <|
  .call true 106 [Sh1.val (.g [.b,.l,.l]) (y3.2)] (.v (.o (.i .i64))) fun y6 =>
  .br (y6 == (0:Int)) (
   .ret [.bool (false)]) <|
  .br (decide (y1.1 > (0:Int))) (
   .el (x0.1) (x0.n) (IntKind.i64.wrap (y1.1-(1:Int))) fun y7 =>
   .ld true ((y7.add ((IntKind.i64.wrap (y1.1-(1:Int))).toNat*(4:Nat))).add (0:Nat)) (.o (.s)) fun y8 =>
   .br (!Op.bytesLess y8.toList (ByteArray.toList y3.1)) (
    .ret [.bool (false)]) <|
   .nx 0 [.v (.int .i64 (IntKind.i64.wrap (y1.1+(1:Int))))]) <|
  .nx 0 [.v (.int .i64 (IntKind.i64.wrap (y1.1+(1:Int))))]) <|
 .ret [.bool (true)]
theorem fS_RestsOk (x0:SlV):fits Tryz.prog aS_RestsOk 70 [Sc.val .l (x0)] (tS_RestsOk x0) :=
 fitK (by kernel_rfl)
def aS_RatesOk:An:=⟨[(4,[.s 18],[.o (.o (.i .i64))])],[],[]⟩
noncomputable def tS_RatesOk (x0:ByteArray × SlV × PUnit):T :=
 .call false 36 [.string (x0.1)] (.v (.o (.b))) fun y1 =>
 .br (!y1) (
  .ret [.bool (false)]) <|
 .br (decide ((↑x0.2.1.n:Int) > (12:Int))) (
  .ret [.bool (false)]) <|
 .lp [.o (.o (.i .i64))] [.v (.int .i64 ((0:Int)))] fun y2 =>
 .br (decide (y2.1<(↑x0.2.1.n:Int))) (
  .el (x0.2.1.1) (x0.2.1.n) (y2.1) fun y3 =>
  .ld false (y3.add (Int.toNat y2.1*(5:Nat))) (.g [.s,.s,.b,.l,.i .i64]) fun y4 =>
  .call false 54 [Sh1.val (.g [.s,.s,.b,.l,.i .i64]) (y4)] (.v (.o (.b))) fun y5 =>
  .br (!y5) (
   .ret [.bool (false)]) <|
  .call false 95 [Sc.val .l (x0.2.1),.string (y4.1),.string (y4.2.1)] (.v (.o (.i .i64))) fun y6 =>
  .br (y6 != y2.1) (
   .ret [.bool (false)]) <|
  .nx 0 [.v (.int .i64 (IntKind.i64.wrap (y2.1+(1:Int))))]) <|
 .ret [.bool (true)]
theorem fS_RatesOk (x0:ByteArray × SlV × PUnit):fits Tryz.prog aS_RatesOk 71 [Sh1.val (.g [.s,.l]) (x0)] (tS_RatesOk x0) :=
 fitK (by kernel_rfl)
def aS_l01All:An:=⟨[(2,[.s 11],[.o (.o (.i .i64))])],[],[]⟩
noncomputable def tS_l01All (x0:ByteArray) (x1:Int) (x2:Int) (x3:Int) (x4:Int):T :=
 .lp [.o (.o (.i .i64))] [.v (.int .i64 ((0:Int)))] fun y1 =>
 .br (decide (y1.1<(↑x0.size:Int))) (
  .rq ((0:Int)≤y1.1∧y1.1<(↑x0.size:Int)) <|
  .br (decide (at0 x0 (Int.toNat y1.1)<x1)) (
   .rq ((0:Int)≤y1.1∧y1.1<(↑x0.size:Int)) <|
   .br (decide (at0 x0 (Int.toNat y1.1)<x3)) (
    .ret [.bool (false)]) <|
   .rq ((0:Int)≤y1.1∧y1.1<(↑x0.size:Int)) <|
   .br (decide (at0 x0 (Int.toNat y1.1) > x4)) (
    .ret [.bool (false)]) <|
   .nx 0 [.v (.int .i64 (IntKind.i64.wrap (y1.1+(1:Int))))]) <|
  .rq ((0:Int)≤y1.1∧y1.1<(↑x0.size:Int)) <|
  .br (decide (at0 x0 (Int.toNat y1.1) > x2)) (
   .rq ((0:Int)≤y1.1∧y1.1<(↑x0.size:Int)) <|
   .br (decide (at0 x0 (Int.toNat y1.1)<x3)) (
    .ret [.bool (false)]) <|
   .rq ((0:Int)≤y1.1∧y1.1<(↑x0.size:Int)) <|
   .br (decide (at0 x0 (Int.toNat y1.1) > x4)) (
    .ret [.bool (false)]) <|
   .nx 0 [.v (.int .i64 (IntKind.i64.wrap (y1.1+(1:Int))))]) <|
  .nx 0 [.v (.int .i64 (IntKind.i64.wrap (y1.1+(1:Int))))]) <|
 .ret [.bool (decide ((↑x0.size:Int) > (0:Int)))]
theorem fS_l01All (x0:ByteArray) (x1:Int) (x2:Int) (x3:Int) (x4:Int):fits Tryz.prog aS_l01All 72 [.string (x0),.int .u8 (x1),.int .u8 (x2),.int .u8 (x3),.int .u8 (x4)] (tS_l01All x0 x1 x2 x3 x4) :=
 fitK (by kernel_rfl)
def aS_l08Find:An:=⟨[(2,[.s 7,.c 2 0,.c 2 1,.c 2 2,.c 2 3],[.o (.o (.i .i64)),.o (.o (.s)),.o (.o (.s)),.o (.o (.i .i64)),.o (.o (.i .i64))])],[],[]⟩
noncomputable def tS_l08Find (x0:ByteArray):T :=
 .call false 107 [] (.v (.o (.l))) fun y1 =>
 .lp [.o (.o (.i .i64)),.o (.o (.s)),.o (.o (.s)),.o (.o (.i .i64)),.o (.o (.i .i64))] [.v (.int .i64 ((0:Int))),.v (.string ({ data:={ toList:=[]:Array UInt8 }:ByteArray })),.v (.string ({ data:={ toList:=[]:Array UInt8 }:ByteArray })),.v (.int .i64 ((0:Int))),.v (.int .i64 ((0:Int)))] fun y2 =>
 .br (decide (y2.1<(↑y1.n:Int))) (
  .el (y1.1) (y1.n) (y2.1) fun y3 =>
  .ld false (y3.add (Int.toNat y2.1*(4:Nat))) (.g [.s,.s,.i .i64,.i .i64]) fun y4 =>
  .br (ByteArray.toList y4.1 == x0.toList) (
   .ret [Sh1.val (.g [.s,.s,.i .i64,.i .i64]) (y4)]) <|
  .nx 0 [.v (.int .i64 (IntKind.i64.wrap (y2.1+(1:Int)))),.v (.string (y2.2.1)),.v (.string (y2.2.2.1)),.v (.int .i64 (y2.2.2.2.1)),.v (.int .i64 (y2.2.2.2.2.1))]) <|
 .ret [Sh1.val (.g [.s,.s,.i .i64,.i .i64]) (({ data:={ toList:=[]:Array UInt8 }:ByteArray }),({ data:={ toList:=[]:Array UInt8 }:ByteArray }),(((0:Int)):Int),(((0:Int)):Int),())]
theorem fS_l08Find (x0:ByteArray):fits Tryz.prog aS_l08Find 73 [.string (x0)] (tS_l08Find x0) :=
 fitK (by kernel_rfl)
def aS_l17Copy:An:=⟨[(3,[.s 10,.c 3 0],[.o (.o (.i .i64)),.o (.o (.l))])],[],[]⟩
noncomputable def tS_l17Copy (x0:SlV × PUnit):T :=
 .lp [.o (.o (.i .i64)),.o (.o (.l))] [.v (.int .i64 ((0:Int))),.v (.slice (none) ((0:Nat)) ((0:Nat)))] fun y1 =>
 .br (decide (y1.1<(↑x0.1.n:Int))) (
  .el (x0.1.1) (x0.1.n) (y1.1) fun y2 =>
  .ld false (y2.add (Int.toNat y1.1*(4:Nat))) (.g [.s,.s,.b,.l]) fun y3 =>
  .rg <|
  .call true 108 [Sh1.val (.g [.s,.b,.l]) (y3.2)] (.v (.g [.s,.b,.l])) fun y4 =>
  .rq ([Value.string y3.1,Value.string y4.1,Value.bool y4.2.1,Value.slice y4.2.2.1.1 y4.2.2.1.n y4.2.2.1.c].length=(1:Nat)*(4:Nat)) <|
  .rq (one [Value.string y3.1,Value.string y4.1,Value.bool y4.2.1,Value.slice y4.2.2.1.1 y4.2.2.1.n y4.2.2.1.c]=true) <|
  .ap ({ a:=y1.2.1.1,n:=y1.2.1.n,c:=y1.2.1.c:SlV }) 4 64 [.string (y3.1),.string (y4.1),.bool (y4.2.1),Sc.val .l (y4.2.2.1)] ((1:Nat)) 135 fun y5 =>
  .nx 0 [.v (.int .i64 (IntKind.i64.wrap (y1.1+(1:Int)))),.v (Sc.val .l (y5))]) <|
 .ret [Sh1.val (.g [.l]) (y1.2)]
theorem fS_l17Copy (x0:SlV × PUnit):fits Tryz.prog aS_l17Copy 74 [Sh1.val (.g [.l]) (x0)] (tS_l17Copy x0) :=
 fitK (by kernel_rfl)
def aS_l19Copy:An:=⟨[(3,[.s 3,.s 9],[.o (.o (.l)),.o (.o (.i .i64))])],[],[]⟩
noncomputable def tS_l19Copy (x0:SlV):T :=
 .fz ((0:Nat)) [] 143 fun b1 c1 =>
 .lp [.o (.o (.l)),.o (.o (.i .i64))] [.v (.slice (some { block:=b1,off:=(0:Nat):Addr }) ((0:Nat)) (c1)),.v (.int .i64 ((0:Int)))] fun y2 =>
 .br (decide (y2.2.1<(↑x0.n:Int))) (
  .el (x0.1) (x0.n) (y2.2.1) fun y3 =>
  .ld false (y3.add (Int.toNat y2.2.1*(4:Nat))) (.g [.s,.b,.l,.l]) fun y4 =>
  .rg <|
  .call true 109 [Sh1.val (.g [.b,.l,.l]) (y4.2)] (.v (.g [.b,.l,.l])) fun y5 =>
  .rq ([Value.string y4.1,Value.bool y5.1,Value.slice y5.2.1.1 y5.2.1.n y5.2.1.c,Value.slice y5.2.2.1.1 y5.2.2.1.n y5.2.2.1.c].length=(1:Nat)*(4:Nat)) <|
  .rq (one [Value.string y4.1,Value.bool y5.1,Value.slice y5.2.1.1 y5.2.1.n y5.2.1.c,Value.slice y5.2.2.1.1 y5.2.2.1.n y5.2.2.1.c]=true) <|
  .ap ({ a:=y2.1.1,n:=y2.1.n,c:=y2.1.c:SlV }) 4 72 [.string (y4.1),.bool (y5.1),Sc.val .l (y5.2.1),Sc.val .l (y5.2.2.1)] ((1:Nat)) 143 fun y6 =>
  .nx 0 [.v (Sc.val .l (y6)),.v (.int .i64 (IntKind.i64.wrap (y2.2.1+(1:Int))))]) <|
 .ret [Sc.val .l (y2.1)]
theorem fS_l19Copy (x0:SlV):fits Tryz.prog aS_l19Copy 75 [Sc.val .l (x0)] (tS_l19Copy x0) :=
 fitK (by kernel_rfl)
def aS_l20Rates:An:=⟨[(3,[.s 12,.c 3 0,.c 3 1],[.o (.o (.i .i64)),.o (.o (.s)),.o (.o (.l))])],[],[]⟩
noncomputable def tS_l20Rates (x0:ByteArray × SlV × PUnit):T :=
 .lp [.o (.o (.i .i64)),.o (.o (.s)),.o (.o (.l))] [.v (.int .i64 ((0:Int))),.v (.string (x0.1)),.v (.slice (none) ((0:Nat)) ((0:Nat)))] fun y1 =>
 .br (decide (y1.1<(↑x0.2.1.n:Int))) (
  .el (x0.2.1.1) (x0.2.1.n) (y1.1) fun y2 =>
  .ld false (y2.add (Int.toNat y1.1*(5:Nat))) (.g [.s,.s,.b,.l,.i .i64]) fun y3 =>
  .rg <|
  .es [] 3 fun b4 =>
  .ra ({ a:=y3.2.2.2.1.1,n:=y3.2.2.2.1.n,c:=y3.2.2.2.1.c:SlV }) ((1:Nat)) fun y5 =>
  .rq (one y5=true∧y3.2.2.2.1.n*(8:Nat)≤(140737488355328:Nat)∧y3.2.2.2.1.n≤(9223372036854775807:Nat)) <|
  .br (decide (y3.2.2.2.1.n=(0:Nat))) (
   .rq ([Value.string y3.1,Value.string y3.2.1,Value.bool y3.2.2.1,Value.slice (some { block:=b4,off:=(0:Nat):Addr }) (0:Nat) (0:Nat),Value.int IntKind.i64 y3.2.2.2.2.1].length=(1:Nat)*(5:Nat)) <|
   .rq (one [Value.string y3.1,Value.string y3.2.1,Value.bool y3.2.2.1,Value.slice (some { block:=b4,off:=(0:Nat):Addr }) (0:Nat) (0:Nat),Value.int IntKind.i64 y3.2.2.2.2.1]=true) <|
   .ap ({ a:=y1.2.2.1.1,n:=y1.2.2.1.n,c:=y1.2.2.1.c:SlV }) 5 72 [.string (y3.1),.string (y3.2.1),.bool (y3.2.2.1),.slice (some { block:=b4,off:=(0:Nat):Addr }) ((0:Nat)) ((0:Nat)),.int .i64 (y3.2.2.2.2.1)] ((1:Nat)) 60 fun y6 =>
   .nx 0 [.v (.int .i64 (IntKind.i64.wrap (y1.1+(1:Int)))),.v (.string (y1.2.1)),.v (Sc.val .l (y6))]) <|
  .fz (y3.2.2.2.1.n) (y5) 3 fun b6 c6 =>
  .rq ([Value.string y3.1,Value.string y3.2.1,Value.bool y3.2.2.1,Value.slice (some { block:=b6,off:=(0:Nat):Addr }) y3.2.2.2.1.n c6,Value.int IntKind.i64 y3.2.2.2.2.1].length=(1:Nat)*(5:Nat)) <|
  .rq (one [Value.string y3.1,Value.string y3.2.1,Value.bool y3.2.2.1,Value.slice (some { block:=b6,off:=(0:Nat):Addr }) y3.2.2.2.1.n c6,Value.int IntKind.i64 y3.2.2.2.2.1]=true) <|
  .ap ({ a:=y1.2.2.1.1,n:=y1.2.2.1.n,c:=y1.2.2.1.c:SlV }) 5 72 [.string (y3.1),.string (y3.2.1),.bool (y3.2.2.1),.slice (some { block:=b6,off:=(0:Nat):Addr }) (y3.2.2.2.1.n) (c6),.int .i64 (y3.2.2.2.2.1)] ((1:Nat)) 60 fun y7 =>
  .nx 0 [.v (.int .i64 (IntKind.i64.wrap (y1.1+(1:Int)))),.v (.string (y1.2.1)),.v (Sc.val .l (y7))]) <|
 .ret [Sh1.val (.g [.s,.l]) (y1.2)]
theorem fS_l20Rates (x0:ByteArray × SlV × PUnit):fits Tryz.prog aS_l20Rates 76 [Sh1.val (.g [.s,.l]) (x0)] (tS_l20Rates x0) :=
 fitK (by kernel_rfl)
def aL_toAcctS:An:=⟨[(3,[.s 3,.s 4],[.a 135,.o (.o (.i .i64))])],[],[]⟩
noncomputable def tL_toAcctS (x0:SlV):T :=
 .rq ((0:Int)≤(↑x0.n:Int)∧(↑x0.n:Int)≤(↑x0.n:Int)∧(↑(64:Nat):Int)*(↑x0.n:Int)≤(281474976710656:Int)∧(↑x0.n:Int)≤(9223372036854775807:Int)) <|
 .lp [.a 135,.o (.o (.i .i64))] [.a 135 ((↑x0.n:Int).toNat) ((madeCells { toList:=[Value.string { data:={ toList:=[]:Array UInt8 }:ByteArray },Value.string { data:={ toList:=[]:Array UInt8 }:ByteArray },Value.bool false,Value.slice none (0:Nat) (0:Nat)]:Array Value } ((↑x0.n:Int).toNat*(4:Nat))).toList),.v (.int .i64 ((0:Int)))] fun y1 =>
 .br (decide (y1.2.1<(↑x0.n:Int))) (
  .el (x0.1) (x0.n) (y1.2.1) fun y2 =>
  .ld false (y2.add (Int.toNat y1.2.1*(4:Nat))) (.g [.s,.s,.b,.l]) fun y3 =>
  .call false 110 [Sh1.val (.g [.s,.s,.b,.l]) (y3)] (.v (.g [.s,.s,.b,.l])) fun y4 =>
  .rq ((0:Int)≤y1.2.1∧y1.2.1<(↑y1.1.1:Int)) <|
  .rq (Int.toNat y1.2.1*(4:Nat)+[Value.string y4.1,Value.string y4.2.1,Value.bool y4.2.2.1,Value.slice y4.2.2.2.1.1 y4.2.2.2.1.n y4.2.2.2.1.c].length≤y1.1.2.length) <|
  .nx 0 [.a 135 (y1.1.1) (setl y1.1.2 (Int.toNat y1.2.1*(4:Nat)) [Value.string y4.1,Value.string y4.2.1,Value.bool y4.2.2.1,Value.slice y4.2.2.2.1.1 y4.2.2.2.1.n y4.2.2.2.1.c]),.v (.int .i64 (IntKind.i64.wrap (y1.2.1+(1:Int))))]) <|
 .fz (y1.1.1) (y1.1.2) 135 fun b2 c2 =>
 .ret [.slice (some { block:=b2,off:=(0:Nat):Addr }) (y1.1.1) (c2)]
theorem fL_toAcctS (x0:SlV):fits Tryz.prog aL_toAcctS 77 [Sc.val .l (x0)] (tL_toAcctS x0) :=
 fitK (by kernel_rfl)
def aL_toRest:An:=⟨[],[],[]⟩
noncomputable def tL_toRest (x0:ByteArray × Bool × SlV × SlV × PUnit):T :=
 .call false 111 [Sh1.val (.g [.b,.l,.l]) (x0.2)] (.v (.g [.b,.l,.l])) fun y1 =>
 .ret [Sh1.val (.g [.s,.b,.l,.l]) ((x0.1),(y1.1),y1.2.1,y1.2.2.1,())]
theorem fL_toRest (x0:ByteArray × Bool × SlV × SlV × PUnit):fits Tryz.prog aL_toRest 78 [Sh1.val (.g [.s,.b,.l,.l]) (x0)] (tL_toRest x0) :=
 fitK (by kernel_rfl)
def aL_toRateS:An:=⟨[(3,[.s 3,.s 4],[.a 60,.o (.o (.i .i64))])],[],[]⟩
noncomputable def tL_toRateS (x0:SlV):T :=
 .rq ((0:Int)≤(↑x0.n:Int)∧(↑x0.n:Int)≤(↑x0.n:Int)∧(↑(72:Nat):Int)*(↑x0.n:Int)≤(281474976710656:Int)∧(↑x0.n:Int)≤(9223372036854775807:Int)) <|
 .lp [.a 60,.o (.o (.i .i64))] [.a 60 ((↑x0.n:Int).toNat) ((madeCells { toList:=[Value.string { data:={ toList:=[]:Array UInt8 }:ByteArray },Value.string { data:={ toList:=[]:Array UInt8 }:ByteArray },Value.bool false,Value.slice none (0:Nat) (0:Nat),Value.int IntKind.i64 (0:Int)]:Array Value } ((↑x0.n:Int).toNat*(5:Nat))).toList),.v (.int .i64 ((0:Int)))] fun y1 =>
 .br (decide (y1.2.1<(↑x0.n:Int))) (
  .el (x0.1) (x0.n) (y1.2.1) fun y2 =>
  .ld false (y2.add (Int.toNat y1.2.1*(5:Nat))) (.g [.s,.s,.b,.l,.i .i64]) fun y3 =>
  .call false 17 [Sh1.val (.g [.s,.s,.b,.l,.i .i64]) (y3)] (.v (.g [.s,.s,.b,.l,.i .i64])) fun y4 =>
  .rq ((0:Int)≤y1.2.1∧y1.2.1<(↑y1.1.1:Int)) <|
  .rq (Int.toNat y1.2.1*(5:Nat)+[Value.string y4.1,Value.string y4.2.1,Value.bool y4.2.2.1,Value.slice y4.2.2.2.1.1 y4.2.2.2.1.n y4.2.2.2.1.c,Value.int IntKind.i64 y4.2.2.2.2.1].length≤y1.1.2.length) <|
  .nx 0 [.a 60 (y1.1.1) (setl y1.1.2 (Int.toNat y1.2.1*(5:Nat)) [Value.string y4.1,Value.string y4.2.1,Value.bool y4.2.2.1,Value.slice y4.2.2.2.1.1 y4.2.2.2.1.n y4.2.2.2.1.c,Value.int IntKind.i64 y4.2.2.2.2.1]),.v (.int .i64 (IntKind.i64.wrap (y1.2.1+(1:Int))))]) <|
 .fz (y1.1.1) (y1.1.2) 60 fun b2 c2 =>
 .ret [.slice (some { block:=b2,off:=(0:Nat):Addr }) (y1.1.1) (c2)]
theorem fL_toRateS (x0:SlV):fits Tryz.prog aL_toRateS 79 [Sc.val .l (x0)] (tL_toRateS x0) :=
 fitK (by kernel_rfl)
def aI_LedgerOk:An:=⟨[],[],[]⟩
noncomputable def tI_LedgerOk (x0:SlV × SlV × ByteArray × SlV × PUnit):T :=
 .call false 112 [Sh1.val (.g [.l]) (x0.1,())] (.v (.o (.b))) fun y1 =>
 .br (y1) (
  .call false 113 [Sc.val .l (x0.2.1)] (.v (.o (.b))) fun y2 =>
  .br (y2) (
   .call false 114 [Sh1.val (.g [.s,.l]) (x0.2.2)] (.v (.o (.b))) fun y3 =>
   .ret [.bool (y3)]) <|
  .ret [.bool (false)]) <|
 .ret [.bool (false)]
theorem fI_LedgerOk (x0:SlV × SlV × ByteArray × SlV × PUnit):fits Tryz.prog aI_LedgerOk 80 [Sh1.val (.g [.l,.l,.s,.l]) (x0)] (tI_LedgerOk x0) :=
 fitK (by kernel_rfl)
def aI_ledgerCopy:An:=⟨[],[],[]⟩
noncomputable def tI_ledgerCopy (x0:SlV × SlV × ByteArray × SlV × PUnit):T :=
 .rg <|
 .call true 115 [Sh1.val (.g [.l]) (x0.1,())] (.v (.g [.l])) fun y1 =>
 .call true 116 [Sc.val .l (x0.2.1)] (.v (.o (.l))) fun y2 =>
 .call false 117 [Sh1.val (.g [.s,.l]) (x0.2.2)] (.v (.g [.s,.l])) fun y3 =>
 .ret [Sh1.val (.g [.l,.l,.s,.l]) (y1.1,y2,(y3.1),y3.2.1,())]
theorem fI_ledgerCopy (x0:SlV × SlV × ByteArray × SlV × PUnit):fits Tryz.prog aI_ledgerCopy 81 [Sh1.val (.g [.l,.l,.s,.l]) (x0)] (tI_ledgerCopy x0) :=
 fitK (by kernel_rfl)
def aL_eqAcctS:An:=⟨[(4,[.s 5],[.o (.o (.i .i64))])],[],[]⟩
noncomputable def tL_eqAcctS (x0:SlV) (x1:SlV):T :=
 .br ((↑x0.n:Int) != (↑x1.n:Int)) (
  .ret [.bool (false)]) <|
 .lp [.o (.o (.i .i64))] [.v (.int .i64 ((0:Int)))] fun y1 =>
 .br (decide (y1.1<(↑x0.n:Int))) (
  .rg <|
  .el (x0.1) (x0.n) (y1.1) fun y2 =>
  .ld true (y2.add (Int.toNat y1.1*(4:Nat))) (.g [.s,.s,.b,.l]) fun y3 =>
  .el (x1.1) (x1.n) (y1.1) fun y4 =>
  .ld true (y4.add (Int.toNat y1.1*(4:Nat))) (.g [.s,.s,.b,.l]) fun y5 =>
  .call false 118 [Sh1.val (.g [.s,.s,.b,.l]) (y3),Sh1.val (.g [.s,.s,.b,.l]) (y5)] (.v (.o (.b))) fun y6 =>
  .br (!y6) (
   .ret [.bool (false)]) <|
  .nx 0 [.v (.int .i64 (IntKind.i64.wrap (y1.1+(1:Int))))]) <|
 .ret [.bool (true)]
theorem fL_eqAcctS (x0:SlV) (x1:SlV):fits Tryz.prog aL_eqAcctS 82 [Sc.val .l (x0),Sc.val .l (x1)] (tL_eqAcctS x0 x1) :=
 fitK (by kernel_rfl)
def aL_eqRest:An:=⟨[],[],[]⟩
noncomputable def tL_eqRest (x0:ByteArray × Bool × SlV × SlV × PUnit) (x1:ByteArray × Bool × SlV × SlV × PUnit):T :=
 .br (!ByteArray.toList x0.1 == ByteArray.toList x1.1) (
  .ret [.bool (false)]) <|
 .call false 119 [Sh1.val (.g [.b,.l,.l]) (x0.2),Sh1.val (.g [.b,.l,.l]) (x1.2)] (.v (.o (.b))) fun y1 =>
 .br (!y1) (
  .ret [.bool (false)]) <|
 .ret [.bool (true)]
theorem fL_eqRest (x0:ByteArray × Bool × SlV × SlV × PUnit) (x1:ByteArray × Bool × SlV × SlV × PUnit):fits Tryz.prog aL_eqRest 83 [Sh1.val (.g [.s,.b,.l,.l]) (x0),Sh1.val (.g [.s,.b,.l,.l]) (x1)] (tL_eqRest x0 x1) :=
 fitK (by kernel_rfl)
def aL_eqRateS:An:=⟨[(4,[.s 5],[.o (.o (.i .i64))])],[],[]⟩
noncomputable def tL_eqRateS (x0:SlV) (x1:SlV):T :=
 .br ((↑x0.n:Int) != (↑x1.n:Int)) (
  .ret [.bool (false)]) <|
 .lp [.o (.o (.i .i64))] [.v (.int .i64 ((0:Int)))] fun y1 =>
 .br (decide (y1.1<(↑x0.n:Int))) (
  .rg <|
  .el (x0.1) (x0.n) (y1.1) fun y2 =>
  .ld true (y2.add (Int.toNat y1.1*(5:Nat))) (.g [.s,.s,.b,.l,.i .i64]) fun y3 =>
  .el (x1.1) (x1.n) (y1.1) fun y4 =>
  .ld true (y4.add (Int.toNat y1.1*(5:Nat))) (.g [.s,.s,.b,.l,.i .i64]) fun y5 =>
  .call false 19 [Sh1.val (.g [.s,.s,.b,.l,.i .i64]) (y3),Sh1.val (.g [.s,.s,.b,.l,.i .i64]) (y5)] (.v (.o (.b))) fun y6 =>
  .br (!y6) (
   .ret [.bool (false)]) <|
  .nx 0 [.v (.int .i64 (IntKind.i64.wrap (y1.1+(1:Int))))]) <|
 .ret [.bool (true)]
theorem fL_eqRateS (x0:SlV) (x1:SlV):fits Tryz.prog aL_eqRateS 84 [Sc.val .l (x0),Sc.val .l (x1)] (tL_eqRateS x0 x1) :=
 fitK (by kernel_rfl)
def aL_markAcctS:An:=⟨[(2,[.s 1,.s 5],[.o (.o (.i .i64)),.o (.o (.i .i64))])],[],[]⟩
noncomputable def tL_markAcctS (x0:SlV) (x1:Int):T :=
 .lp [.o (.o (.i .i64)),.o (.o (.i .i64))] [.v (.int .i64 (x1)),.v (.int .i64 ((0:Int)))] fun y1 =>
 .br (decide (y1.2.1<(↑x0.n:Int))) (
  .call false 86 [.int .i64 (y1.1)] (.v (.o (.s))) fun y2 =>
  .el (x0.1) (x0.n) (y1.2.1) fun y3 =>
  .st ((y3.add (Int.toNat y1.2.1*(4:Nat))).add (0:Nat)) [.string (y2)] <|
  .call false 86 [.int .i64 (IntKind.i64.wrap (y1.1+(1:Int)))] (.v (.o (.s))) fun y4 =>
  .el (x0.1) (x0.n) (y1.2.1) fun y5 =>
  .st (((y5.add (Int.toNat y1.2.1*(4:Nat))).add (1:Nat)).add (0:Nat)) [.string (y4)] <|
  .rq ((3:Int)≠(0:Int)) <|
  .el (x0.1) (x0.n) (y1.2.1) fun y6 =>
  .st ((((y6.add (Int.toNat y1.2.1*(4:Nat))).add (1:Nat)).add (1:Nat)).add (0:Nat)) [.bool ((IntKind.i64.wrap (IntKind.i64.wrap (y1.1+(1:Int))+(1:Int))).tmod (3:Int) == (0:Int))] <|
  .el (x0.1) (x0.n) (y1.2.1) fun y7 =>
  .ld false ((((y7.add (Int.toNat y1.2.1*(4:Nat))).add (1:Nat)).add (1:Nat)).add (1:Nat)) (.o (.l)) fun y8 =>
  .call false 87 [Sc.val .l (y8),.int .i64 (IntKind.i64.wrap (IntKind.i64.wrap (IntKind.i64.wrap (y1.1+(1:Int))+(1:Int))+(1:Int)))] (.v (.o (.i .i64))) fun y9 =>
  .nx 0 [.v (.int .i64 (y9)),.v (.int .i64 (IntKind.i64.wrap (y1.2.1+(1:Int))))]) <|
 .ret [.int .i64 (y1.1)]
theorem fL_markAcctS (x0:SlV) (x1:Int):fits Tryz.prog aL_markAcctS 85 [Sc.val .l (x0),.int .i64 (x1)] (tL_markAcctS x0 x1) :=
 fitK (by kernel_rfl)
def aL_markText:An:=⟨[(4,[.s 0,.s 3],[.o (.o (.i .i64)),.o (.o (.s))])],[],[]⟩
noncomputable def tL_markText (x0:Int):T :=
 .br (decide (x0≤(0:Int))) (
  .ret [.string ({ data:={ toList:=[(109:UInt8),(48:UInt8)]:Array UInt8 }:ByteArray })]) <|
 .lp [.o (.o (.i .i64)),.o (.o (.s))] [.v (.int .i64 (x0)),.v (.string ({ data:={ toList:=[]:Array UInt8 }:ByteArray }))] fun y1 =>
 .br (decide (y1.1 > (0:Int))) (
  .rq ((10:Int)≠(0:Int)) <|
  .fz ((1:Nat)) [.int .u8 (IntKind.u8.wrap (IntKind.i64.wrap ((48:Int)+Int.tmod y1.1 (10:Int))))] 5 fun b2 c2 =>
  .rd ({ a:=some { block:=b2,off:=(0:Nat):Addr },n:=(1:Nat),c:=c2:SlV }) ((1:Nat)) fun y3 =>
  .rq (bytesOf y3≠none) <|
  .rq ((bytesD y3).size+ByteArray.size y1.2.1≤(9223372036854775807:Nat)) <|
  .rq ((10:Int)≠(0:Int)) <|
  .nx 0 [.v (.int .i64 (IntKind.i64.wrap (Int.tdiv y1.1 (10:Int)))),.v (.string (bytesD y3++y1.2.1))]) <|
 .rq ({ data:={ toList:=[(109:UInt8)]:Array UInt8 }:ByteArray }.size+ByteArray.size y1.2.1≤(9223372036854775807:Nat)) <|
 .ret [.string ({ data:={ toList:=[(109:UInt8)]:Array UInt8 }:ByteArray }++y1.2.1)]
theorem fL_markText (x0:Int):fits Tryz.prog aL_markText 86 [.int .i64 (x0)] (tL_markText x0) :=
 fitK (by kernel_rfl)
def aL_markIntS:An:=⟨[(2,[.s 1,.s 5],[.o (.o (.i .i64)),.o (.o (.i .i64))])],[],[]⟩
noncomputable def tL_markIntS (x0:SlV) (x1:Int):T :=
 .lp [.o (.o (.i .i64)),.o (.o (.i .i64))] [.v (.int .i64 (x1)),.v (.int .i64 ((0:Int)))] fun y1 =>
 .br (decide (y1.2.1<(↑x0.n:Int))) (
  .el (x0.1) (x0.n) (y1.2.1) fun y2 =>
  .st (y2.add (Int.toNat y1.2.1*(1:Nat))) [.int .i64 (y1.1)] <|
  .nx 0 [.v (.int .i64 (IntKind.i64.wrap (y1.1+(1:Int)))),.v (.int .i64 (IntKind.i64.wrap (y1.2.1+(1:Int))))]) <|
 .ret [.int .i64 (y1.1)]
theorem fL_markIntS (x0:SlV) (x1:Int):fits Tryz.prog aL_markIntS 87 [Sc.val .l (x0),.int .i64 (x1)] (tL_markIntS x0 x1) :=
 fitK (by kernel_rfl)
def aL_markRateS:An:=⟨[(2,[.s 1,.s 5],[.o (.o (.i .i64)),.o (.o (.i .i64))])],[],[]⟩
noncomputable def tL_markRateS (x0:SlV) (x1:Int):T :=
 .lp [.o (.o (.i .i64)),.o (.o (.i .i64))] [.v (.int .i64 (x1)),.v (.int .i64 ((0:Int)))] fun y1 =>
 .br (decide (y1.2.1<(↑x0.n:Int))) (
  .call false 86 [.int .i64 (y1.1)] (.v (.o (.s))) fun y2 =>
  .el (x0.1) (x0.n) (y1.2.1) fun y3 =>
  .st ((y3.add (Int.toNat y1.2.1*(5:Nat))).add (0:Nat)) [.string (y2)] <|
  .call false 86 [.int .i64 (IntKind.i64.wrap (y1.1+(1:Int)))] (.v (.o (.s))) fun y4 =>
  .el (x0.1) (x0.n) (y1.2.1) fun y5 =>
  .st ((y5.add (Int.toNat y1.2.1*(5:Nat))).add (1:Nat)) [.string (y4)] <|
  .rq ((3:Int)≠(0:Int)) <|
  .el (x0.1) (x0.n) (y1.2.1) fun y6 =>
  .st ((((y6.add (Int.toNat y1.2.1*(5:Nat))).add (2:Nat)).add (0:Nat)).add (0:Nat)) [.bool ((IntKind.i64.wrap (IntKind.i64.wrap (y1.1+(1:Int))+(1:Int))).tmod (3:Int) == (0:Int))] <|
  .el (x0.1) (x0.n) (y1.2.1) fun y7 =>
  .ld false ((((y7.add (Int.toNat y1.2.1*(5:Nat))).add (2:Nat)).add (0:Nat)).add (1:Nat)) (.o (.l)) fun y8 =>
  .call false 87 [Sc.val .l (y8),.int .i64 (IntKind.i64.wrap (IntKind.i64.wrap (IntKind.i64.wrap (y1.1+(1:Int))+(1:Int))+(1:Int)))] (.v (.o (.i .i64))) fun y9 =>
  .el (x0.1) (x0.n) (y1.2.1) fun y10 =>
  .st (((y10.add (Int.toNat y1.2.1*(5:Nat))).add (2:Nat)).add (2:Nat)) [.int .i64 (y9)] <|
  .nx 0 [.v (.int .i64 (IntKind.i64.wrap (y9+(1:Int)))),.v (.int .i64 (IntKind.i64.wrap (y1.2.1+(1:Int))))]) <|
 .ret [.int .i64 (y1.1)]
theorem fL_markRateS (x0:SlV) (x1:Int):fits Tryz.prog aL_markRateS 88 [Sc.val .l (x0),.int .i64 (x1)] (tL_markRateS x0 x1) :=
 fitK (by kernel_rfl)
def aL_heldAcctS:An:=⟨[(2,[.s 1,.s 5],[.o (.o (.i .i64)),.o (.o (.i .i64))])],[],[]⟩
noncomputable def tL_heldAcctS (x0:SlV) (x1:Int):T :=
 .lp [.o (.o (.i .i64)),.o (.o (.i .i64))] [.v (.int .i64 (x1)),.v (.int .i64 ((0:Int)))] fun y1 =>
 .br (decide (y1.2.1<(↑x0.n:Int))) (
  .rg <|
  .el (x0.1) (x0.n) (y1.2.1) fun y2 =>
  .ld true ((y2.add (Int.toNat y1.2.1*(4:Nat))).add (0:Nat)) (.o (.s)) fun y3 =>
  .call true 86 [.int .i64 (y1.1)] (.v (.o (.s))) fun y4 =>
  .br (!y3.toList == y4.toList) (
   .ret [.int .i64 ((-1:Int))]) <|
  .rg <|
  .el (x0.1) (x0.n) (y1.2.1) fun y5 =>
  .ld true (((y5.add (Int.toNat y1.2.1*(4:Nat))).add (1:Nat)).add (0:Nat)) (.o (.s)) fun y6 =>
  .call true 86 [.int .i64 (IntKind.i64.wrap (y1.1+(1:Int)))] (.v (.o (.s))) fun y7 =>
  .br (!y6.toList == y7.toList) (
   .ret [.int .i64 ((-1:Int))]) <|
  .el (x0.1) (x0.n) (y1.2.1) fun y8 =>
  .ld false ((((y8.add (Int.toNat y1.2.1*(4:Nat))).add (1:Nat)).add (1:Nat)).add (0:Nat)) (.o (.b)) fun y9 =>
  .rq ((3:Int)≠(0:Int)) <|
  .br (!y9 == ((IntKind.i64.wrap (IntKind.i64.wrap (y1.1+(1:Int))+(1:Int))).tmod (3:Int) == (0:Int))) (
   .ret [.int .i64 ((-1:Int))]) <|
  .el (x0.1) (x0.n) (y1.2.1) fun y10 =>
  .ld false ((((y10.add (Int.toNat y1.2.1*(4:Nat))).add (1:Nat)).add (1:Nat)).add (1:Nat)) (.o (.l)) fun y11 =>
  .call false 90 [Sc.val .l (y11),.int .i64 (IntKind.i64.wrap (IntKind.i64.wrap (IntKind.i64.wrap (y1.1+(1:Int))+(1:Int))+(1:Int)))] (.v (.o (.i .i64))) fun y12 =>
  .br (decide (y12<(0:Int))) (
   .ret [.int .i64 ((-1:Int))]) <|
  .nx 0 [.v (.int .i64 (y12)),.v (.int .i64 (IntKind.i64.wrap (y1.2.1+(1:Int))))]) <|
 .ret [.int .i64 (y1.1)]
theorem fL_heldAcctS (x0:SlV) (x1:Int):fits Tryz.prog aL_heldAcctS 89 [Sc.val .l (x0),.int .i64 (x1)] (tL_heldAcctS x0 x1) :=
 fitK (by kernel_rfl)
def aL_heldIntS:An:=⟨[(2,[.s 1,.s 5],[.o (.o (.i .i64)),.o (.o (.i .i64))])],[],[]⟩
noncomputable def tL_heldIntS (x0:SlV) (x1:Int):T :=
 .lp [.o (.o (.i .i64)),.o (.o (.i .i64))] [.v (.int .i64 (x1)),.v (.int .i64 ((0:Int)))] fun y1 =>
 .br (decide (y1.2.1<(↑x0.n:Int))) (
  .el (x0.1) (x0.n) (y1.2.1) fun y2 =>
  .ld false (y2.add (Int.toNat y1.2.1*(1:Nat))) (.o (.i .i64)) fun y3 =>
  .br (y3 != y1.1) (
   .ret [.int .i64 ((-1:Int))]) <|
  .nx 0 [.v (.int .i64 (IntKind.i64.wrap (y1.1+(1:Int)))),.v (.int .i64 (IntKind.i64.wrap (y1.2.1+(1:Int))))]) <|
 .ret [.int .i64 (y1.1)]
theorem fL_heldIntS (x0:SlV) (x1:Int):fits Tryz.prog aL_heldIntS 90 [Sc.val .l (x0),.int .i64 (x1)] (tL_heldIntS x0 x1) :=
 fitK (by kernel_rfl)
def aL_heldRateS:An:=⟨[(2,[.s 1,.s 5],[.o (.o (.i .i64)),.o (.o (.i .i64))])],[],[]⟩
noncomputable def tL_heldRateS (x0:SlV) (x1:Int):T :=
 .lp [.o (.o (.i .i64)),.o (.o (.i .i64))] [.v (.int .i64 (x1)),.v (.int .i64 ((0:Int)))] fun y1 =>
 .br (decide (y1.2.1<(↑x0.n:Int))) (
  .rg <|
  .el (x0.1) (x0.n) (y1.2.1) fun y2 =>
  .ld true ((y2.add (Int.toNat y1.2.1*(5:Nat))).add (0:Nat)) (.o (.s)) fun y3 =>
  .call true 86 [.int .i64 (y1.1)] (.v (.o (.s))) fun y4 =>
  .br (!y3.toList == y4.toList) (
   .ret [.int .i64 ((-1:Int))]) <|
  .rg <|
  .el (x0.1) (x0.n) (y1.2.1) fun y5 =>
  .ld true ((y5.add (Int.toNat y1.2.1*(5:Nat))).add (1:Nat)) (.o (.s)) fun y6 =>
  .call true 86 [.int .i64 (IntKind.i64.wrap (y1.1+(1:Int)))] (.v (.o (.s))) fun y7 =>
  .br (!y6.toList == y7.toList) (
   .ret [.int .i64 ((-1:Int))]) <|
  .el (x0.1) (x0.n) (y1.2.1) fun y8 =>
  .ld false ((((y8.add (Int.toNat y1.2.1*(5:Nat))).add (2:Nat)).add (0:Nat)).add (0:Nat)) (.o (.b)) fun y9 =>
  .rq ((3:Int)≠(0:Int)) <|
  .br (!y9 == ((IntKind.i64.wrap (IntKind.i64.wrap (y1.1+(1:Int))+(1:Int))).tmod (3:Int) == (0:Int))) (
   .ret [.int .i64 ((-1:Int))]) <|
  .el (x0.1) (x0.n) (y1.2.1) fun y10 =>
  .ld false ((((y10.add (Int.toNat y1.2.1*(5:Nat))).add (2:Nat)).add (0:Nat)).add (1:Nat)) (.o (.l)) fun y11 =>
  .call false 90 [Sc.val .l (y11),.int .i64 (IntKind.i64.wrap (IntKind.i64.wrap (IntKind.i64.wrap (y1.1+(1:Int))+(1:Int))+(1:Int)))] (.v (.o (.i .i64))) fun y12 =>
  .br (decide (y12<(0:Int))) (
   .ret [.int .i64 ((-1:Int))]) <|
  .el (x0.1) (x0.n) (y1.2.1) fun y13 =>
  .ld false (((y13.add (Int.toNat y1.2.1*(5:Nat))).add (2:Nat)).add (2:Nat)) (.o (.i .i64)) fun y14 =>
  .br (y14 != y12) (
   .ret [.int .i64 ((-1:Int))]) <|
  .nx 0 [.v (.int .i64 (IntKind.i64.wrap (y12+(1:Int)))),.v (.int .i64 (IntKind.i64.wrap (y1.2.1+(1:Int))))]) <|
 .ret [.int .i64 (y1.1)]
theorem fL_heldRateS (x0:SlV) (x1:Int):fits Tryz.prog aL_heldRateS 91 [Sc.val .l (x0),.int .i64 (x1)] (tL_heldRateS x0 x1) :=
 fitK (by kernel_rfl)
def aS_DecOk:An:=⟨[],[],[]⟩
noncomputable def tS_DecOk (x0:Bool × SlV × Int × PUnit):T :=
 .call false 120 [Sh1.val (.g [.b,.l]) ((x0.1),x0.2.1,())] (.v (.o (.b))) fun y1 =>
 .br (y1) (
  .br (decide ((↑x0.2.1.n:Int)≤(6:Int))) (
   .call false 121 [.int .i64 (x0.2.2.1),.int .i64 ((0:Int)),.int .i64 ((30:Int))] (.v (.o (.b))) fun y2 =>
   .ret [.bool (y2)]) <|
  .ret [.bool (false)]) <|
 .ret [.bool (false)]
theorem fS_DecOk (x0:Bool × SlV × Int × PUnit):fits Tryz.prog aS_DecOk 92 [Sh1.val (.g [.b,.l,.i .i64]) (x0)] (tS_DecOk x0) :=
 fitK (by kernel_rfl)
def aS_IntSign:An:=⟨[],[],[]⟩
noncomputable def tS_IntSign (x0:Bool × SlV × PUnit):T :=
 .call false 122 [Sh1.val (.g [.b,.l]) (x0),Sh1.val (.g [.b,.l]) ((false),nilS,())] (.v (.o (.i .i64))) fun y1 =>
 .ret [.int .i64 (y1)]
theorem fS_IntSign (x0:Bool × SlV × PUnit):fits Tryz.prog aS_IntSign 93 [Sh1.val (.g [.b,.l]) (x0)] (tS_IntSign x0) :=
 fitK (by kernel_rfl)
def aS_l10At:An:=⟨[(2,[.s 11],[.o (.o (.i .i64))])],[],[]⟩
noncomputable def tS_l10At (x0:SlV) (x1:ByteArray) (x2:ByteArray):T :=
 .lp [.o (.o (.i .i64))] [.v (.int .i64 ((0:Int)))] fun y1 =>
 .br (decide (y1.1<(↑x0.n:Int))) (
  .el (x0.1) (x0.n) (y1.1) fun y2 =>
  .ld false (y2.add (Int.toNat y1.1*(5:Nat))) (.g [.s,.s,.b,.l,.i .i64]) fun y3 =>
  .br (ByteArray.toList y3.1 == x1.toList) (
   .br (ByteArray.toList y3.2.1 == x2.toList) (
    .ret [.int .i64 (y1.1)]) <|
   .nx 0 [.v (.int .i64 (IntKind.i64.wrap (y1.1+(1:Int))))]) <|
  .nx 0 [.v (.int .i64 (IntKind.i64.wrap (y1.1+(1:Int))))]) <|
 .ret [.int .i64 ((-1:Int))]
theorem fS_l10At (x0:SlV) (x1:ByteArray) (x2:ByteArray):fits Tryz.prog aS_l10At 95 [Sc.val .l (x0),.string (x1),.string (x2)] (tS_l10At x0 x1 x2) :=
 fitK (by kernel_rfl)
def aL_szIntS:An:=⟨[],[],[]⟩
noncomputable def tL_szIntS (x0:SlV) (x1:Int):T :=
 .br (decide (IntKind.i64.wrap (x1-(↑x0.n:Int))<(0:Int))) (
  .ret [.int .i64 ((-1:Int))]) <|
 .ret [.int .i64 (IntKind.i64.wrap (x1-(↑x0.n:Int)))]
theorem fL_szIntS (x0:SlV) (x1:Int):fits Tryz.prog aL_szIntS 97 [Sc.val .l (x0),.int .i64 (x1)] (tL_szIntS x0 x1) :=
 fitK (by kernel_rfl)
def aS_MoneyOk:An:=⟨[],[],[]⟩
noncomputable def tS_MoneyOk (x0:ByteArray × Bool × SlV × PUnit):T :=
 .call false 36 [.string (x0.1)] (.v (.o (.b))) fun y1 =>
 .br (y1) (
  .call false 120 [Sh1.val (.g [.b,.l]) (x0.2)] (.v (.o (.b))) fun y2 =>
  .br (y2) (
   .ret [.bool (decide ((↑x0.2.2.1.n:Int)≤(4:Int)))]) <|
  .ret [.bool (false)]) <|
 .ret [.bool (false)]
theorem fS_MoneyOk (x0:ByteArray × Bool × SlV × PUnit):fits Tryz.prog aS_MoneyOk 98 [Sh1.val (.g [.s,.b,.l]) (x0)] (tS_MoneyOk x0) :=
 fitK (by kernel_rfl)
def aL_toIntS:An:=⟨[(3,[.s 3,.s 4],[.a 3,.o (.o (.i .i64))])],[],[]⟩
noncomputable def tL_toIntS (x0:SlV):T :=
 .rq ((0:Int)≤(↑x0.n:Int)∧(↑x0.n:Int)≤(↑x0.n:Int)∧(↑(8:Nat):Int)*(↑x0.n:Int)≤(281474976710656:Int)∧(↑x0.n:Int)≤(9223372036854775807:Int)) <|
 .lp [.a 3,.o (.o (.i .i64))] [.a 3 ((↑x0.n:Int).toNat) ((madeCells { toList:=[Value.int IntKind.i64 (0:Int)]:Array Value } ((↑x0.n:Int).toNat*(1:Nat))).toList),.v (.int .i64 ((0:Int)))] fun y1 =>
 .br (decide (y1.2.1<(↑x0.n:Int))) (
  .el (x0.1) (x0.n) (y1.2.1) fun y2 =>
  .ld false (y2.add (Int.toNat y1.2.1*(1:Nat))) (.o (.i .i64)) fun y3 =>
  .rq ((0:Int)≤y1.2.1∧y1.2.1<(↑y1.1.1:Int)) <|
  .rq (Int.toNat y1.2.1*(1:Nat)+[(Sh1.o (Sc.i IntKind.i64)).val y3].length≤y1.1.2.length) <|
  .nx 0 [.a 3 (y1.1.1) (setl y1.1.2 (Int.toNat y1.2.1*(1:Nat)) [(Sh1.o (Sc.i IntKind.i64)).val y3]),.v (.int .i64 (IntKind.i64.wrap (y1.2.1+(1:Int))))]) <|
 .fz (y1.1.1) (y1.1.2) 3 fun b2 c2 =>
 .ret [.slice (some { block:=b2,off:=(0:Nat):Addr }) (y1.1.1) (c2)]
theorem fL_toIntS (x0:SlV):fits Tryz.prog aL_toIntS 100 [Sc.val .l (x0)] (tL_toIntS x0) :=
 fitK (by kernel_rfl)
def aL_eqIntS:An:=⟨[(4,[.s 5],[.o (.o (.i .i64))])],[],[]⟩
noncomputable def tL_eqIntS (x0:SlV) (x1:SlV):T :=
 .br ((↑x0.n:Int) != (↑x1.n:Int)) (
  .ret [.bool (false)]) <|
 .lp [.o (.o (.i .i64))] [.v (.int .i64 ((0:Int)))] fun y1 =>
 .br (decide (y1.1<(↑x0.n:Int))) (
  .rg <|
  .el (x0.1) (x0.n) (y1.1) fun y2 =>
  .ld true (y2.add (Int.toNat y1.1*(1:Nat))) (.o (.i .i64)) fun y3 =>
  .el (x1.1) (x1.n) (y1.1) fun y4 =>
  .ld true (y4.add (Int.toNat y1.1*(1:Nat))) (.o (.i .i64)) fun y5 =>
  .br (y3 != y5) (
   .ret [.bool (false)]) <|
  .nx 0 [.v (.int .i64 (IntKind.i64.wrap (y1.1+(1:Int))))]) <|
 .ret [.bool (true)]
theorem fL_eqIntS (x0:SlV) (x1:SlV):fits Tryz.prog aL_eqIntS 101 [Sc.val .l (x0),Sc.val .l (x1)] (tL_eqIntS x0 x1) :=
 fitK (by kernel_rfl)
def aL_szAcct:An:=⟨[],[],[]⟩
noncomputable def tL_szAcct (x0:ByteArray × ByteArray × Bool × SlV × PUnit) (x1:Int):T :=
 .br (decide (IntKind.i64.wrap (x1-(↑(ByteArray.size x0.1):Int))<(0:Int))) (
  .ret [.int .i64 ((-1:Int))]) <|
 .call false 21 [Sh1.val (.g [.s,.b,.l]) (x0.2),.int .i64 (IntKind.i64.wrap (x1-(↑(ByteArray.size x0.1):Int)))] (.v (.o (.i .i64))) fun y1 =>
 .br (decide (y1<(0:Int))) (
  .ret [.int .i64 ((-1:Int))]) <|
 .ret [.int .i64 (y1)]
theorem fL_szAcct (x0:ByteArray × ByteArray × Bool × SlV × PUnit) (x1:Int):fits Tryz.prog aL_szAcct 103 [Sh1.val (.g [.s,.s,.b,.l]) (x0),.int .i64 (x1)] (tL_szAcct x0 x1) :=
 fitK (by kernel_rfl)
def aL_szRat:An:=⟨[],[],[]⟩
noncomputable def tL_szRat (x0:Bool × SlV × SlV × PUnit) (x1:Int):T :=
 .call false 59 [Sh1.val (.g [.b,.l]) ((x0.1),x0.2.1,()),.int .i64 (x1)] (.v (.o (.i .i64))) fun y1 =>
 .br (decide (y1<(0:Int))) (
  .ret [.int .i64 ((-1:Int))]) <|
 .call false 97 [Sc.val .l (x0.2.2.1),.int .i64 (y1)] (.v (.o (.i .i64))) fun y2 =>
 .br (decide (y2<(0:Int))) (
  .ret [.int .i64 ((-1:Int))]) <|
 .ret [.int .i64 (y2)]
theorem fL_szRat (x0:Bool × SlV × SlV × PUnit) (x1:Int):fits Tryz.prog aL_szRat 104 [Sh1.val (.g [.b,.l,.l]) (x0),.int .i64 (x1)] (tL_szRat x0 x1) :=
 fitK (by kernel_rfl)
def aS_RatOk:An:=⟨[],[],[]⟩
noncomputable def tS_RatOk (x0:Bool × SlV × SlV × PUnit):T :=
 .call false 120 [Sh1.val (.g [.b,.l]) ((x0.1),x0.2.1,())] (.v (.o (.b))) fun y1 =>
 .br (!y1) (
  .ret [.bool (false)]) <|
 .call false 125 [Sc.val .l (x0.2.2.1)] (.v (.o (.b))) fun y2 =>
 .br (!y2) (
  .ret [.bool (false)]) <|
 .br ((↑x0.2.2.1.n:Int) == (0:Int)) (
  .ret [.bool (false)]) <|
 .br (decide ((↑x0.2.2.1.n:Int) > (18:Int))) (
  .ret [.bool (false)]) <|
 .br (decide ((↑x0.2.1.n:Int) > (18:Int))) (
  .ret [.bool (false)]) <|
 .call false 127 [Sc.val .l (x0.2.1),Sc.val .l (x0.2.2.1)] (.v (.o (.l))) fun y3 =>
 .fz ((1:Nat)) [.int .i64 ((1:Int))] 3 fun b4 c4 =>
 .call false 126 [Sc.val .l (y3),.slice (some { block:=b4,off:=(0:Nat):Addr }) ((1:Nat)) (c4)] (.v (.o (.i .i64))) fun y5 =>
 .ret [.bool (y5 == (0:Int))]
theorem fS_RatOk (x0:Bool × SlV × SlV × PUnit):fits Tryz.prog aS_RatOk 105 [Sh1.val (.g [.b,.l,.l]) (x0)] (tS_RatOk x0) :=
 fitK (by kernel_rfl)
def aS_RatSign:An:=⟨[],[],[]⟩
noncomputable def tS_RatSign (x0:Bool × SlV × SlV × PUnit):T :=
 .rg <|
 .call true 129 [] (.v (.g [.b,.l,.l])) fun y1 =>
 .call false 128 [Sh1.val (.g [.b,.l,.l]) (x0),Sh1.val (.g [.b,.l,.l]) (y1)] (.v (.o (.i .i64))) fun y2 =>
 .ret [.int .i64 (y2)]
theorem fS_RatSign (x0:Bool × SlV × SlV × PUnit):fits Tryz.prog aS_RatSign 106 [Sh1.val (.g [.b,.l,.l]) (x0)] (tS_RatSign x0) :=
 fitK (by kernel_rfl)
def aS_l08Table:An:=⟨[],[],[]⟩
noncomputable def tS_l08Table :T :=
 .fz ((20:Nat)) [.string ({ data:={ toList:=[(65:UInt8),(85:UInt8),(68:UInt8)]:Array UInt8 }:ByteArray }),.string ({ data:={ toList:=[(48:UInt8),(51:UInt8),(54:UInt8)]:Array UInt8 }:ByteArray }),.int .i64 ((2:Int)),.int .i64 ((5:Int)),.string ({ data:={ toList:=[(66:UInt8),(72:UInt8),(68:UInt8)]:Array UInt8 }:ByteArray }),.string ({ data:={ toList:=[(48:UInt8),(52:UInt8),(56:UInt8)]:Array UInt8 }:ByteArray }),.int .i64 ((3:Int)),.int .i64 ((5:Int)),.string ({ data:={ toList:=[(67:UInt8),(65:UInt8),(68:UInt8)]:Array UInt8 }:ByteArray }),.string ({ data:={ toList:=[(49:UInt8),(50:UInt8),(52:UInt8)]:Array UInt8 }:ByteArray }),.int .i64 ((2:Int)),.int .i64 ((5:Int)),.string ({ data:={ toList:=[(67:UInt8),(72:UInt8),(70:UInt8)]:Array UInt8 }:ByteArray }),.string ({ data:={ toList:=[(55:UInt8),(53:UInt8),(54:UInt8)]:Array UInt8 }:ByteArray }),.int .i64 ((2:Int)),.int .i64 ((5:Int)),.string ({ data:={ toList:=[(67:UInt8),(76:UInt8),(70:UInt8)]:Array UInt8 }:ByteArray }),.string ({ data:={ toList:=[(57:UInt8),(57:UInt8),(48:UInt8)]:Array UInt8 }:ByteArray }),.int .i64 ((4:Int)),.int .i64 ((1:Int)),.string ({ data:={ toList:=[(67:UInt8),(90:UInt8),(75:UInt8)]:Array UInt8 }:ByteArray }),.string ({ data:={ toList:=[(50:UInt8),(48:UInt8),(51:UInt8)]:Array UInt8 }:ByteArray }),.int .i64 ((2:Int)),.int .i64 ((100:Int)),.string ({ data:={ toList:=[(68:UInt8),(75:UInt8),(75:UInt8)]:Array UInt8 }:ByteArray }),.string ({ data:={ toList:=[(50:UInt8),(48:UInt8),(56:UInt8)]:Array UInt8 }:ByteArray }),.int .i64 ((2:Int)),.int .i64 ((50:Int)),.string ({ data:={ toList:=[(69:UInt8),(85:UInt8),(82:UInt8)]:Array UInt8 }:ByteArray }),.string ({ data:={ toList:=[(57:UInt8),(55:UInt8),(56:UInt8)]:Array UInt8 }:ByteArray }),.int .i64 ((2:Int)),.int .i64 ((1:Int)),.string ({ data:={ toList:=[(71:UInt8),(66:UInt8),(80:UInt8)]:Array UInt8 }:ByteArray }),.string ({ data:={ toList:=[(56:UInt8),(50:UInt8),(54:UInt8)]:Array UInt8 }:ByteArray }),.int .i64 ((2:Int)),.int .i64 ((1:Int)),.string ({ data:={ toList:=[(72:UInt8),(85:UInt8),(70:UInt8)]:Array UInt8 }:ByteArray }),.string ({ data:={ toList:=[(51:UInt8),(52:UInt8),(56:UInt8)]:Array UInt8 }:ByteArray }),.int .i64 ((2:Int)),.int .i64 ((500:Int)),.string ({ data:={ toList:=[(73:UInt8),(83:UInt8),(75:UInt8)]:Array UInt8 }:ByteArray }),.string ({ data:={ toList:=[(51:UInt8),(53:UInt8),(50:UInt8)]:Array UInt8 }:ByteArray }),.int .i64 ((0:Int)),.int .i64 ((1:Int)),.string ({ data:={ toList:=[(74:UInt8),(80:UInt8),(89:UInt8)]:Array UInt8 }:ByteArray }),.string ({ data:={ toList:=[(51:UInt8),(57:UInt8),(50:UInt8)]:Array UInt8 }:ByteArray }),.int .i64 ((0:Int)),.int .i64 ((1:Int)),.string ({ data:={ toList:=[(75:UInt8),(82:UInt8),(87:UInt8)]:Array UInt8 }:ByteArray }),.string ({ data:={ toList:=[(52:UInt8),(49:UInt8),(48:UInt8)]:Array UInt8 }:ByteArray }),.int .i64 ((0:Int)),.int .i64 ((10:Int)),.string ({ data:={ toList:=[(75:UInt8),(87:UInt8),(68:UInt8)]:Array UInt8 }:ByteArray }),.string ({ data:={ toList:=[(52:UInt8),(49:UInt8),(52:UInt8)]:Array UInt8 }:ByteArray }),.int .i64 ((3:Int)),.int .i64 ((5:Int)),.string ({ data:={ toList:=[(78:UInt8),(79:UInt8),(75:UInt8)]:Array UInt8 }:ByteArray }),.string ({ data:={ toList:=[(53:UInt8),(55:UInt8),(56:UInt8)]:Array UInt8 }:ByteArray }),.int .i64 ((2:Int)),.int .i64 ((100:Int)),.string ({ data:={ toList:=[(78:UInt8),(90:UInt8),(68:UInt8)]:Array UInt8 }:ByteArray }),.string ({ data:={ toList:=[(53:UInt8),(53:UInt8),(52:UInt8)]:Array UInt8 }:ByteArray }),.int .i64 ((2:Int)),.int .i64 ((10:Int)),.string ({ data:={ toList:=[(80:UInt8),(76:UInt8),(78:UInt8)]:Array UInt8 }:ByteArray }),.string ({ data:={ toList:=[(57:UInt8),(56:UInt8),(53:UInt8)]:Array UInt8 }:ByteArray }),.int .i64 ((2:Int)),.int .i64 ((1:Int)),.string ({ data:={ toList:=[(83:UInt8),(69:UInt8),(75:UInt8)]:Array UInt8 }:ByteArray }),.string ({ data:={ toList:=[(55:UInt8),(53:UInt8),(50:UInt8)]:Array UInt8 }:ByteArray }),.int .i64 ((2:Int)),.int .i64 ((100:Int)),.string ({ data:={ toList:=[(84:UInt8),(78:UInt8),(68:UInt8)]:Array UInt8 }:ByteArray }),.string ({ data:={ toList:=[(55:UInt8),(56:UInt8),(56:UInt8)]:Array UInt8 }:ByteArray }),.int .i64 ((3:Int)),.int .i64 ((10:Int)),.string ({ data:={ toList:=[(85:UInt8),(83:UInt8),(68:UInt8)]:Array UInt8 }:ByteArray }),.string ({ data:={ toList:=[(56:UInt8),(52:UInt8),(48:UInt8)]:Array UInt8 }:ByteArray }),.int .i64 ((2:Int)),.int .i64 ((1:Int))] 133 fun b1 c1 =>
 .ret [.slice (some { block:=b1,off:=(0:Nat):Addr }) ((20:Nat)) (c1)]
theorem fS_l08Table :fits Tryz.prog aS_l08Table 107 [] (tS_l08Table ) :=
 fitK (by kernel_rfl)
def aS_l17Money:An:=⟨[],[],[]⟩
noncomputable def tS_l17Money (x0:ByteArray × Bool × SlV × PUnit):T :=
 .rg <|
 .es [] 3 fun b1 =>
 .ra ({ a:=x0.2.2.1.1,n:=x0.2.2.1.n,c:=x0.2.2.1.c:SlV }) ((1:Nat)) fun y2 =>
 .rq (one y2=true∧x0.2.2.1.n*(8:Nat)≤(140737488355328:Nat)∧x0.2.2.1.n≤(9223372036854775807:Nat)) <|
 .br (decide (x0.2.2.1.n=(0:Nat))) (
  .ret [Sh1.val (.g [.s,.b,.l]) ((x0.1),(x0.2.1),(⟨(some { block:=b1,off:=(0:Nat):Addr }),((0:Nat)),((0:Nat))⟩:SlV),())]) <|
 .fz (x0.2.2.1.n) (y2) 3 fun b3 c3 =>
 .ret [Sh1.val (.g [.s,.b,.l]) ((x0.1),(x0.2.1),(⟨(some { block:=b3,off:=(0:Nat):Addr }),(x0.2.2.1.n),(c3)⟩:SlV),())]
theorem fS_l17Money (x0:ByteArray × Bool × SlV × PUnit):fits Tryz.prog aS_l17Money 108 [Sh1.val (.g [.s,.b,.l]) (x0)] (tS_l17Money x0) :=
 fitK (by kernel_rfl)
def aS_l19Rat:An:=⟨[],[],[]⟩
noncomputable def tS_l19Rat (x0:Bool × SlV × SlV × PUnit):T :=
 .rg <|
 .es [] 3 fun b1 =>
 .ra ({ a:=x0.2.1.1,n:=x0.2.1.n,c:=x0.2.1.c:SlV }) ((1:Nat)) fun y2 =>
 .rq (one y2=true∧x0.2.1.n*(8:Nat)≤(140737488355328:Nat)∧x0.2.1.n≤(9223372036854775807:Nat)) <|
 .br (decide (x0.2.1.n=(0:Nat))) (
  .es [] 3 fun b3 =>
  .ra ({ a:=x0.2.2.1.1,n:=x0.2.2.1.n,c:=x0.2.2.1.c:SlV }) ((1:Nat)) fun y4 =>
  .rq (one y4=true∧x0.2.2.1.n*(8:Nat)≤(140737488355328:Nat)∧x0.2.2.1.n≤(9223372036854775807:Nat)) <|
  .br (decide (x0.2.2.1.n=(0:Nat))) (
   .ret [Sh1.val (.g [.b,.l,.l]) ((x0.1),(⟨(some { block:=b1,off:=(0:Nat):Addr }),((0:Nat)),((0:Nat))⟩:SlV),(⟨(some { block:=b3,off:=(0:Nat):Addr }),((0:Nat)),((0:Nat))⟩:SlV),())]) <|
  .fz (x0.2.2.1.n) (y4) 3 fun b5 c5 =>
  .ret [Sh1.val (.g [.b,.l,.l]) ((x0.1),(⟨(some { block:=b1,off:=(0:Nat):Addr }),((0:Nat)),((0:Nat))⟩:SlV),(⟨(some { block:=b5,off:=(0:Nat):Addr }),(x0.2.2.1.n),(c5)⟩:SlV),())]) <|
 .fz (x0.2.1.n) (y2) 3 fun b3 c3 =>
 .es [] 3 fun b4 =>
 .ra ({ a:=x0.2.2.1.1,n:=x0.2.2.1.n,c:=x0.2.2.1.c:SlV }) ((1:Nat)) fun y5 =>
 .rq (one y5=true∧x0.2.2.1.n*(8:Nat)≤(140737488355328:Nat)∧x0.2.2.1.n≤(9223372036854775807:Nat)) <|
 .br (decide (x0.2.2.1.n=(0:Nat))) (
  .ret [Sh1.val (.g [.b,.l,.l]) ((x0.1),(⟨(some { block:=b3,off:=(0:Nat):Addr }),(x0.2.1.n),(c3)⟩:SlV),(⟨(some { block:=b4,off:=(0:Nat):Addr }),((0:Nat)),((0:Nat))⟩:SlV),())]) <|
 .fz (x0.2.2.1.n) (y5) 3 fun b6 c6 =>
 .ret [Sh1.val (.g [.b,.l,.l]) ((x0.1),(⟨(some { block:=b3,off:=(0:Nat):Addr }),(x0.2.1.n),(c3)⟩:SlV),(⟨(some { block:=b6,off:=(0:Nat):Addr }),(x0.2.2.1.n),(c6)⟩:SlV),())]
theorem fS_l19Rat (x0:Bool × SlV × SlV × PUnit):fits Tryz.prog aS_l19Rat 109 [Sh1.val (.g [.b,.l,.l]) (x0)] (tS_l19Rat x0) :=
 fitK (by kernel_rfl)
def aL_toAcct:An:=⟨[],[],[]⟩
noncomputable def tL_toAcct (x0:ByteArray × ByteArray × Bool × SlV × PUnit):T :=
 .call false 23 [Sh1.val (.g [.s,.b,.l]) (x0.2)] (.v (.g [.s,.b,.l])) fun y1 =>
 .ret [Sh1.val (.g [.s,.s,.b,.l]) ((x0.1),(y1.1),(y1.2.1),y1.2.2.1,())]
theorem fL_toAcct (x0:ByteArray × ByteArray × Bool × SlV × PUnit):fits Tryz.prog aL_toAcct 110 [Sh1.val (.g [.s,.s,.b,.l]) (x0)] (tL_toAcct x0) :=
 fitK (by kernel_rfl)
def aL_toRat:An:=⟨[],[],[]⟩
noncomputable def tL_toRat (x0:Bool × SlV × SlV × PUnit):T :=
 .call false 62 [Sh1.val (.g [.b,.l]) ((x0.1),x0.2.1,())] (.v (.g [.b,.l])) fun y1 =>
 .call false 100 [Sc.val .l (x0.2.2.1)] (.v (.o (.l))) fun y2 =>
 .ret [Sh1.val (.g [.b,.l,.l]) ((y1.1),y1.2.1,y2,())]
theorem fL_toRat (x0:Bool × SlV × SlV × PUnit):fits Tryz.prog aL_toRat 111 [Sh1.val (.g [.b,.l,.l]) (x0)] (tL_toRat x0) :=
 fitK (by kernel_rfl)
def aI_BookOk:An:=⟨[(4,[.s 12],[.o (.o (.i .i64))])],[],[]⟩
noncomputable def tI_BookOk (x0:SlV × PUnit):T :=
 .br (decide ((↑x0.1.n:Int) > (12:Int))) (
  .ret [.bool (false)]) <|
 .lp [.o (.o (.i .i64))] [.v (.int .i64 ((0:Int)))] fun y1 =>
 .br (decide (y1.1<(↑x0.1.n:Int))) (
  .el (x0.1.1) (x0.1.n) (y1.1) fun y2 =>
  .ld false (y2.add (Int.toNat y1.1*(4:Nat))) (.g [.s,.s,.b,.l]) fun y3 =>
  .rg <|
  .call true 130 [.string (y3.1)] (.v (.o (.b))) fun y4 =>
  .br (!y4) (
   .ret [.bool (false)]) <|
  .call true 131 [Sh1.val (.g [.s,.b,.l]) (y3.2)] (.v (.o (.b))) fun y5 =>
  .br (!y5) (
   .ret [.bool (false)]) <|
  .br (decide (y1.1 > (0:Int))) (
   .el (x0.1.1) (x0.1.n) (IntKind.i64.wrap (y1.1-(1:Int))) fun y6 =>
   .ld true ((y6.add ((IntKind.i64.wrap (y1.1-(1:Int))).toNat*(4:Nat))).add (0:Nat)) (.o (.s)) fun y7 =>
   .br (!Op.bytesLess y7.toList (ByteArray.toList y3.1)) (
    .ret [.bool (false)]) <|
   .nx 0 [.v (.int .i64 (IntKind.i64.wrap (y1.1+(1:Int))))]) <|
  .nx 0 [.v (.int .i64 (IntKind.i64.wrap (y1.1+(1:Int))))]) <|
 .ret [.bool (true)]
theorem fI_BookOk (x0:SlV × PUnit):fits Tryz.prog aI_BookOk 112 [Sh1.val (.g [.l]) (x0)] (tI_BookOk x0) :=
 fitK (by kernel_rfl)
def aI_RestsOk:An:=⟨[(2,[.s 7],[.o (.o (.i .i64))])],[],[]⟩
noncomputable def tI_RestsOk (x0:SlV):T :=
 .lp [.o (.o (.i .i64))] [.v (.int .i64 ((0:Int)))] fun y1 =>
 .br (decide (y1.1<(↑x0.n:Int))) (
  .el (x0.1) (x0.n) (y1.1) fun y2 =>
  .ld false (y2.add (Int.toNat y1.1*(4:Nat))) (.g [.s,.b,.l,.l]) fun y3 =>
  .rg <|
  .call true 132 [.string (y3.1)] (.v (.o (.b))) fun y4 =>
  .br (!y4) (
   .ret [.bool (false)]) <|
  .call true 133 [Sh1.val (.g [.b,.l,.l]) (y3.2)] (.v (.o (.b))) fun y5 =>
  .br (!y5) (
   .ret [.bool (false)]) <|
  .call true 134 [Sh1.val (.g [.b,.l,.l]) (y3.2)] (.v (.o (.i .i64))) fun y6 =>
  .br (y6 == (0:Int)) (
   .ret [.bool (false)]) <|
  .br (decide (y1.1 > (0:Int))) (
   .el (x0.1) (x0.n) (IntKind.i64.wrap (y1.1-(1:Int))) fun y7 =>
   .ld true ((y7.add ((IntKind.i64.wrap (y1.1-(1:Int))).toNat*(4:Nat))).add (0:Nat)) (.o (.s)) fun y8 =>
   .br (!Op.bytesLess y8.toList (ByteArray.toList y3.1)) (
    .ret [.bool (false)]) <|
   .nx 0 [.v (.int .i64 (IntKind.i64.wrap (y1.1+(1:Int))))]) <|
  .nx 0 [.v (.int .i64 (IntKind.i64.wrap (y1.1+(1:Int))))]) <|
 .ret [.bool (true)]
theorem fI_RestsOk (x0:SlV):fits Tryz.prog aI_RestsOk 113 [Sc.val .l (x0)] (tI_RestsOk x0) :=
 fitK (by kernel_rfl)
def aI_RatesOk:An:=⟨[(5,[.s 21],[.o (.o (.i .i64))])],[],[]⟩
noncomputable def tI_RatesOk (x0:ByteArray × SlV × PUnit):T :=
 .call false 132 [.string (x0.1)] (.v (.o (.b))) fun y1 =>
 .br (!y1) (
  .ret [.bool (false)]) <|
 .br (decide ((↑x0.2.1.n:Int) > (12:Int))) (
  .ret [.bool (false)]) <|
 .mo (.mk 189) (.v (.o (.x))) fun y2 =>
 .lp [.o (.o (.i .i64))] [.v (.int .i64 ((0:Int)))] fun y3 =>
 .br (decide (y3.1<(↑x0.2.1.n:Int))) (
  .el (x0.2.1.1) (x0.2.1.n) (y3.1) fun y4 =>
  .ld false (y4.add (Int.toNat y3.1*(5:Nat))) (.g [.s,.s,.b,.l,.i .i64]) fun y5 =>
  .call false 135 [Sh1.val (.g [.s,.s,.b,.l,.i .i64]) (y5)] (.v (.o (.b))) fun y6 =>
  .br (!y6) (
   .ret [.bool (false)]) <|
  .mo (.lk 189 ((y2.1)) (Sh1.val (.g [.s,.s]) ((y5.1),(y5.2.1),())) false) (.v (.o (.b))) fun y7 =>
  .br (y7) (
   .ret [.bool (false)]) <|
  .mo (.up 189 ((y2.1)) (Sh1.val (.g [.s,.s]) ((y5.1),(y5.2.1),())) (.bool (true))) (.t []) fun _ =>
  .nx 0 [.v (.int .i64 (IntKind.i64.wrap (y3.1+(1:Int))))]) <|
 .ret [.bool (true)]
theorem fI_RatesOk (x0:ByteArray × SlV × PUnit):fits Tryz.prog aI_RatesOk 114 [Sh1.val (.g [.s,.l]) (x0)] (tI_RatesOk x0) :=
 fitK (by kernel_rfl)
def aI_bookCopy:An:=⟨[(3,[.s 15,.c 3 0],[.o (.o (.i .i64)),.o (.o (.l))])],[],[]⟩
noncomputable def tI_bookCopy (x0:SlV × PUnit):T :=
 .rq ((0:Int)≤(0:Int)∧(0:Int)≤IntKind.i64.wrap ((↑x0.1.n:Int)+(1:Int))∧(↑(64:Nat):Int)*IntKind.i64.wrap ((↑x0.1.n:Int)+(1:Int))≤(281474976710656:Int)∧IntKind.i64.wrap ((↑x0.1.n:Int)+(1:Int))≤(9223372036854775807:Int)) <|
 .fz (Int.toNat (0:Int)) [] 135 fun b1 c1 =>
 .lp [.o (.o (.i .i64)),.o (.o (.l))] [.v (.int .i64 ((0:Int))),.v (.slice (some { block:=b1,off:=(0:Nat):Addr }) (Int.toNat (0:Int)) (c1))] fun y2 =>
 .br (decide (y2.1<(↑x0.1.n:Int))) (
  .el (x0.1.1) (x0.1.n) (y2.1) fun y3 =>
  .ld false (y3.add (Int.toNat y2.1*(4:Nat))) (.g [.s,.s,.b,.l]) fun y4 =>
  .rg <|
  .call true 136 [Sh1.val (.g [.s,.b,.l]) (y4.2)] (.v (.g [.s,.b,.l])) fun y5 =>
  .rq ([Value.string y4.1,Value.string y5.1,Value.bool y5.2.1,Value.slice y5.2.2.1.1 y5.2.2.1.n y5.2.2.1.c].length=(1:Nat)*(4:Nat)) <|
  .rq (one [Value.string y4.1,Value.string y5.1,Value.bool y5.2.1,Value.slice y5.2.2.1.1 y5.2.2.1.n y5.2.2.1.c]=true) <|
  .ap ({ a:=y2.2.1.1,n:=y2.2.1.n,c:=y2.2.1.c:SlV }) 4 64 [.string (y4.1),.string (y5.1),.bool (y5.2.1),Sc.val .l (y5.2.2.1)] ((1:Nat)) 135 fun y6 =>
  .nx 0 [.v (.int .i64 (IntKind.i64.wrap (y2.1+(1:Int)))),.v (Sc.val .l (y6))]) <|
 .ret [Sh1.val (.g [.l]) (y2.2)]
theorem fI_bookCopy (x0:SlV × PUnit):fits Tryz.prog aI_bookCopy 115 [Sh1.val (.g [.l]) (x0)] (tI_bookCopy x0) :=
 fitK (by kernel_rfl)
def aI_restsCopy:An:=⟨[(3,[.s 3,.s 9],[.o (.o (.l)),.o (.o (.i .i64))])],[],[]⟩
noncomputable def tI_restsCopy (x0:SlV):T :=
 .fz ((0:Nat)) [] 143 fun b1 c1 =>
 .lp [.o (.o (.l)),.o (.o (.i .i64))] [.v (.slice (some { block:=b1,off:=(0:Nat):Addr }) ((0:Nat)) (c1)),.v (.int .i64 ((0:Int)))] fun y2 =>
 .br (decide (y2.2.1<(↑x0.n:Int))) (
  .el (x0.1) (x0.n) (y2.2.1) fun y3 =>
  .ld false (y3.add (Int.toNat y2.2.1*(4:Nat))) (.g [.s,.b,.l,.l]) fun y4 =>
  .rg <|
  .call true 137 [Sh1.val (.g [.b,.l,.l]) (y4.2)] (.v (.g [.b,.l,.l])) fun y5 =>
  .rq ([Value.string y4.1,Value.bool y5.1,Value.slice y5.2.1.1 y5.2.1.n y5.2.1.c,Value.slice y5.2.2.1.1 y5.2.2.1.n y5.2.2.1.c].length=(1:Nat)*(4:Nat)) <|
  .rq (one [Value.string y4.1,Value.bool y5.1,Value.slice y5.2.1.1 y5.2.1.n y5.2.1.c,Value.slice y5.2.2.1.1 y5.2.2.1.n y5.2.2.1.c]=true) <|
  .ap ({ a:=y2.1.1,n:=y2.1.n,c:=y2.1.c:SlV }) 4 72 [.string (y4.1),.bool (y5.1),Sc.val .l (y5.2.1),Sc.val .l (y5.2.2.1)] ((1:Nat)) 143 fun y6 =>
  .nx 0 [.v (Sc.val .l (y6)),.v (.int .i64 (IntKind.i64.wrap (y2.2.1+(1:Int))))]) <|
 .ret [Sc.val .l (y2.1)]
theorem fI_restsCopy (x0:SlV):fits Tryz.prog aI_restsCopy 116 [Sc.val .l (x0)] (tI_restsCopy x0) :=
 fitK (by kernel_rfl)
def aI_ratesCopy:An:=⟨[(3,[.s 12,.c 3 0,.c 3 1],[.o (.o (.i .i64)),.o (.o (.s)),.o (.o (.l))])],[],[]⟩
noncomputable def tI_ratesCopy (x0:ByteArray × SlV × PUnit):T :=
 .lp [.o (.o (.i .i64)),.o (.o (.s)),.o (.o (.l))] [.v (.int .i64 ((0:Int))),.v (.string (x0.1)),.v (.slice (none) ((0:Nat)) ((0:Nat)))] fun y1 =>
 .br (decide (y1.1<(↑x0.2.1.n:Int))) (
  .el (x0.2.1.1) (x0.2.1.n) (y1.1) fun y2 =>
  .ld false (y2.add (Int.toNat y1.1*(5:Nat))) (.g [.s,.s,.b,.l,.i .i64]) fun y3 =>
  .rg <|
  .call true 138 [Sh1.val (.g [.s,.s,.b,.l,.i .i64]) (y3)] (.v (.g [.s,.s,.b,.l,.i .i64])) fun y4 =>
  .rq ([Value.string y4.1,Value.string y4.2.1,Value.bool y4.2.2.1,Value.slice y4.2.2.2.1.1 y4.2.2.2.1.n y4.2.2.2.1.c,Value.int IntKind.i64 y4.2.2.2.2.1].length=(1:Nat)*(5:Nat)) <|
  .rq (one [Value.string y4.1,Value.string y4.2.1,Value.bool y4.2.2.1,Value.slice y4.2.2.2.1.1 y4.2.2.2.1.n y4.2.2.2.1.c,Value.int IntKind.i64 y4.2.2.2.2.1]=true) <|
  .ap ({ a:=y1.2.2.1.1,n:=y1.2.2.1.n,c:=y1.2.2.1.c:SlV }) 5 72 [.string (y4.1),.string (y4.2.1),.bool (y4.2.2.1),Sc.val .l (y4.2.2.2.1),.int .i64 (y4.2.2.2.2.1)] ((1:Nat)) 60 fun y5 =>
  .nx 0 [.v (.int .i64 (IntKind.i64.wrap (y1.1+(1:Int)))),.v (.string (y1.2.1)),.v (Sc.val .l (y5))]) <|
 .ret [Sh1.val (.g [.s,.l]) (y1.2)]
theorem fI_ratesCopy (x0:ByteArray × SlV × PUnit):fits Tryz.prog aI_ratesCopy 117 [Sh1.val (.g [.s,.l]) (x0)] (tI_ratesCopy x0) :=
 fitK (by kernel_rfl)
def aL_eqAcct:An:=⟨[],[],[]⟩
noncomputable def tL_eqAcct (x0:ByteArray × ByteArray × Bool × SlV × PUnit) (x1:ByteArray × ByteArray × Bool × SlV × PUnit):T :=
 .br (!ByteArray.toList x0.1 == ByteArray.toList x1.1) (
  .ret [.bool (false)]) <|
 .call false 25 [Sh1.val (.g [.s,.b,.l]) (x0.2),Sh1.val (.g [.s,.b,.l]) (x1.2)] (.v (.o (.b))) fun y1 =>
 .br (!y1) (
  .ret [.bool (false)]) <|
 .ret [.bool (true)]
theorem fL_eqAcct (x0:ByteArray × ByteArray × Bool × SlV × PUnit) (x1:ByteArray × ByteArray × Bool × SlV × PUnit):fits Tryz.prog aL_eqAcct 118 [Sh1.val (.g [.s,.s,.b,.l]) (x0),Sh1.val (.g [.s,.s,.b,.l]) (x1)] (tL_eqAcct x0 x1) :=
 fitK (by kernel_rfl)
def aL_eqRat:An:=⟨[],[],[]⟩
noncomputable def tL_eqRat (x0:Bool × SlV × SlV × PUnit) (x1:Bool × SlV × SlV × PUnit):T :=
 .call false 63 [Sh1.val (.g [.b,.l]) ((x0.1),x0.2.1,()),Sh1.val (.g [.b,.l]) ((x1.1),x1.2.1,())] (.v (.o (.b))) fun y1 =>
 .br (!y1) (
  .ret [.bool (false)]) <|
 .call false 101 [Sc.val .l (x0.2.2.1),Sc.val .l (x1.2.2.1)] (.v (.o (.b))) fun y2 =>
 .br (!y2) (
  .ret [.bool (false)]) <|
 .ret [.bool (true)]
theorem fL_eqRat (x0:Bool × SlV × SlV × PUnit) (x1:Bool × SlV × SlV × PUnit):fits Tryz.prog aL_eqRat 119 [Sh1.val (.g [.b,.l,.l]) (x0),Sh1.val (.g [.b,.l,.l]) (x1)] (tL_eqRat x0 x1) :=
 fitK (by kernel_rfl)
def aS_IntOk:An:=⟨[],[],[]⟩
noncomputable def tS_IntOk (x0:Bool × SlV × PUnit):T :=
 .call false 125 [Sc.val .l (x0.2.1)] (.v (.o (.b))) fun y1 =>
 .br (y1) (
  .br (!x0.1) (
   .ret [.bool (true)]) <|
  .ret [.bool (decide ((↑x0.2.1.n:Int) > (0:Int)))]) <|
 .ret [.bool (false)]
theorem fS_IntOk (x0:Bool × SlV × PUnit):fits Tryz.prog aS_IntOk 120 [Sh1.val (.g [.b,.l]) (x0)] (tS_IntOk x0) :=
 fitK (by kernel_rfl)
def aS_l01In:An:=⟨[],[],[]⟩
noncomputable def tS_l01In (x0:Int) (x1:Int) (x2:Int):T :=
 .br (decide (x0≥x1)) (
  .ret [.bool (decide (x0≤x2))]) <|
 .ret [.bool (false)]
theorem fS_l01In (x0:Int) (x1:Int) (x2:Int):fits Tryz.prog aS_l01In 121 [.int .i64 (x0),.int .i64 (x1),.int .i64 (x2)] (tS_l01In x0 x1 x2) :=
 fitK (by kernel_rfl)
def aS_IntCmp:An:=⟨[],[],[]⟩
noncomputable def tS_IntCmp (x0:Bool × SlV × PUnit) (x1:Bool × SlV × PUnit):T :=
 .call false 120 [Sh1.val (.g [.b,.l]) (x0)] (.v (.o (.b))) fun y1 =>
 .br (!y1) (
  .ret [.int .i64 ((0:Int))]) <|
 .call false 120 [Sh1.val (.g [.b,.l]) (x1)] (.v (.o (.b))) fun y2 =>
 .br (!y2) (
  .ret [.int .i64 ((0:Int))]) <|
 .br (x0.1) (
  .br (!x1.1) (
   .ret [.int .i64 ((-1:Int))]) <|
  .br (!x0.1) (
   .br (x1.1) (
    .ret [.int .i64 ((1:Int))]) <|
   .br (x0.1) (
    .call false 126 [Sc.val .l (x1.2.1),Sc.val .l (x0.2.1)] (.v (.o (.i .i64))) fun y3 =>
    .ret [.int .i64 (y3)]) <|
   .call false 126 [Sc.val .l (x0.2.1),Sc.val .l (x1.2.1)] (.v (.o (.i .i64))) fun y3 =>
   .ret [.int .i64 (y3)]) <|
  .br (x0.1) (
   .call false 126 [Sc.val .l (x1.2.1),Sc.val .l (x0.2.1)] (.v (.o (.i .i64))) fun y3 =>
   .ret [.int .i64 (y3)]) <|
  .call false 126 [Sc.val .l (x0.2.1),Sc.val .l (x1.2.1)] (.v (.o (.i .i64))) fun y3 =>
  .ret [.int .i64 (y3)]) <|
 .br (!x0.1) (
  .br (x1.1) (
   .ret [.int .i64 ((1:Int))]) <|
  .br (x0.1) (
   .call false 126 [Sc.val .l (x1.2.1),Sc.val .l (x0.2.1)] (.v (.o (.i .i64))) fun y3 =>
   .ret [.int .i64 (y3)]) <|
  .call false 126 [Sc.val .l (x0.2.1),Sc.val .l (x1.2.1)] (.v (.o (.i .i64))) fun y3 =>
  .ret [.int .i64 (y3)]) <|
 .br (x0.1) (
  .call false 126 [Sc.val .l (x1.2.1),Sc.val .l (x0.2.1)] (.v (.o (.i .i64))) fun y3 =>
  .ret [.int .i64 (y3)]) <|
 .call false 126 [Sc.val .l (x0.2.1),Sc.val .l (x1.2.1)] (.v (.o (.i .i64))) fun y3 =>
 .ret [.int .i64 (y3)]
theorem fS_IntCmp (x0:Bool × SlV × PUnit) (x1:Bool × SlV × PUnit):fits Tryz.prog aS_IntCmp 122 [Sh1.val (.g [.b,.l]) (x0),Sh1.val (.g [.b,.l]) (x1)] (tS_IntCmp x0 x1) :=
 fitK (by kernel_rfl)
def aS_l04Make:An:=⟨[],[],[]⟩
noncomputable def tS_l04Make (x0:Bool) (x1:SlV):T :=
 .call false 139 [Sc.val .l (x1)] (.v (.o (.l))) fun y1 =>
 .br (x0) (
  .rd ({ a:=y1.1,n:=y1.n,c:=y1.c:SlV }) ((1:Nat)) fun y2 =>
  .rq (one y2=true∧((0:Nat)+y1.n)*(8:Nat)≤(140737488355328:Nat)∧(0:Nat)+y1.n≤(9223372036854775807:Nat)) <|
  .fz ((0:Nat)+y1.n) ([]++y2) 3 fun b3 c3 =>
  .ret [Sh1.val (.g [.b,.l]) ((decide ((↑y1.n:Int) > (0:Int))),(⟨(some { block:=b3,off:=(0:Nat):Addr }),((0:Nat)+y1.n),(c3)⟩:SlV),())]) <|
 .rd ({ a:=y1.1,n:=y1.n,c:=y1.c:SlV }) ((1:Nat)) fun y2 =>
 .rq (one y2=true∧((0:Nat)+y1.n)*(8:Nat)≤(140737488355328:Nat)∧(0:Nat)+y1.n≤(9223372036854775807:Nat)) <|
 .fz ((0:Nat)+y1.n) ([]++y2) 3 fun b3 c3 =>
 .ret [Sh1.val (.g [.b,.l]) ((false),(⟨(some { block:=b3,off:=(0:Nat):Addr }),((0:Nat)+y1.n),(c3)⟩:SlV),())]
theorem fS_l04Make (x0:Bool) (x1:SlV):fits Tryz.prog aS_l04Make 123 [.bool (x0),Sc.val .l (x1)] (tS_l04Make x0 x1) :=
 fitK (by kernel_rfl)
def aS_NatOk:An:=⟨[(2,[.s 7],[.o (.o (.i .i64))])],[],[]⟩
noncomputable def tS_NatOk (x0:SlV):T :=
 .lp [.o (.o (.i .i64))] [.v (.int .i64 ((0:Int)))] fun y1 =>
 .br (decide (y1.1<(↑x0.n:Int))) (
  .el (x0.1) (x0.n) (y1.1) fun y2 =>
  .ld false (y2.add (Int.toNat y1.1*(1:Nat))) (.o (.i .i64)) fun y3 =>
  .call false 121 [.int .i64 (y3),.int .i64 ((0:Int)),.int .i64 ((999999999:Int))] (.v (.o (.b))) fun y4 =>
  .br (!y4) (
   .ret [.bool (false)]) <|
  .nx 0 [.v (.int .i64 (IntKind.i64.wrap (y1.1+(1:Int))))]) <|
 .br (decide ((↑x0.n:Int)≤(50:Int))) (
  .br ((↑x0.n:Int) == (0:Int)) (
   .ret [.bool (true)]) <|
  .el (x0.1) (x0.n) (IntKind.i64.wrap ((↑x0.n:Int)-(1:Int))) fun y2 =>
  .ld false (y2.add ((IntKind.i64.wrap ((↑x0.n:Int)-(1:Int))).toNat*(1:Nat))) (.o (.i .i64)) fun y3 =>
  .ret [.bool (y3 != (0:Int))]) <|
 .ret [.bool (false)]
theorem fS_NatOk (x0:SlV):fits Tryz.prog aS_NatOk 125 [Sc.val .l (x0)] (tS_NatOk x0) :=
 fitK (by kernel_rfl)
def aS_l02Cmp:An:=⟨[(6,[.s 5],[.o (.o (.i .i64))])],[],[]⟩
noncomputable def tS_l02Cmp (x0:SlV) (x1:SlV):T :=
 .br ((↑x0.n:Int) != (↑x1.n:Int)) (
  .br (decide ((↑x0.n:Int)<(↑x1.n:Int))) (
   .ret [.int .i64 ((-1:Int))]) <|
  .ret [.int .i64 ((1:Int))]) <|
 .lp [.o (.o (.i .i64))] [.v (.int .i64 (IntKind.i64.wrap ((↑x0.n:Int)-(1:Int))))] fun y1 =>
 .br (decide (y1.1≥(0:Int))) (
  .rg <|
  .el (x0.1) (x0.n) (y1.1) fun y2 =>
  .ld true (y2.add (Int.toNat y1.1*(1:Nat))) (.o (.i .i64)) fun y3 =>
  .el (x1.1) (x1.n) (y1.1) fun y4 =>
  .ld true (y4.add (Int.toNat y1.1*(1:Nat))) (.o (.i .i64)) fun y5 =>
  .br (decide (y3<y5)) (
   .ret [.int .i64 ((-1:Int))]) <|
  .rg <|
  .el (x0.1) (x0.n) (y1.1) fun y6 =>
  .ld true (y6.add (Int.toNat y1.1*(1:Nat))) (.o (.i .i64)) fun y7 =>
  .el (x1.1) (x1.n) (y1.1) fun y8 =>
  .ld true (y8.add (Int.toNat y1.1*(1:Nat))) (.o (.i .i64)) fun y9 =>
  .br (decide (y7 > y9)) (
   .ret [.int .i64 ((1:Int))]) <|
  .nx 0 [.v (.int .i64 (IntKind.i64.wrap (y1.1-(1:Int))))]) <|
 .ret [.int .i64 ((0:Int))]
theorem fS_l02Cmp (x0:SlV) (x1:SlV):fits Tryz.prog aS_l02Cmp 126 [Sc.val .l (x0),Sc.val .l (x1)] (tS_l02Cmp x0 x1) :=
 fitK (by kernel_rfl)
def aS_NatGcd:An:=⟨[(5,[.s 5,.s 6],[.o (.o (.l)),.o (.o (.l))])],[],[]⟩
noncomputable def tS_NatGcd (x0:SlV) (x1:SlV):T :=
 .call false 125 [Sc.val .l (x0)] (.v (.o (.b))) fun y1 =>
 .br (!y1) (
  .ret [.slice (none) ((0:Nat)) ((0:Nat))]) <|
 .call false 125 [Sc.val .l (x1)] (.v (.o (.b))) fun y2 =>
 .br (!y2) (
  .ret [.slice (none) ((0:Nat)) ((0:Nat))]) <|
 .rd ({ a:=x0.1,n:=x0.n,c:=x0.c:SlV }) ((1:Nat)) fun y3 =>
 .rq (one y3=true∧((0:Nat)+x0.n)*(8:Nat)≤(140737488355328:Nat)∧(0:Nat)+x0.n≤(9223372036854775807:Nat)) <|
 .rd ({ a:=x1.1,n:=x1.n,c:=x1.c:SlV }) ((1:Nat)) fun y4 =>
 .rq (one y4=true∧((0:Nat)+x1.n)*(8:Nat)≤(140737488355328:Nat)∧(0:Nat)+x1.n≤(9223372036854775807:Nat)) <|
 .fz ((0:Nat)+x0.n) ([]++y3) 3 fun b5 c5 =>
 .fz ((0:Nat)+x1.n) ([]++y4) 3 fun b6 c6 =>
 .lp [.o (.o (.l)),.o (.o (.l))] [.v (.slice (some { block:=b5,off:=(0:Nat):Addr }) ((0:Nat)+x0.n) (c5)),.v (.slice (some { block:=b6,off:=(0:Nat):Addr }) ((0:Nat)+x1.n) (c6))] fun y7 =>
 .br (decide ((↑y7.2.1.n:Int) > (0:Int))) (
  .call false 143 [Sc.val .l (y7.1),Sc.val .l (y7.2.1)] (.t [(.o (.l)),(.o (.l))]) fun y8 =>
  .nx 0 [.v (Sc.val .l (y7.2.1)),.v (Sc.val .l (y8.2.1))]) <|
 .ret [Sc.val .l (y7.1)]
theorem fS_NatGcd (x0:SlV) (x1:SlV):fits Tryz.prog aS_NatGcd 127 [Sc.val .l (x0),Sc.val .l (x1)] (tS_NatGcd x0 x1) :=
 fitK (by kernel_rfl)
def aS_RatCmp:An:=⟨[],[],[]⟩
noncomputable def tS_RatCmp (x0:Bool × SlV × SlV × PUnit) (x1:Bool × SlV × SlV × PUnit):T :=
 .call false 105 [Sh1.val (.g [.b,.l,.l]) (x0)] (.v (.o (.b))) fun y1 =>
 .br (!y1) (
  .ret [.int .i64 ((0:Int))]) <|
 .call false 105 [Sh1.val (.g [.b,.l,.l]) (x1)] (.v (.o (.b))) fun y2 =>
 .br (!y2) (
  .ret [.int .i64 ((0:Int))]) <|
 .rg <|
 .call true 144 [Sc.val .l (x0.2.1),Sc.val .l (x1.2.2.1)] (.v (.o (.l))) fun y3 =>
 .call true 123 [.bool (x0.1),Sc.val .l (y3)] (.v (.g [.b,.l])) fun y4 =>
 .call true 144 [Sc.val .l (x1.2.1),Sc.val .l (x0.2.2.1)] (.v (.o (.l))) fun y5 =>
 .call false 123 [.bool (x1.1),Sc.val .l (y5)] (.v (.g [.b,.l])) fun y6 =>
 .call false 122 [Sh1.val (.g [.b,.l]) (y4),Sh1.val (.g [.b,.l]) (y6)] (.v (.o (.i .i64))) fun y7 =>
 .ret [.int .i64 (y7)]
theorem fS_RatCmp (x0:Bool × SlV × SlV × PUnit) (x1:Bool × SlV × SlV × PUnit):fits Tryz.prog aS_RatCmp 128 [Sh1.val (.g [.b,.l,.l]) (x0),Sh1.val (.g [.b,.l,.l]) (x1)] (tS_RatCmp x0 x1) :=
 fitK (by kernel_rfl)
def aS_RatZero:An:=⟨[],[],[]⟩
noncomputable def tS_RatZero :T :=
 .fz ((1:Nat)) [.int .i64 ((1:Int))] 3 fun b1 c1 =>
 .ret [Sh1.val (.g [.b,.l,.l]) ((false),nilS,(⟨(some { block:=b1,off:=(0:Nat):Addr }),((1:Nat)),(c1)⟩:SlV),())]
theorem fS_RatZero :fits Tryz.prog aS_RatZero 129 [] (tS_RatZero ) :=
 fitK (by kernel_rfl)
def aI_IsWord:An:=⟨[(4,[.s 3],[.o (.o (.i .i64))])],[],[]⟩
noncomputable def tI_IsWord (x0:ByteArray):T :=
 .br (decide ((↑x0.size:Int)<(1:Int))) (
  .ret [.bool (false)]) <|
 .br (decide ((↑x0.size:Int) > (12:Int))) (
  .ret [.bool (false)]) <|
 .rq ((0:Int)≤(0:Int)∧(0:Int)<(↑x0.size:Int)) <|
 .call false 145 [.int .u8 (at0 x0 (Int.toNat (0:Int)))] (.v (.o (.b))) fun y1 =>
 .br (!y1) (
  .ret [.bool (false)]) <|
 .lp [.o (.o (.i .i64))] [.v (.int .i64 ((1:Int)))] fun y2 =>
 .br (decide (y2.1<(↑x0.size:Int))) (
  .rq ((0:Int)≤y2.1∧y2.1<(↑x0.size:Int)) <|
  .call false 145 [.int .u8 (at0 x0 (Int.toNat y2.1))] (.v (.o (.b))) fun y3 =>
  .br (!y3) (
   .rq ((0:Int)≤y2.1∧y2.1<(↑x0.size:Int)) <|
   .call false 146 [.int .u8 (at0 x0 (Int.toNat y2.1))] (.v (.o (.b))) fun y4 =>
   .br (!y4) (
    .ret [.bool (false)]) <|
   .nx 0 [.v (.int .i64 (IntKind.i64.wrap (y2.1+(1:Int))))]) <|
  .nx 0 [.v (.int .i64 (IntKind.i64.wrap (y2.1+(1:Int))))]) <|
 .ret [.bool (true)]
theorem fI_IsWord (x0:ByteArray):fits Tryz.prog aI_IsWord 130 [.string (x0)] (tI_IsWord x0) :=
 fitK (by kernel_rfl)
def aI_MoneyOk:An:=⟨[],[],[]⟩
noncomputable def tI_MoneyOk (x0:ByteArray × Bool × SlV × PUnit):T :=
 .call false 132 [.string (x0.1)] (.v (.o (.b))) fun y1 =>
 .br (y1) (
  .call false 147 [Sh1.val (.g [.b,.l]) (x0.2)] (.v (.o (.b))) fun y2 =>
  .br (y2) (
   .ret [.bool (decide ((↑x0.2.2.1.n:Int)≤(4:Int)))]) <|
  .ret [.bool (false)]) <|
 .ret [.bool (false)]
theorem fI_MoneyOk (x0:ByteArray × Bool × SlV × PUnit):fits Tryz.prog aI_MoneyOk 131 [Sh1.val (.g [.s,.b,.l]) (x0)] (tI_MoneyOk x0) :=
 fitK (by kernel_rfl)
def aI_CurKnown:An:=⟨[],[],[]⟩
noncomputable def tI_CurKnown (x0:ByteArray):T :=
 .call false 148 [.string (x0)] (.t [(.g [.s,.s,.i .i64,.i .i64]),(.o (.b))]) fun y1 =>
 .ret [.bool (y1.2.1)]
theorem fI_CurKnown (x0:ByteArray):fits Tryz.prog aI_CurKnown 132 [.string (x0)] (tI_CurKnown x0) :=
 fitK (by kernel_rfl)
def aI_RatOk:An:=⟨[],[],[]⟩
noncomputable def tI_RatOk (x0:Bool × SlV × SlV × PUnit):T :=
 .call false 147 [Sh1.val (.g [.b,.l]) ((x0.1),x0.2.1,())] (.v (.o (.b))) fun y1 =>
 .br (!y1) (
  .ret [.bool (false)]) <|
 .call false 149 [Sc.val .l (x0.2.2.1)] (.v (.o (.b))) fun y2 =>
 .br (!y2) (
  .ret [.bool (false)]) <|
 .br ((↑x0.2.2.1.n:Int) == (0:Int)) (
  .ret [.bool (false)]) <|
 .br (decide ((↑x0.2.2.1.n:Int) > (18:Int))) (
  .ret [.bool (false)]) <|
 .br (decide ((↑x0.2.1.n:Int) > (18:Int))) (
  .ret [.bool (false)]) <|
 .call false 150 [Sc.val .l (x0.2.1),Sc.val .l (x0.2.2.1)] (.v (.o (.l))) fun y3 =>
 .br ((↑y3.n:Int) == (1:Int)) (
  .el (y3.1) (y3.n) ((0:Int)) fun y4 =>
  .ld false (y4.add (Int.toNat (0:Int)*(1:Nat))) (.o (.i .i64)) fun y5 =>
  .ret [.bool (y5 == (1:Int))]) <|
 .ret [.bool (false)]
theorem fI_RatOk (x0:Bool × SlV × SlV × PUnit):fits Tryz.prog aI_RatOk 133 [Sh1.val (.g [.b,.l,.l]) (x0)] (tI_RatOk x0) :=
 fitK (by kernel_rfl)
def aI_RatSign:An:=⟨[],[],[]⟩
noncomputable def tI_RatSign (x0:Bool × SlV × SlV × PUnit):T :=
 .call false 133 [Sh1.val (.g [.b,.l,.l]) (x0)] (.v (.o (.b))) fun y1 =>
 .br (!y1) (
  .ret [.int .i64 ((0:Int))]) <|
 .call false 151 [Sh1.val (.g [.b,.l]) ((x0.1),x0.2.1,())] (.v (.o (.i .i64))) fun y2 =>
 .ret [.int .i64 (y2)]
theorem fI_RatSign (x0:Bool × SlV × SlV × PUnit):fits Tryz.prog aI_RatSign 134 [Sh1.val (.g [.b,.l,.l]) (x0)] (tI_RatSign x0) :=
 fitK (by kernel_rfl)
def aI_RateOk:An:=⟨[],[],[]⟩
noncomputable def tI_RateOk (x0:ByteArray × ByteArray × Bool × SlV × Int × PUnit):T :=
 .call false 132 [.string (x0.1)] (.v (.o (.b))) fun y1 =>
 .br (y1) (
  .call false 132 [.string (x0.2.1)] (.v (.o (.b))) fun y2 =>
  .br (y2) (
   .br (!ByteArray.toList x0.1 == ByteArray.toList x0.2.1) (
    .call false 152 [Sh1.val (.g [.b,.l,.i .i64]) (x0.2.2)] (.v (.o (.b))) fun y3 =>
    .br (y3) (
     .call false 151 [Sh1.val (.g [.b,.l]) ((x0.2.2.1),x0.2.2.2.1,())] (.v (.o (.i .i64))) fun y4 =>
     .br (decide (y4 > (0:Int))) (
      .ret [.bool (decide ((↑x0.2.2.2.1.n:Int)≤(2:Int)))]) <|
     .ret [.bool (false)]) <|
    .ret [.bool (false)]) <|
   .ret [.bool (false)]) <|
  .ret [.bool (false)]) <|
 .ret [.bool (false)]
theorem fI_RateOk (x0:ByteArray × ByteArray × Bool × SlV × Int × PUnit):fits Tryz.prog aI_RateOk 135 [Sh1.val (.g [.s,.s,.b,.l,.i .i64]) (x0)] (tI_RateOk x0) :=
 fitK (by kernel_rfl)
def aI_moneyCopy:An:=⟨[],[],[(3,[.s 3])]⟩
noncomputable def tI_moneyCopy (x0:ByteArray × Bool × SlV × PUnit):T :=
 .rq ((0:Int)≤(↑x0.2.2.1.n:Int)∧(↑x0.2.2.1.n:Int)≤(↑x0.2.2.1.n:Int)∧(↑(8:Nat):Int)*(↑x0.2.2.1.n:Int)≤(281474976710656:Int)∧(↑x0.2.2.1.n:Int)≤(9223372036854775807:Int)) <|
 .rd ({ a:=x0.2.2.1.1,n:=x0.2.2.1.n,c:=x0.2.2.1.c:SlV }) ((1:Nat)) fun y1 =>
 .rq (one y1=true) <|
 .fz ((↑x0.2.2.1.n:Int).toNat) (setl (madeCells { toList:=[Value.int IntKind.i64 (0:Int)]:Array Value } ((↑x0.2.2.1.n:Int).toNat*(1:Nat))).toList (0:Nat) (List.take (x0.2.2.1.n.min (↑x0.2.2.1.n:Int).toNat) y1)) 3 fun b2 c2 =>
 .rg <|
 .rq ((0:Int)≤(0:Int)∧(0:Int)≤(↑(↑x0.2.2.1.n:Int).toNat:Int)∧(↑(↑x0.2.2.1.n:Int).toNat:Int)≤(↑(↑x0.2.2.1.n:Int).toNat:Int)∧(↑(↑x0.2.2.1.n:Int).toNat:Int)≤(↑c2:Int)) <|
 .ret [Sh1.val (.g [.s,.b,.l]) ((x0.1),(x0.2.1),(⟨(if (↑(↑x0.2.2.1.n:Int).toNat:Int).toNat=Int.toNat (0:Int) then some { block:=b2,off:=(0:Nat):Addr } else Option.map (fun x=>x.add (Int.toNat (0:Int)*Proofs.Tryz.prog.types[(3:Nat)].size)) (some { block:=b2,off:=(0:Nat):Addr })),((↑(↑x0.2.2.1.n:Int).toNat:Int).toNat-Int.toNat (0:Int)),((↑(↑x0.2.2.1.n:Int).toNat:Int).toNat-Int.toNat (0:Int))⟩:SlV),())]
theorem fI_moneyCopy (x0:ByteArray × Bool × SlV × PUnit):fits Tryz.prog aI_moneyCopy 136 [Sh1.val (.g [.s,.b,.l]) (x0)] (tI_moneyCopy x0) :=
 fitK (by kernel_rfl)
def aI_ratCopy:An:=⟨[],[],[]⟩
noncomputable def tI_ratCopy (x0:Bool × SlV × SlV × PUnit):T :=
 .rg <|
 .call true 153 [Sh1.val (.g [.b,.l]) ((x0.1),x0.2.1,())] (.v (.g [.b,.l])) fun y1 =>
 .call false 154 [Sc.val .l (x0.2.2.1)] (.v (.o (.l))) fun y2 =>
 .ret [Sh1.val (.g [.b,.l,.l]) ((y1.1),y1.2.1,y2,())]
theorem fI_ratCopy (x0:Bool × SlV × SlV × PUnit):fits Tryz.prog aI_ratCopy 137 [Sh1.val (.g [.b,.l,.l]) (x0)] (tI_ratCopy x0) :=
 fitK (by kernel_rfl)
def aI_rateCopy:An:=⟨[],[],[]⟩
noncomputable def tI_rateCopy (x0:ByteArray × ByteArray × Bool × SlV × Int × PUnit):T :=
 .rg <|
 .call true 155 [Sh1.val (.g [.b,.l,.i .i64]) (x0.2.2)] (.v (.g [.b,.l,.i .i64])) fun y1 =>
 .ret [Sh1.val (.g [.s,.s,.b,.l,.i .i64]) ((x0.1),(x0.2.1),(y1.1),y1.2.1,((y1.2.2.1):Int),())]
theorem fI_rateCopy (x0:ByteArray × ByteArray × Bool × SlV × Int × PUnit):fits Tryz.prog aI_rateCopy 138 [Sh1.val (.g [.s,.s,.b,.l,.i .i64]) (x0)] (tI_rateCopy x0) :=
 fitK (by kernel_rfl)
def aS_l02Cap:An:=⟨[],[],[]⟩
noncomputable def tS_l02Cap (x0:SlV):T :=
 .call false 156 [Sc.val .l (x0)] (.v (.o (.l))) fun y1 =>
 .br (decide ((↑y1.n:Int) > (50:Int))) (
  .ret [.slice (none) ((0:Nat)) ((0:Nat))]) <|
 .ret [Sc.val .l (y1)]
theorem fS_l02Cap (x0:SlV):fits Tryz.prog aS_l02Cap 139 [Sc.val .l (x0)] (tS_l02Cap x0) :=
 fitK (by kernel_rfl)
def aS_l03Div:An:=⟨[(7,[.s 8,.s 9,.s 10],[.a 3,.o (.o (.l)),.o (.o (.i .i64))])],[],[]⟩
noncomputable def tS_l03Div (x0:SlV) (x1:SlV):T :=
 .br ((↑x1.n:Int) == (1:Int)) (
  .el (x1.1) (x1.n) ((0:Int)) fun y1 =>
  .ld false (y1.add (Int.toNat (0:Int)*(1:Nat))) (.o (.i .i64)) fun y2 =>
  .call false 158 [Sc.val .l (x0),.int .i64 (y2)] (.t [(.o (.l)),(.o (.i .i64))]) fun y3 =>
  .call false 159 [.int .i64 (y3.2.1)] (.v (.o (.l))) fun y4 =>
  .ret [Sc.val .l (y3.1),Sc.val .l (y4)]) <|
 .rq ((0:Int)≤(↑x0.n:Int)∧(↑x0.n:Int)≤(↑x0.n:Int)∧(↑(8:Nat):Int)*(↑x0.n:Int)≤(281474976710656:Int)∧(↑x0.n:Int)≤(9223372036854775807:Int)) <|
 .fz ((0:Nat)) [] 3 fun b1 c1 =>
 .lp [.a 3,.o (.o (.l)),.o (.o (.i .i64))] [.a 3 ((↑x0.n:Int).toNat) ((madeCells { toList:=[Value.int IntKind.i64 (0:Int)]:Array Value } ((↑x0.n:Int).toNat*(1:Nat))).toList),.v (.slice (some { block:=b1,off:=(0:Nat):Addr }) ((0:Nat)) (c1)),.v (.int .i64 (IntKind.i64.wrap ((↑x0.n:Int)-(1:Int))))] fun y2 =>
 .br (decide (y2.2.2.1≥(0:Int))) (
  .el (x0.1) (x0.n) (y2.2.2.1) fun y3 =>
  .ld false (y3.add (Int.toNat y2.2.2.1*(1:Nat))) (.o (.i .i64)) fun y4 =>
  .rd ({ a:=y2.2.1.1,n:=y2.2.1.n,c:=y2.2.1.c:SlV }) ((1:Nat)) fun y5 =>
  .rq (one y5=true∧((1:Nat)+y2.2.1.n)*(8:Nat)≤(140737488355328:Nat)∧(1:Nat)+y2.2.1.n≤(9223372036854775807:Nat)) <|
  .fz ((1:Nat)+y2.2.1.n) ([Value.int IntKind.i64 y4]++y5) 3 fun b6 c6 =>
  .call false 156 [.slice (some { block:=b6,off:=(0:Nat):Addr }) ((1:Nat)+y2.2.1.n) (c6)] (.v (.o (.l))) fun y7 =>
  .call false 126 [Sc.val .l (y7),Sc.val .l (x1)] (.v (.o (.i .i64))) fun y8 =>
  .br (decide (y8<(0:Int))) (
   .nx 0 [.a 3 (y2.1.1) (y2.1.2),.v (Sc.val .l (y7)),.v (.int .i64 (IntKind.i64.wrap (y2.2.2.1-(1:Int))))]) <|
  .call false 160 [Sc.val .l (y7),Sc.val .l (x1)] (.v (.o (.i .i64))) fun y9 =>
  .rq ((0:Int)≤y2.2.2.1∧y2.2.2.1<(↑y2.1.1:Int)) <|
  .rq (Int.toNat y2.2.2.1*(1:Nat)+[Value.int IntKind.i64 y9].length≤y2.1.2.length) <|
  .call false 159 [.int .i64 (y9)] (.v (.o (.l))) fun y10 =>
  .call false 144 [Sc.val .l (x1),Sc.val .l (y10)] (.v (.o (.l))) fun y11 =>
  .call false 161 [Sc.val .l (y7),Sc.val .l (y11)] (.v (.o (.l))) fun y12 =>
  .nx 0 [.a 3 (y2.1.1) (setl y2.1.2 (Int.toNat y2.2.2.1*(1:Nat)) [Value.int IntKind.i64 y9]),.v (Sc.val .l (y12)),.v (.int .i64 (IntKind.i64.wrap (y2.2.2.1-(1:Int))))]) <|
 .fz (y2.1.1) (y2.1.2) 3 fun b3 c3 =>
 .call false 156 [.slice (some { block:=b3,off:=(0:Nat):Addr }) (y2.1.1) (c3)] (.v (.o (.l))) fun y4 =>
 .ret [Sc.val .l (y4),Sc.val .l (y2.2.1)]
theorem fS_l03Div (x0:SlV) (x1:SlV):fits Tryz.prog aS_l03Div 143 [Sc.val .l (x0),Sc.val .l (x1)] (tS_l03Div x0 x1) :=
 fitK (by kernel_rfl)
end Go.Proofs.YtccnjccabllcaaaGreatDoor
