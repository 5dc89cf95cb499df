/-
  What each function of the seat comes to, as a tree; each tree is checked against the code.
-/
import Derived.Test.YtagimdcegmpbmaaDoorEngD
import Derived.Test.YtagimdcegmpbmaaDoorChecked
import Derived.KernelRfl
namespace Go.Proofs.YtagimdcegmpbmaaDoor
open Sx
set_option maxRecDepth 100000
abbrev gL_FnExactLedgerNew : Nat := 3
abbrev gL_FnExactHighest : Nat := 4
abbrev gL_FnExactLowest : Nat := 5
abbrev gL_FnExactDeskNew : Nat := 6
abbrev gS_LedgerNew : Nat := 7
abbrev gI_LedgerNew : Nat := 8
abbrev gL_eqLedger : Nat := 9
abbrev gL_markLedger : Nat := 10
abbrev gL_heldLedger : Nat := 11
abbrev gL_szMoneyS : Nat := 12
abbrev gS_Highest : Nat := 13
abbrev gL_toMoneyS : Nat := 14
abbrev gI_Highest : Nat := 15
abbrev gL_eqMoney : Nat := 16
abbrev gL_eqMoneyS : Nat := 17
abbrev gL_markMoneyS : Nat := 18
abbrev gL_markMoney : Nat := 19
abbrev gL_heldMoney : Nat := 20
abbrev gS_Lowest : Nat := 21
abbrev gI_Lowest : Nat := 22
abbrev gS_DeskNew : Nat := 23
abbrev gI_DeskNew : Nat := 24
abbrev gL_eqDesk : Nat := 25
abbrev gL_markDesk : Nat := 26
abbrev gL_heldDesk : Nat := 27
abbrev gS_CurKnown : Nat := 28
abbrev gI_CurKnown : Nat := 29
abbrev gL_eqBook : Nat := 30
abbrev gL_eqRestS : Nat := 31
abbrev gL_eqRates : Nat := 32
abbrev gL_markBook : Nat := 33
abbrev gL_markRestS : Nat := 34
abbrev gL_markRates : Nat := 35
abbrev gL_heldBook : Nat := 36
abbrev gL_heldRestS : Nat := 37
abbrev gL_heldRates : Nat := 38
abbrev gL_szMoney : Nat := 39
abbrev gS_l25Best : Nat := 40
abbrev gL_toMoney : Nat := 41
abbrev gI_best : Nat := 42
abbrev gL_eqSigned : Nat := 43
abbrev gL_markText : Nat := 44
abbrev gL_markIntS : Nat := 45
abbrev gL_markSigned : Nat := 46
abbrev gL_heldSigned : Nat := 47
abbrev gL_eqLedgerS : Nat := 48
abbrev gL_markLedgerS : Nat := 49
abbrev gL_heldLedgerS : Nat := 50
abbrev gS_l08Find : Nat := 51
abbrev gI_currencyOf : Nat := 52
abbrev gL_eqAcctS : Nat := 53
abbrev gL_eqRest : Nat := 54
abbrev gL_eqRateS : Nat := 55
abbrev gL_markAcctS : Nat := 56
abbrev gL_markRateS : Nat := 57
abbrev gL_heldAcctS : Nat := 58
abbrev gL_heldIntS : Nat := 59
abbrev gL_heldRateS : Nat := 60
abbrev gL_szSigned : Nat := 61
abbrev gS_MoneyCmp : Nat := 62
abbrev gS_l17Money : Nat := 63
abbrev gL_toSigned : Nat := 64
abbrev gI_MoneyCmp : Nat := 65
abbrev gI_moneyCopy : Nat := 66
abbrev gL_eqIntS : Nat := 67
abbrev gS_l08Table : Nat := 68
abbrev gL_eqAcct : Nat := 69
abbrev gL_eqRat : Nat := 70
abbrev gL_eqRate : Nat := 71
abbrev gL_szIntS : Nat := 72
abbrev gS_l09Both : Nat := 73
abbrev gS_IntCmp : Nat := 74
abbrev gL_toIntS : Nat := 75
abbrev gI_alike : Nat := 76
abbrev gI_intCmp : Nat := 77
abbrev gL_eqDec : Nat := 78
abbrev gS_MoneyOk : Nat := 79
abbrev gS_IntOk : Nat := 80
abbrev gS_l02Cmp : Nat := 81
abbrev gI_MoneyOk : Nat := 82
abbrev gI_intSign : Nat := 83
abbrev gI_intAdd : Nat := 84
abbrev gI_intNeg : Nat := 85
abbrev gS_NatOk : Nat := 86
abbrev gI_IntOk : Nat := 87
abbrev gI_signed : Nat := 88
abbrev gI_natAdd : Nat := 89
abbrev gI_natCmp : Nat := 90
abbrev gI_natSub : Nat := 91
abbrev gI_natCopy : Nat := 92
abbrev gS_l01In : Nat := 93
abbrev gI_NatOk : Nat := 94
abbrev gI_trim : Nat := 95
/-! loop.example/g00793/laws.FnExactLedgerNew -/
def aL_FnExactLedgerNew : An := ⟨[], [], []⟩
noncomputable def tL_FnExactLedgerNew (x0 : ByteArray) : T :=
  .br (decide ((↑x0.size : Int) > (1048576 : Int))) (
    .ret [.bool (true)]) <|
  .call false 7 [.string (x0)] (.t [(.g [.l, .l, .s, .l]), (.o (.b))]) fun y1 =>
  .call false 8 [.string (x0)] (.t [(.g [.l, .l, .s, .l]), (.o (.b))]) fun y2 =>
  .call false 9 [Sh1.val (.g [.l, .l, .s, .l]) (y2.1), Sh1.val (.g [.l, .l, .s, .l]) (y1.1)] (.v (.o (.b))) fun y3 =>
  .br (!y3) (
    .ret [.bool (false)]) <|
  .br (!y2.2.fst == y1.2.fst) (
    .ret [.bool (false)]) <|
  .call false 10 [Sh1.val (.g [.l, .l, .s, .l]) (y2.1), .int .i64 ((1 : Int))] (.v (.o (.i .i64))) fun y4 =>
  .call false 11 [Sh1.val (.g [.l, .l, .s, .l]) (y2.1), .int .i64 ((1 : Int))] (.v (.o (.i .i64))) fun y5 =>
  .br (decide (y5 < (0 : Int))) (
    .ret [.bool (false)]) <|
  .br (y5 != y4) (
    .ret [.bool (false)]) <|
  .call false 8 [.string (x0)] (.t [(.g [.l, .l, .s, .l]), (.o (.b))]) fun y6 =>
  .call false 9 [Sh1.val (.g [.l, .l, .s, .l]) (y6.1), Sh1.val (.g [.l, .l, .s, .l]) (y1.1)] (.v (.o (.b))) fun y7 =>
  .br (!y7) (
    .ret [.bool (false)]) <|
  .br (!y6.2.fst == y1.2.fst) (
    .ret [.bool (false)]) <|
  .call false 11 [Sh1.val (.g [.l, .l, .s, .l]) (y2.1), .int .i64 ((1 : Int))] (.v (.o (.i .i64))) fun y8 =>
  .br (decide (y8 < (0 : Int))) (
    .ret [.bool (false)]) <|
  .br (y8 != y4) (
    .ret [.bool (false)]) <|
  .ret [.bool (true)]
theorem fL_FnExactLedgerNew (x0 : ByteArray) : fits Tryd.prog aL_FnExactLedgerNew 3 [.string (x0)] (tL_FnExactLedgerNew x0) :=
  ⟨Tryd.f3, Tryd.f3.body.getD .skip, by kernel_rfl, by kernel_rfl, by kernel_rfl, by kernel_rfl, by kernel_rfl, by kernel_rfl⟩
/-! loop.example/g00793/laws.FnExactHighest -/
def aL_FnExactHighest : An := ⟨[], [], []⟩
noncomputable def tL_FnExactHighest (x0 : SlV) : T :=
  .call false 12 [Sc.val .l (x0), .int .i64 ((1048576 : Int))] (.v (.o (.i .i64))) fun y1 =>
  .br (decide (y1 < (0 : Int))) (
    .ret [.bool (true)]) <|
  .call false 14 [Sc.val .l (x0)] (.v (.o (.l))) fun y2 =>
  .call false 13 [Sc.val .l (y2)] (.t [(.g [.s, .b, .l]), (.o (.b))]) fun y3 =>
  .call false 14 [Sc.val .l (x0)] (.v (.o (.l))) fun y4 =>
  .call false 15 [Sc.val .l (y4)] (.t [(.g [.s, .b, .l]), (.o (.b))]) fun y5 =>
  .call false 16 [Sh1.val (.g [.s, .b, .l]) (y5.1), Sh1.val (.g [.s, .b, .l]) (y3.1)] (.v (.o (.b))) fun y6 =>
  .br (!y6) (
    .ret [.bool (false)]) <|
  .br (!y5.2.fst == y3.2.fst) (
    .ret [.bool (false)]) <|
  .call false 14 [Sc.val .l (x0)] (.v (.o (.l))) fun y7 =>
  .call false 17 [Sc.val .l (y4), Sc.val .l (y7)] (.v (.o (.b))) fun y8 =>
  .br (!y8) (
    .ret [.bool (false)]) <|
  .call false 18 [Sc.val .l (y4), .int .i64 ((1 : Int))] (.v (.o (.i .i64))) fun y9 =>
  .br (decide (y9 < (0 : Int))) (
    .ret [.bool (false)]) <|
  .call false 16 [Sh1.val (.g [.s, .b, .l]) (y5.1), Sh1.val (.g [.s, .b, .l]) (y3.1)] (.v (.o (.b))) fun y10 =>
  .br (!y10) (
    .ret [.bool (false)]) <|
  .br (!y5.2.fst == y3.2.fst) (
    .ret [.bool (false)]) <|
  .call false 19 [Sh1.val (.g [.s, .b, .l]) (y5.1), .int .i64 ((1 : Int))] (.v (.o (.i .i64))) fun y11 =>
  .call false 20 [Sh1.val (.g [.s, .b, .l]) (y5.1), .int .i64 ((1 : Int))] (.v (.o (.i .i64))) fun y12 =>
  .br (decide (y12 < (0 : Int))) (
    .ret [.bool (false)]) <|
  .br (y12 != y11) (
    .ret [.bool (false)]) <|
  .call false 14 [Sc.val .l (x0)] (.v (.o (.l))) fun y13 =>
  .call false 15 [Sc.val .l (y13)] (.t [(.g [.s, .b, .l]), (.o (.b))]) fun y14 =>
  .call false 16 [Sh1.val (.g [.s, .b, .l]) (y14.1), Sh1.val (.g [.s, .b, .l]) (y3.1)] (.v (.o (.b))) fun y15 =>
  .br (!y15) (
    .ret [.bool (false)]) <|
  .br (!y14.2.fst == y3.2.fst) (
    .ret [.bool (false)]) <|
  .call false 20 [Sh1.val (.g [.s, .b, .l]) (y5.1), .int .i64 ((1 : Int))] (.v (.o (.i .i64))) fun y16 =>
  .br (decide (y16 < (0 : Int))) (
    .ret [.bool (false)]) <|
  .br (y16 != y11) (
    .ret [.bool (false)]) <|
  .ret [.bool (true)]
theorem fL_FnExactHighest (x0 : SlV) : fits Tryd.prog aL_FnExactHighest 4 [Sc.val .l (x0)] (tL_FnExactHighest x0) :=
  ⟨Tryd.f4, Tryd.f4.body.getD .skip, by kernel_rfl, by kernel_rfl, by kernel_rfl, by kernel_rfl, by kernel_rfl, by kernel_rfl⟩
/-! loop.example/g00793/laws.FnExactLowest -/
def aL_FnExactLowest : An := ⟨[], [], []⟩
noncomputable def tL_FnExactLowest (x0 : SlV) : T :=
  .call false 12 [Sc.val .l (x0), .int .i64 ((1048576 : Int))] (.v (.o (.i .i64))) fun y1 =>
  .br (decide (y1 < (0 : Int))) (
    .ret [.bool (true)]) <|
  .call false 14 [Sc.val .l (x0)] (.v (.o (.l))) fun y2 =>
  .call false 21 [Sc.val .l (y2)] (.t [(.g [.s, .b, .l]), (.o (.b))]) fun y3 =>
  .call false 14 [Sc.val .l (x0)] (.v (.o (.l))) fun y4 =>
  .call false 22 [Sc.val .l (y4)] (.t [(.g [.s, .b, .l]), (.o (.b))]) fun y5 =>
  .call false 16 [Sh1.val (.g [.s, .b, .l]) (y5.1), Sh1.val (.g [.s, .b, .l]) (y3.1)] (.v (.o (.b))) fun y6 =>
  .br (!y6) (
    .ret [.bool (false)]) <|
  .br (!y5.2.fst == y3.2.fst) (
    .ret [.bool (false)]) <|
  .call false 14 [Sc.val .l (x0)] (.v (.o (.l))) fun y7 =>
  .call false 17 [Sc.val .l (y4), Sc.val .l (y7)] (.v (.o (.b))) fun y8 =>
  .br (!y8) (
    .ret [.bool (false)]) <|
  .call false 18 [Sc.val .l (y4), .int .i64 ((1 : Int))] (.v (.o (.i .i64))) fun y9 =>
  .br (decide (y9 < (0 : Int))) (
    .ret [.bool (false)]) <|
  .call false 16 [Sh1.val (.g [.s, .b, .l]) (y5.1), Sh1.val (.g [.s, .b, .l]) (y3.1)] (.v (.o (.b))) fun y10 =>
  .br (!y10) (
    .ret [.bool (false)]) <|
  .br (!y5.2.fst == y3.2.fst) (
    .ret [.bool (false)]) <|
  .call false 19 [Sh1.val (.g [.s, .b, .l]) (y5.1), .int .i64 ((1 : Int))] (.v (.o (.i .i64))) fun y11 =>
  .call false 20 [Sh1.val (.g [.s, .b, .l]) (y5.1), .int .i64 ((1 : Int))] (.v (.o (.i .i64))) fun y12 =>
  .br (decide (y12 < (0 : Int))) (
    .ret [.bool (false)]) <|
  .br (y12 != y11) (
    .ret [.bool (false)]) <|
  .call false 14 [Sc.val .l (x0)] (.v (.o (.l))) fun y13 =>
  .call false 22 [Sc.val .l (y13)] (.t [(.g [.s, .b, .l]), (.o (.b))]) fun y14 =>
  .call false 16 [Sh1.val (.g [.s, .b, .l]) (y14.1), Sh1.val (.g [.s, .b, .l]) (y3.1)] (.v (.o (.b))) fun y15 =>
  .br (!y15) (
    .ret [.bool (false)]) <|
  .br (!y14.2.fst == y3.2.fst) (
    .ret [.bool (false)]) <|
  .call false 20 [Sh1.val (.g [.s, .b, .l]) (y5.1), .int .i64 ((1 : Int))] (.v (.o (.i .i64))) fun y16 =>
  .br (decide (y16 < (0 : Int))) (
    .ret [.bool (false)]) <|
  .br (y16 != y11) (
    .ret [.bool (false)]) <|
  .ret [.bool (true)]
theorem fL_FnExactLowest (x0 : SlV) : fits Tryd.prog aL_FnExactLowest 5 [Sc.val .l (x0)] (tL_FnExactLowest x0) :=
  ⟨Tryd.f5, Tryd.f5.body.getD .skip, by kernel_rfl, by kernel_rfl, by kernel_rfl, by kernel_rfl, by kernel_rfl, by kernel_rfl⟩
/-! loop.example/g00793/laws.FnExactDeskNew -/
def aL_FnExactDeskNew : An := ⟨[], [], []⟩
noncomputable def tL_FnExactDeskNew (x0 : ByteArray) : T :=
  .br (decide ((↑x0.size : Int) > (1048576 : Int))) (
    .ret [.bool (true)]) <|
  .call false 23 [.string (x0)] (.t [(.g [.l, .l, .s, .l, .l]), (.o (.b))]) fun y1 =>
  .call false 24 [.string (x0)] (.t [(.g [.l, .l, .s, .l, .l]), (.o (.b))]) fun y2 =>
  .call false 25 [Sh1.val (.g [.l, .l, .s, .l, .l]) (y2.1), Sh1.val (.g [.l, .l, .s, .l, .l]) (y1.1)] (.v (.o (.b))) fun y3 =>
  .br (!y3) (
    .ret [.bool (false)]) <|
  .br (!y2.2.fst == y1.2.fst) (
    .ret [.bool (false)]) <|
  .call false 26 [Sh1.val (.g [.l, .l, .s, .l, .l]) (y2.1), .int .i64 ((1 : Int))] (.v (.o (.i .i64))) fun y4 =>
  .call false 27 [Sh1.val (.g [.l, .l, .s, .l, .l]) (y2.1), .int .i64 ((1 : Int))] (.v (.o (.i .i64))) fun y5 =>
  .br (decide (y5 < (0 : Int))) (
    .ret [.bool (false)]) <|
  .br (y5 != y4) (
    .ret [.bool (false)]) <|
  .call false 24 [.string (x0)] (.t [(.g [.l, .l, .s, .l, .l]), (.o (.b))]) fun y6 =>
  .call false 25 [Sh1.val (.g [.l, .l, .s, .l, .l]) (y6.1), Sh1.val (.g [.l, .l, .s, .l, .l]) (y1.1)] (.v (.o (.b))) fun y7 =>
  .br (!y7) (
    .ret [.bool (false)]) <|
  .br (!y6.2.fst == y1.2.fst) (
    .ret [.bool (false)]) <|
  .call false 27 [Sh1.val (.g [.l, .l, .s, .l, .l]) (y2.1), .int .i64 ((1 : Int))] (.v (.o (.i .i64))) fun y8 =>
  .br (decide (y8 < (0 : Int))) (
    .ret [.bool (false)]) <|
  .br (y8 != y4) (
    .ret [.bool (false)]) <|
  .ret [.bool (true)]
theorem fL_FnExactDeskNew (x0 : ByteArray) : fits Tryd.prog aL_FnExactDeskNew 6 [.string (x0)] (tL_FnExactDeskNew x0) :=
  ⟨Tryd.f6, Tryd.f6.body.getD .skip, by kernel_rfl, by kernel_rfl, by kernel_rfl, by kernel_rfl, by kernel_rfl, by kernel_rfl⟩
/-! loop.example/g00793/spec.LedgerNew -/
def aS_LedgerNew : An := ⟨[], [], []⟩
noncomputable def tS_LedgerNew (x0 : ByteArray) : T :=
  .call false 28 [.string (x0)] (.v (.o (.b))) fun y1 =>
  .br (!y1) (
    .ret [Sh1.val (.g [.l, .l, .s, .l]) ((⟨(none), ((0 : Nat)), ((0 : Nat))⟩ : SlV), (⟨(none), ((0 : Nat)), ((0 : Nat))⟩ : SlV), ({ data := { toList := [] : Array UInt8 } : ByteArray }), (⟨(none), ((0 : Nat)), ((0 : Nat))⟩ : SlV), ()), .bool (false)]) <|
  .ret [Sh1.val (.g [.l, .l, .s, .l]) ((⟨(none), ((0 : Nat)), ((0 : Nat))⟩ : SlV), (⟨(none), ((0 : Nat)), ((0 : Nat))⟩ : SlV), (x0), (⟨(none), ((0 : Nat)), ((0 : Nat))⟩ : SlV), ()), .bool (true)]
theorem fS_LedgerNew (x0 : ByteArray) : fits Tryd.prog aS_LedgerNew 7 [.string (x0)] (tS_LedgerNew x0) :=
  ⟨Tryd.f7, Tryd.f7.body.getD .skip, by kernel_rfl, by kernel_rfl, by kernel_rfl, by kernel_rfl, by kernel_rfl, by kernel_rfl⟩
/-! loop.example/g00793/impl.LedgerNew -/
def aI_LedgerNew : An := ⟨[], [], []⟩
noncomputable def tI_LedgerNew (x0 : ByteArray) : T :=
  .call false 29 [.string (x0)] (.v (.o (.b))) fun y1 =>
  .br (!y1) (
    .ret [Sh1.val (.g [.l, .l, .s, .l]) ((⟨(none), ((0 : Nat)), ((0 : Nat))⟩ : SlV), (⟨(none), ((0 : Nat)), ((0 : Nat))⟩ : SlV), ({ data := { toList := [] : Array UInt8 } : ByteArray }), (⟨(none), ((0 : Nat)), ((0 : Nat))⟩ : SlV), ()), .bool (false)]) <|
  .ret [Sh1.val (.g [.l, .l, .s, .l]) ((⟨(none), ((0 : Nat)), ((0 : Nat))⟩ : SlV), (⟨(none), ((0 : Nat)), ((0 : Nat))⟩ : SlV), (x0), (⟨(none), ((0 : Nat)), ((0 : Nat))⟩ : SlV), ()), .bool (true)]
theorem fI_LedgerNew (x0 : ByteArray) : fits Tryd.prog aI_LedgerNew 8 [.string (x0)] (tI_LedgerNew x0) :=
  ⟨Tryd.f8, Tryd.f8.body.getD .skip, by kernel_rfl, by kernel_rfl, by kernel_rfl, by kernel_rfl, by kernel_rfl, by kernel_rfl⟩
/-! loop.example/g00793/laws.eqLedger -/
def aL_eqLedger : An := ⟨[], [], []⟩
noncomputable def tL_eqLedger (x0 : SlV × SlV × ByteArray × SlV × PUnit) (x1 : SlV × SlV × ByteArray × SlV × PUnit) : T :=
  .call false 30 [Sh1.val (.g [.l]) (x0.1, ()), Sh1.val (.g [.l]) (x1.1, ())] (.v (.o (.b))) fun y1 =>
  .br (!y1) (
    .ret [.bool (false)]) <|
  .call false 31 [Sc.val .l (x0.2.1), Sc.val .l (x1.2.1)] (.v (.o (.b))) fun y2 =>
  .br (!y2) (
    .ret [.bool (false)]) <|
  .call false 32 [Sh1.val (.g [.s, .l]) (x0.2.2), Sh1.val (.g [.s, .l]) (x1.2.2)] (.v (.o (.b))) fun y3 =>
  .br (!y3) (
    .ret [.bool (false)]) <|
  .ret [.bool (true)]
theorem fL_eqLedger (x0 : SlV × SlV × ByteArray × SlV × PUnit) (x1 : SlV × SlV × ByteArray × SlV × PUnit) : fits Tryd.prog aL_eqLedger 9 [Sh1.val (.g [.l, .l, .s, .l]) (x0), Sh1.val (.g [.l, .l, .s, .l]) (x1)] (tL_eqLedger x0 x1) :=
  ⟨Tryd.f9, Tryd.f9.body.getD .skip, by kernel_rfl, by kernel_rfl, by kernel_rfl, by kernel_rfl, by kernel_rfl, by kernel_rfl⟩
/-! loop.example/g00793/laws.markLedger -/
def aL_markLedger : An := ⟨[], [], []⟩
noncomputable def tL_markLedger (x0 : SlV × SlV × ByteArray × SlV × PUnit) (x1 : Int) : T :=
  .call false 33 [Sh1.val (.g [.l]) (x0.1, ()), .int .i64 (x1)] (.v (.o (.i .i64))) fun y1 =>
  .call false 34 [Sc.val .l (x0.2.1), .int .i64 (y1)] (.v (.o (.i .i64))) fun y2 =>
  .call false 35 [Sh1.val (.g [.s, .l]) (x0.2.2), .int .i64 (y2)] (.v (.o (.i .i64))) fun y3 =>
  .ret [.int .i64 (y3)]
theorem fL_markLedger (x0 : SlV × SlV × ByteArray × SlV × PUnit) (x1 : Int) : fits Tryd.prog aL_markLedger 10 [Sh1.val (.g [.l, .l, .s, .l]) (x0), .int .i64 (x1)] (tL_markLedger x0 x1) :=
  ⟨Tryd.f10, Tryd.f10.body.getD .skip, by kernel_rfl, by kernel_rfl, by kernel_rfl, by kernel_rfl, by kernel_rfl, by kernel_rfl⟩
/-! loop.example/g00793/laws.heldLedger -/
def aL_heldLedger : An := ⟨[], [], []⟩
noncomputable def tL_heldLedger (x0 : SlV × SlV × ByteArray × SlV × PUnit) (x1 : Int) : T :=
  .call false 36 [Sh1.val (.g [.l]) (x0.1, ()), .int .i64 (x1)] (.v (.o (.i .i64))) fun y1 =>
  .br (decide (y1 < (0 : Int))) (
    .ret [.int .i64 ((-1 : Int))]) <|
  .call false 37 [Sc.val .l (x0.2.1), .int .i64 (y1)] (.v (.o (.i .i64))) fun y2 =>
  .br (decide (y2 < (0 : Int))) (
    .ret [.int .i64 ((-1 : Int))]) <|
  .call false 38 [Sh1.val (.g [.s, .l]) (x0.2.2), .int .i64 (y2)] (.v (.o (.i .i64))) fun y3 =>
  .br (decide (y3 < (0 : Int))) (
    .ret [.int .i64 ((-1 : Int))]) <|
  .ret [.int .i64 (y3)]
theorem fL_heldLedger (x0 : SlV × SlV × ByteArray × SlV × PUnit) (x1 : Int) : fits Tryd.prog aL_heldLedger 11 [Sh1.val (.g [.l, .l, .s, .l]) (x0), .int .i64 (x1)] (tL_heldLedger x0 x1) :=
  ⟨Tryd.f11, Tryd.f11.body.getD .skip, by kernel_rfl, by kernel_rfl, by kernel_rfl, by kernel_rfl, by kernel_rfl, by kernel_rfl⟩
/-! loop.example/g00793/laws.szMoneyS -/
def aL_szMoneyS : An := ⟨[(5, [.s 1, .s 5], [.o (.o (.i .i64)), .o (.o (.i .i64))])], [], []⟩
noncomputable def tL_szMoneyS (x0 : SlV) (x1 : Int) : T :=
  .br (decide (Go.IntKind.i64.wrap (x1 - (↑x0.n : Int)) < (0 : Int))) (
    .ret [.int .i64 ((-1 : Int))]) <|
  .lp [.o (.o (.i .i64)), .o (.o (.i .i64))] [.v (.int .i64 (Go.IntKind.i64.wrap (x1 - (↑x0.n : Int)))), .v (.int .i64 ((0 : Int)))] fun y1 =>
  .br (decide (y1.2.fst < (↑x0.n : Int))) (
    .el (x0.a) (x0.n) (y1.2.fst) fun y2 =>
    .ld false (y2.add (Int.toNat y1.2.fst * (3 : Nat))) (.g [.s, .b, .l]) fun y3 =>
    .call false 39 [Sh1.val (.g [.s, .b, .l]) (y3), .int .i64 (y1.fst)] (.v (.o (.i .i64))) fun y4 =>
    .br (decide (y4 < (0 : Int))) (
      .ret [.int .i64 ((-1 : Int))]) <|
    .nx 0 [.v (.int .i64 (y4)), .v (.int .i64 (Go.IntKind.i64.wrap (y1.2.fst + (1 : Int))))]) <|
  .ret [.int .i64 (y1.fst)]
theorem fL_szMoneyS (x0 : SlV) (x1 : Int) : fits Tryd.prog aL_szMoneyS 12 [Sc.val .l (x0), .int .i64 (x1)] (tL_szMoneyS x0 x1) :=
  ⟨Tryd.f12, Tryd.f12.body.getD .skip, by kernel_rfl, by kernel_rfl, by kernel_rfl, by kernel_rfl, by kernel_rfl, by kernel_rfl⟩
/-! loop.example/g00793/spec.Highest -/
def aS_Highest : An := ⟨[], [], []⟩
noncomputable def tS_Highest (x0 : SlV) : T :=
  .call false 40 [Sc.val .l (x0), .int .i64 ((1 : Int))] (.t [(.g [.s, .b, .l]), (.o (.b))]) fun y1 =>
  .ret [Sh1.val (.g [.s, .b, .l]) (y1.1), .bool (y1.2.fst)]
theorem fS_Highest (x0 : SlV) : fits Tryd.prog aS_Highest 13 [Sc.val .l (x0)] (tS_Highest x0) :=
  ⟨Tryd.f13, Tryd.f13.body.getD .skip, by kernel_rfl, by kernel_rfl, by kernel_rfl, by kernel_rfl, by kernel_rfl, by kernel_rfl⟩
/-! loop.example/g00793/laws.toMoneyS -/
def aL_toMoneyS : An := ⟨[(3, [.s 3, .s 4], [.a 42, .o (.o (.i .i64))])], [], []⟩
noncomputable def tL_toMoneyS (x0 : SlV) : T :=
  .rq ((0 : Int) ≤ (↑x0.n : Int) ∧ (↑x0.n : Int) ≤ (↑x0.n : Int) ∧ (↑(48 : Nat) : Int) * (↑x0.n : Int) ≤ (281474976710656 : Int) ∧ (↑x0.n : Int) ≤ (9223372036854775807 : Int)) <|
  .lp [.a 42, .o (.o (.i .i64))] [.a 42 ((↑x0.n : Int).toNat) ((Go.madeCells { toList := [Go.Value.string { data := { toList := [] : Array UInt8 } : ByteArray }, Go.Value.bool false, Go.Value.slice none (0 : Nat) (0 : Nat)] : Array Go.Value } ((↑x0.n : Int).toNat * (3 : Nat))).toList), .v (.int .i64 ((0 : Int)))] fun y1 =>
  .br (decide (y1.2.fst < (↑x0.n : Int))) (
    .el (x0.a) (x0.n) (y1.2.fst) fun y2 =>
    .ld false (y2.add (Int.toNat y1.2.fst * (3 : Nat))) (.g [.s, .b, .l]) fun y3 =>
    .call false 41 [Sh1.val (.g [.s, .b, .l]) (y3)] (.v (.g [.s, .b, .l])) fun y4 =>
    .rq ((0 : Int) ≤ y1.2.fst ∧ y1.2.fst < (↑y1.1.fst : Int)) <|
    .rq (Int.toNat y1.2.fst * (3 : Nat) + [Go.Value.string y4.fst, Go.Value.bool y4.2.fst, Go.Value.slice y4.2.2.1.a y4.2.2.1.n y4.2.2.1.c].length ≤ y1.1.snd.length) <|
    .nx 0 [.a 42 (y1.1.fst) (setl y1.1.snd (Int.toNat y1.2.fst * (3 : Nat)) [Go.Value.string y4.fst, Go.Value.bool y4.2.fst, Go.Value.slice y4.2.2.1.a y4.2.2.1.n y4.2.2.1.c]), .v (.int .i64 (Go.IntKind.i64.wrap (y1.2.fst + (1 : Int))))]) <|
  .fz (y1.1.fst) (y1.1.snd) 42 fun b2 c2 =>
  .ret [.slice (some { block := b2, off := (0 : Nat) : Go.Addr }) (y1.1.fst) (c2)]
theorem fL_toMoneyS (x0 : SlV) : fits Tryd.prog aL_toMoneyS 14 [Sc.val .l (x0)] (tL_toMoneyS x0) :=
  ⟨Tryd.f14, Tryd.f14.body.getD .skip, by kernel_rfl, by kernel_rfl, by kernel_rfl, by kernel_rfl, by kernel_rfl, by kernel_rfl⟩
/-! loop.example/g00793/impl.Highest -/
def aI_Highest : An := ⟨[], [], []⟩
noncomputable def tI_Highest (x0 : SlV) : T :=
  .call false 42 [Sc.val .l (x0), .int .i64 ((1 : Int))] (.t [(.g [.s, .b, .l]), (.o (.b))]) fun y1 =>
  .ret [Sh1.val (.g [.s, .b, .l]) (y1.1), .bool (y1.2.fst)]
theorem fI_Highest (x0 : SlV) : fits Tryd.prog aI_Highest 15 [Sc.val .l (x0)] (tI_Highest x0) :=
  ⟨Tryd.f15, Tryd.f15.body.getD .skip, by kernel_rfl, by kernel_rfl, by kernel_rfl, by kernel_rfl, by kernel_rfl, by kernel_rfl⟩
/-! loop.example/g00793/laws.eqMoney -/
def aL_eqMoney : An := ⟨[], [], []⟩
noncomputable def tL_eqMoney (x0 : ByteArray × Bool × SlV × PUnit) (x1 : ByteArray × Bool × SlV × PUnit) : T :=
  .br (!ByteArray.toList x0.fst == ByteArray.toList x1.fst) (
    .ret [.bool (false)]) <|
  .call false 43 [Sh1.val (.g [.b, .l]) (x0.2), Sh1.val (.g [.b, .l]) (x1.2)] (.v (.o (.b))) fun y1 =>
  .br (!y1) (
    .ret [.bool (false)]) <|
  .ret [.bool (true)]
theorem fL_eqMoney (x0 : ByteArray × Bool × SlV × PUnit) (x1 : ByteArray × Bool × SlV × PUnit) : fits Tryd.prog aL_eqMoney 16 [Sh1.val (.g [.s, .b, .l]) (x0), Sh1.val (.g [.s, .b, .l]) (x1)] (tL_eqMoney x0 x1) :=
  ⟨Tryd.f16, Tryd.f16.body.getD .skip, by kernel_rfl, by kernel_rfl, by kernel_rfl, by kernel_rfl, by kernel_rfl, by kernel_rfl⟩
/-! loop.example/g00793/laws.eqMoneyS -/
def aL_eqMoneyS : An := ⟨[(4, [.s 5], [.o (.o (.i .i64))])], [], []⟩
noncomputable def tL_eqMoneyS (x0 : SlV) (x1 : SlV) : T :=
  .br ((↑x0.n : Int) != (↑x1.n : Int)) (
    .ret [.bool (false)]) <|
  .lp [.o (.o (.i .i64))] [.v (.int .i64 ((0 : Int)))] fun y1 =>
  .br (decide (y1.fst < (↑x0.n : Int))) (
    .rg <|
    .el (x0.a) (x0.n) (y1.fst) fun y2 =>
    .ld true (y2.add (Int.toNat y1.fst * (3 : Nat))) (.g [.s, .b, .l]) fun y3 =>
    .el (x1.a) (x1.n) (y1.fst) fun y4 =>
    .ld true (y4.add (Int.toNat y1.fst * (3 : Nat))) (.g [.s, .b, .l]) fun y5 =>
    .call true 16 [Sh1.val (.g [.s, .b, .l]) (y3), Sh1.val (.g [.s, .b, .l]) (y5)] (.v (.o (.b))) fun y6 =>
    .br (!y6) (
      .ret [.bool (false)]) <|
    .nx 0 [.v (.int .i64 (Go.IntKind.i64.wrap (y1.fst + (1 : Int))))]) <|
  .ret [.bool (true)]
theorem fL_eqMoneyS (x0 : SlV) (x1 : SlV) : fits Tryd.prog aL_eqMoneyS 17 [Sc.val .l (x0), Sc.val .l (x1)] (tL_eqMoneyS x0 x1) :=
  ⟨Tryd.f17, Tryd.f17.body.getD .skip, by kernel_rfl, by kernel_rfl, by kernel_rfl, by kernel_rfl, by kernel_rfl, by kernel_rfl⟩
/-! loop.example/g00793/laws.markMoneyS -/
def aL_markMoneyS : An := ⟨[(2, [.s 1, .s 5], [.o (.o (.i .i64)), .o (.o (.i .i64))])], [], []⟩
noncomputable def tL_markMoneyS (x0 : SlV) (x1 : Int) : T :=
  .lp [.o (.o (.i .i64)), .o (.o (.i .i64))] [.v (.int .i64 (x1)), .v (.int .i64 ((0 : Int)))] fun y1 =>
  .br (decide (y1.2.fst < (↑x0.n : Int))) (
    .call false 44 [.int .i64 (y1.fst)] (.v (.o (.s))) fun y2 =>
    .el (x0.a) (x0.n) (y1.2.fst) fun y3 =>
    .st ((y3.add (Int.toNat y1.2.fst * (3 : Nat))).add (0 : Nat)) [.string (y2)] <|
    .rq ((3 : Int) ≠ (0 : Int)) <|
    .el (x0.a) (x0.n) (y1.2.fst) fun y4 =>
    .st (((y4.add (Int.toNat y1.2.fst * (3 : Nat))).add (1 : Nat)).add (0 : Nat)) [.bool ((Go.IntKind.i64.wrap (y1.fst + (1 : Int))).tmod (3 : Int) == (0 : Int))] <|
    .el (x0.a) (x0.n) (y1.2.fst) fun y5 =>
    .ld false (((y5.add (Int.toNat y1.2.fst * (3 : Nat))).add (1 : Nat)).add (1 : Nat)) (.o (.l)) fun y6 =>
    .call false 45 [Sc.val .l (y6), .int .i64 (Go.IntKind.i64.wrap (Go.IntKind.i64.wrap (y1.fst + (1 : Int)) + (1 : Int)))] (.v (.o (.i .i64))) fun y7 =>
    .nx 0 [.v (.int .i64 (y7)), .v (.int .i64 (Go.IntKind.i64.wrap (y1.2.fst + (1 : Int))))]) <|
  .ret [.int .i64 (y1.fst)]
theorem fL_markMoneyS (x0 : SlV) (x1 : Int) : fits Tryd.prog aL_markMoneyS 18 [Sc.val .l (x0), .int .i64 (x1)] (tL_markMoneyS x0 x1) :=
  ⟨Tryd.f18, Tryd.f18.body.getD .skip, by kernel_rfl, by kernel_rfl, by kernel_rfl, by kernel_rfl, by kernel_rfl, by kernel_rfl⟩
/-! loop.example/g00793/laws.markMoney -/
def aL_markMoney : An := ⟨[], [], []⟩
noncomputable def tL_markMoney (x0 : ByteArray × Bool × SlV × PUnit) (x1 : Int) : T :=
  .call false 46 [Sh1.val (.g [.b, .l]) (x0.2), .int .i64 (x1)] (.v (.o (.i .i64))) fun y1 =>
  .ret [.int .i64 (y1)]
theorem fL_markMoney (x0 : ByteArray × Bool × SlV × PUnit) (x1 : Int) : fits Tryd.prog aL_markMoney 19 [Sh1.val (.g [.s, .b, .l]) (x0), .int .i64 (x1)] (tL_markMoney x0 x1) :=
  ⟨Tryd.f19, Tryd.f19.body.getD .skip, by kernel_rfl, by kernel_rfl, by kernel_rfl, by kernel_rfl, by kernel_rfl, by kernel_rfl⟩
/-! loop.example/g00793/laws.heldMoney -/
def aL_heldMoney : An := ⟨[], [], []⟩
noncomputable def tL_heldMoney (x0 : ByteArray × Bool × SlV × PUnit) (x1 : Int) : T :=
  .call false 47 [Sh1.val (.g [.b, .l]) (x0.2), .int .i64 (x1)] (.v (.o (.i .i64))) fun y1 =>
  .br (decide (y1 < (0 : Int))) (
    .ret [.int .i64 ((-1 : Int))]) <|
  .ret [.int .i64 (y1)]
theorem fL_heldMoney (x0 : ByteArray × Bool × SlV × PUnit) (x1 : Int) : fits Tryd.prog aL_heldMoney 20 [Sh1.val (.g [.s, .b, .l]) (x0), .int .i64 (x1)] (tL_heldMoney x0 x1) :=
  ⟨Tryd.f20, Tryd.f20.body.getD .skip, by kernel_rfl, by kernel_rfl, by kernel_rfl, by kernel_rfl, by kernel_rfl, by kernel_rfl⟩
/-! loop.example/g00793/spec.Lowest -/
def aS_Lowest : An := ⟨[], [], []⟩
noncomputable def tS_Lowest (x0 : SlV) : T :=
  .call false 40 [Sc.val .l (x0), .int .i64 ((-1 : Int))] (.t [(.g [.s, .b, .l]), (.o (.b))]) fun y1 =>
  .ret [Sh1.val (.g [.s, .b, .l]) (y1.1), .bool (y1.2.fst)]
theorem fS_Lowest (x0 : SlV) : fits Tryd.prog aS_Lowest 21 [Sc.val .l (x0)] (tS_Lowest x0) :=
  ⟨Tryd.f21, Tryd.f21.body.getD .skip, by kernel_rfl, by kernel_rfl, by kernel_rfl, by kernel_rfl, by kernel_rfl, by kernel_rfl⟩
/-! loop.example/g00793/impl.Lowest -/
def aI_Lowest : An := ⟨[], [], []⟩
noncomputable def tI_Lowest (x0 : SlV) : T :=
  .call false 42 [Sc.val .l (x0), .int .i64 ((-1 : Int))] (.t [(.g [.s, .b, .l]), (.o (.b))]) fun y1 =>
  .ret [Sh1.val (.g [.s, .b, .l]) (y1.1), .bool (y1.2.fst)]
theorem fI_Lowest (x0 : SlV) : fits Tryd.prog aI_Lowest 22 [Sc.val .l (x0)] (tI_Lowest x0) :=
  ⟨Tryd.f22, Tryd.f22.body.getD .skip, by kernel_rfl, by kernel_rfl, by kernel_rfl, by kernel_rfl, by kernel_rfl, by kernel_rfl⟩
/-! loop.example/g00793/spec.DeskNew -/
def aS_DeskNew : An := ⟨[], [], []⟩
noncomputable def tS_DeskNew (x0 : ByteArray) : T :=
  .call false 7 [.string (x0)] (.t [(.g [.l, .l, .s, .l]), (.o (.b))]) fun y1 =>
  .br (!y1.2.fst) (
    .ret [Sh1.val (.g [.l, .l, .s, .l, .l]) ((⟨(none), ((0 : Nat)), ((0 : Nat))⟩ : SlV), (⟨(none), ((0 : Nat)), ((0 : Nat))⟩ : SlV), ({ data := { toList := [] : Array UInt8 } : ByteArray }), (⟨(none), ((0 : Nat)), ((0 : Nat))⟩ : SlV), (⟨(none), ((0 : Nat)), ((0 : Nat))⟩ : SlV), ()), .bool (false)]) <|
  .ret [Sh1.val (.g [.l, .l, .s, .l, .l]) (y1.1.1, y1.1.2.1, (y1.1.2.2.fst), y1.1.2.2.2.1, (⟨(none), ((0 : Nat)), ((0 : Nat))⟩ : SlV), ()), .bool (true)]
theorem fS_DeskNew (x0 : ByteArray) : fits Tryd.prog aS_DeskNew 23 [.string (x0)] (tS_DeskNew x0) :=
  ⟨Tryd.f23, Tryd.f23.body.getD .skip, by kernel_rfl, by kernel_rfl, by kernel_rfl, by kernel_rfl, by kernel_rfl, by kernel_rfl⟩
/-! loop.example/g00793/impl.DeskNew -/
def aI_DeskNew : An := ⟨[], [], []⟩
noncomputable def tI_DeskNew (x0 : ByteArray) : T :=
  .call false 8 [.string (x0)] (.t [(.g [.l, .l, .s, .l]), (.o (.b))]) fun y1 =>
  .ret [Sh1.val (.g [.l, .l, .s, .l, .l]) (y1.1.1, y1.1.2.1, (y1.1.2.2.fst), y1.1.2.2.2.1, (⟨(none), ((0 : Nat)), ((0 : Nat))⟩ : SlV), ()), .bool (y1.2.fst)]
theorem fI_DeskNew (x0 : ByteArray) : fits Tryd.prog aI_DeskNew 24 [.string (x0)] (tI_DeskNew x0) :=
  ⟨Tryd.f24, Tryd.f24.body.getD .skip, by kernel_rfl, by kernel_rfl, by kernel_rfl, by kernel_rfl, by kernel_rfl, by kernel_rfl⟩
/-! loop.example/g00793/laws.eqDesk -/
def aL_eqDesk : An := ⟨[], [], []⟩
noncomputable def tL_eqDesk (x0 : SlV × SlV × ByteArray × SlV × SlV × PUnit) (x1 : SlV × SlV × ByteArray × SlV × SlV × PUnit) : T :=
  .call false 9 [Sh1.val (.g [.l, .l, .s, .l]) (x0.1, x0.2.1, (x0.2.2.fst), x0.2.2.2.1, ()), Sh1.val (.g [.l, .l, .s, .l]) (x1.1, x1.2.1, (x1.2.2.fst), x1.2.2.2.1, ())] (.v (.o (.b))) fun y1 =>
  .br (!y1) (
    .ret [.bool (false)]) <|
  .call false 48 [Sc.val .l (x0.2.2.2.2.1), Sc.val .l (x1.2.2.2.2.1)] (.v (.o (.b))) fun y2 =>
  .br (!y2) (
    .ret [.bool (false)]) <|
  .ret [.bool (true)]
theorem fL_eqDesk (x0 : SlV × SlV × ByteArray × SlV × SlV × PUnit) (x1 : SlV × SlV × ByteArray × SlV × SlV × PUnit) : fits Tryd.prog aL_eqDesk 25 [Sh1.val (.g [.l, .l, .s, .l, .l]) (x0), Sh1.val (.g [.l, .l, .s, .l, .l]) (x1)] (tL_eqDesk x0 x1) :=
  ⟨Tryd.f25, Tryd.f25.body.getD .skip, by kernel_rfl, by kernel_rfl, by kernel_rfl, by kernel_rfl, by kernel_rfl, by kernel_rfl⟩
/-! loop.example/g00793/laws.markDesk -/
def aL_markDesk : An := ⟨[], [], []⟩
noncomputable def tL_markDesk (x0 : SlV × SlV × ByteArray × SlV × SlV × PUnit) (x1 : Int) : T :=
  .call false 10 [Sh1.val (.g [.l, .l, .s, .l]) (x0.1, x0.2.1, (x0.2.2.fst), x0.2.2.2.1, ()), .int .i64 (x1)] (.v (.o (.i .i64))) fun y1 =>
  .call false 49 [Sc.val .l (x0.2.2.2.2.1), .int .i64 (y1)] (.v (.o (.i .i64))) fun y2 =>
  .ret [.int .i64 (y2)]
theorem fL_markDesk (x0 : SlV × SlV × ByteArray × SlV × SlV × PUnit) (x1 : Int) : fits Tryd.prog aL_markDesk 26 [Sh1.val (.g [.l, .l, .s, .l, .l]) (x0), .int .i64 (x1)] (tL_markDesk x0 x1) :=
  ⟨Tryd.f26, Tryd.f26.body.getD .skip, by kernel_rfl, by kernel_rfl, by kernel_rfl, by kernel_rfl, by kernel_rfl, by kernel_rfl⟩
/-! loop.example/g00793/laws.heldDesk -/
def aL_heldDesk : An := ⟨[], [], []⟩
noncomputable def tL_heldDesk (x0 : SlV × SlV × ByteArray × SlV × SlV × PUnit) (x1 : Int) : T :=
  .call false 11 [Sh1.val (.g [.l, .l, .s, .l]) (x0.1, x0.2.1, (x0.2.2.fst), x0.2.2.2.1, ()), .int .i64 (x1)] (.v (.o (.i .i64))) fun y1 =>
  .br (decide (y1 < (0 : Int))) (
    .ret [.int .i64 ((-1 : Int))]) <|
  .call false 50 [Sc.val .l (x0.2.2.2.2.1), .int .i64 (y1)] (.v (.o (.i .i64))) fun y2 =>
  .br (decide (y2 < (0 : Int))) (
    .ret [.int .i64 ((-1 : Int))]) <|
  .ret [.int .i64 (y2)]
theorem fL_heldDesk (x0 : SlV × SlV × ByteArray × SlV × SlV × PUnit) (x1 : Int) : fits Tryd.prog aL_heldDesk 27 [Sh1.val (.g [.l, .l, .s, .l, .l]) (x0), .int .i64 (x1)] (tL_heldDesk x0 x1) :=
  ⟨Tryd.f27, Tryd.f27.body.getD .skip, by kernel_rfl, by kernel_rfl, by kernel_rfl, by kernel_rfl, by kernel_rfl, by kernel_rfl⟩
/-! loop.example/g00793/spec.CurKnown -/
def aS_CurKnown : An := ⟨[], [], []⟩
noncomputable def tS_CurKnown (x0 : ByteArray) : T :=
  .call false 51 [.string (x0)] (.v (.g [.s, .s, .i .i64, .i .i64])) fun y1 =>
  .ret [.bool (!ByteArray.toList y1.fst == { data := { toList := [] : Array UInt8 } : ByteArray }.toList)]
theorem fS_CurKnown (x0 : ByteArray) : fits Tryd.prog aS_CurKnown 28 [.string (x0)] (tS_CurKnown x0) :=
  ⟨Tryd.f28, Tryd.f28.body.getD .skip, by kernel_rfl, by kernel_rfl, by kernel_rfl, by kernel_rfl, by kernel_rfl, by kernel_rfl⟩
/-! loop.example/g00793/impl.CurKnown -/
def aI_CurKnown : An := ⟨[], [], []⟩
noncomputable def tI_CurKnown (x0 : ByteArray) : T :=
  .call false 52 [.string (x0)] (.t [(.g [.s, .s, .i .i64, .i .i64]), (.o (.b))]) fun y1 =>
  .ret [.bool (y1.2.fst)]
theorem fI_CurKnown (x0 : ByteArray) : fits Tryd.prog aI_CurKnown 29 [.string (x0)] (tI_CurKnown x0) :=
  ⟨Tryd.f29, Tryd.f29.body.getD .skip, by kernel_rfl, by kernel_rfl, by kernel_rfl, by kernel_rfl, by kernel_rfl, by kernel_rfl⟩
/-! loop.example/g00793/laws.eqBook -/
def aL_eqBook : An := ⟨[], [], []⟩
noncomputable def tL_eqBook (x0 : SlV × PUnit) (x1 : SlV × PUnit) : T :=
  .call false 53 [Sc.val .l (x0.1), Sc.val .l (x1.1)] (.v (.o (.b))) fun y1 =>
  .br (!y1) (
    .ret [.bool (false)]) <|
  .ret [.bool (true)]
theorem fL_eqBook (x0 : SlV × PUnit) (x1 : SlV × PUnit) : fits Tryd.prog aL_eqBook 30 [Sh1.val (.g [.l]) (x0), Sh1.val (.g [.l]) (x1)] (tL_eqBook x0 x1) :=
  ⟨Tryd.f30, Tryd.f30.body.getD .skip, by kernel_rfl, by kernel_rfl, by kernel_rfl, by kernel_rfl, by kernel_rfl, by kernel_rfl⟩
/-! loop.example/g00793/laws.eqRestS -/
def aL_eqRestS : An := ⟨[(4, [.s 5], [.o (.o (.i .i64))])], [], []⟩
noncomputable def tL_eqRestS (x0 : SlV) (x1 : SlV) : T :=
  .br ((↑x0.n : Int) != (↑x1.n : Int)) (
    .ret [.bool (false)]) <|
  .lp [.o (.o (.i .i64))] [.v (.int .i64 ((0 : Int)))] fun y1 =>
  .br (decide (y1.fst < (↑x0.n : Int))) (
    .rg <|
    .el (x0.a) (x0.n) (y1.fst) fun y2 =>
    .ld true (y2.add (Int.toNat y1.fst * (4 : Nat))) (.g [.s, .b, .l, .l]) fun y3 =>
    .el (x1.a) (x1.n) (y1.fst) fun y4 =>
    .ld true (y4.add (Int.toNat y1.fst * (4 : Nat))) (.g [.s, .b, .l, .l]) fun y5 =>
    .call true 54 [Sh1.val (.g [.s, .b, .l, .l]) (y3), Sh1.val (.g [.s, .b, .l, .l]) (y5)] (.v (.o (.b))) fun y6 =>
    .br (!y6) (
      .ret [.bool (false)]) <|
    .nx 0 [.v (.int .i64 (Go.IntKind.i64.wrap (y1.fst + (1 : Int))))]) <|
  .ret [.bool (true)]
theorem fL_eqRestS (x0 : SlV) (x1 : SlV) : fits Tryd.prog aL_eqRestS 31 [Sc.val .l (x0), Sc.val .l (x1)] (tL_eqRestS x0 x1) :=
  ⟨Tryd.f31, Tryd.f31.body.getD .skip, by kernel_rfl, by kernel_rfl, by kernel_rfl, by kernel_rfl, by kernel_rfl, by kernel_rfl⟩
/-! loop.example/g00793/laws.eqRates -/
def aL_eqRates : An := ⟨[], [], []⟩
noncomputable def tL_eqRates (x0 : ByteArray × SlV × PUnit) (x1 : ByteArray × SlV × PUnit) : T :=
  .br (!ByteArray.toList x0.fst == ByteArray.toList x1.fst) (
    .ret [.bool (false)]) <|
  .call false 55 [Sc.val .l (x0.2.1), Sc.val .l (x1.2.1)] (.v (.o (.b))) fun y1 =>
  .br (!y1) (
    .ret [.bool (false)]) <|
  .ret [.bool (true)]
theorem fL_eqRates (x0 : ByteArray × SlV × PUnit) (x1 : ByteArray × SlV × PUnit) : fits Tryd.prog aL_eqRates 32 [Sh1.val (.g [.s, .l]) (x0), Sh1.val (.g [.s, .l]) (x1)] (tL_eqRates x0 x1) :=
  ⟨Tryd.f32, Tryd.f32.body.getD .skip, by kernel_rfl, by kernel_rfl, by kernel_rfl, by kernel_rfl, by kernel_rfl, by kernel_rfl⟩
/-! loop.example/g00793/laws.markBook -/
def aL_markBook : An := ⟨[], [], []⟩
noncomputable def tL_markBook (x0 : SlV × PUnit) (x1 : Int) : T :=
  .call false 56 [Sc.val .l (x0.1), .int .i64 (x1)] (.v (.o (.i .i64))) fun y1 =>
  .ret [.int .i64 (y1)]
theorem fL_markBook (x0 : SlV × PUnit) (x1 : Int) : fits Tryd.prog aL_markBook 33 [Sh1.val (.g [.l]) (x0), .int .i64 (x1)] (tL_markBook x0 x1) :=
  ⟨Tryd.f33, Tryd.f33.body.getD .skip, by kernel_rfl, by kernel_rfl, by kernel_rfl, by kernel_rfl, by kernel_rfl, by kernel_rfl⟩
/-! loop.example/g00793/laws.markRestS -/
def aL_markRestS : An := ⟨[(2, [.s 1, .s 5], [.o (.o (.i .i64)), .o (.o (.i .i64))])], [], []⟩
noncomputable def tL_markRestS (x0 : SlV) (x1 : Int) : T :=
  .lp [.o (.o (.i .i64)), .o (.o (.i .i64))] [.v (.int .i64 (x1)), .v (.int .i64 ((0 : Int)))] fun y1 =>
  .br (decide (y1.2.fst < (↑x0.n : Int))) (
    .call false 44 [.int .i64 (y1.fst)] (.v (.o (.s))) fun y2 =>
    .el (x0.a) (x0.n) (y1.2.fst) fun y3 =>
    .st ((y3.add (Int.toNat y1.2.fst * (4 : Nat))).add (0 : Nat)) [.string (y2)] <|
    .rq ((3 : Int) ≠ (0 : Int)) <|
    .el (x0.a) (x0.n) (y1.2.fst) fun y4 =>
    .st ((((y4.add (Int.toNat y1.2.fst * (4 : Nat))).add (1 : Nat)).add (0 : Nat)).add (0 : Nat)) [.bool ((Go.IntKind.i64.wrap (y1.fst + (1 : Int))).tmod (3 : Int) == (0 : Int))] <|
    .el (x0.a) (x0.n) (y1.2.fst) fun y5 =>
    .ld false ((((y5.add (Int.toNat y1.2.fst * (4 : Nat))).add (1 : Nat)).add (0 : Nat)).add (1 : Nat)) (.o (.l)) fun y6 =>
    .call false 45 [Sc.val .l (y6), .int .i64 (Go.IntKind.i64.wrap (Go.IntKind.i64.wrap (y1.fst + (1 : Int)) + (1 : Int)))] (.v (.o (.i .i64))) fun y7 =>
    .el (x0.a) (x0.n) (y1.2.fst) fun y8 =>
    .ld false (((y8.add (Int.toNat y1.2.fst * (4 : Nat))).add (1 : Nat)).add (2 : Nat)) (.o (.l)) fun y9 =>
    .call false 45 [Sc.val .l (y9), .int .i64 (y7)] (.v (.o (.i .i64))) fun y10 =>
    .nx 0 [.v (.int .i64 (y10)), .v (.int .i64 (Go.IntKind.i64.wrap (y1.2.fst + (1 : Int))))]) <|
  .ret [.int .i64 (y1.fst)]
theorem fL_markRestS (x0 : SlV) (x1 : Int) : fits Tryd.prog aL_markRestS 34 [Sc.val .l (x0), .int .i64 (x1)] (tL_markRestS x0 x1) :=
  ⟨Tryd.f34, Tryd.f34.body.getD .skip, by kernel_rfl, by kernel_rfl, by kernel_rfl, by kernel_rfl, by kernel_rfl, by kernel_rfl⟩
/-! loop.example/g00793/laws.markRates -/
def aL_markRates : An := ⟨[], [], []⟩
noncomputable def tL_markRates (x0 : ByteArray × SlV × PUnit) (x1 : Int) : T :=
  .call false 57 [Sc.val .l (x0.2.1), .int .i64 (x1)] (.v (.o (.i .i64))) fun y1 =>
  .ret [.int .i64 (y1)]
theorem fL_markRates (x0 : ByteArray × SlV × PUnit) (x1 : Int) : fits Tryd.prog aL_markRates 35 [Sh1.val (.g [.s, .l]) (x0), .int .i64 (x1)] (tL_markRates x0 x1) :=
  ⟨Tryd.f35, Tryd.f35.body.getD .skip, by kernel_rfl, by kernel_rfl, by kernel_rfl, by kernel_rfl, by kernel_rfl, by kernel_rfl⟩
/-! loop.example/g00793/laws.heldBook -/
def aL_heldBook : An := ⟨[], [], []⟩
noncomputable def tL_heldBook (x0 : SlV × PUnit) (x1 : Int) : T :=
  .call false 58 [Sc.val .l (x0.1), .int .i64 (x1)] (.v (.o (.i .i64))) fun y1 =>
  .br (decide (y1 < (0 : Int))) (
    .ret [.int .i64 ((-1 : Int))]) <|
  .ret [.int .i64 (y1)]
theorem fL_heldBook (x0 : SlV × PUnit) (x1 : Int) : fits Tryd.prog aL_heldBook 36 [Sh1.val (.g [.l]) (x0), .int .i64 (x1)] (tL_heldBook x0 x1) :=
  ⟨Tryd.f36, Tryd.f36.body.getD .skip, by kernel_rfl, by kernel_rfl, by kernel_rfl, by kernel_rfl, by kernel_rfl, by kernel_rfl⟩
/-! loop.example/g00793/laws.heldRestS -/
def aL_heldRestS : An := ⟨[(2, [.s 1, .s 5], [.o (.o (.i .i64)), .o (.o (.i .i64))])], [], []⟩
noncomputable def tL_heldRestS (x0 : SlV) (x1 : Int) : T :=
  .lp [.o (.o (.i .i64)), .o (.o (.i .i64))] [.v (.int .i64 (x1)), .v (.int .i64 ((0 : Int)))] fun y1 =>
  .br (decide (y1.2.fst < (↑x0.n : Int))) (
    .rg <|
    .el (x0.a) (x0.n) (y1.2.fst) fun y2 =>
    .ld true ((y2.add (Int.toNat y1.2.fst * (4 : Nat))).add (0 : Nat)) (.o (.s)) fun y3 =>
    .call true 44 [.int .i64 (y1.fst)] (.v (.o (.s))) fun y4 =>
    .br (!y3.toList == y4.toList) (
      .ret [.int .i64 ((-1 : Int))]) <|
    .el (x0.a) (x0.n) (y1.2.fst) fun y5 =>
    .ld false ((((y5.add (Int.toNat y1.2.fst * (4 : Nat))).add (1 : Nat)).add (0 : Nat)).add (0 : Nat)) (.o (.b)) fun y6 =>
    .rq ((3 : Int) ≠ (0 : Int)) <|
    .br (!y6 == ((Go.IntKind.i64.wrap (y1.fst + (1 : Int))).tmod (3 : Int) == (0 : Int))) (
      .ret [.int .i64 ((-1 : Int))]) <|
    .el (x0.a) (x0.n) (y1.2.fst) fun y7 =>
    .ld false ((((y7.add (Int.toNat y1.2.fst * (4 : Nat))).add (1 : Nat)).add (0 : Nat)).add (1 : Nat)) (.o (.l)) fun y8 =>
    .call false 59 [Sc.val .l (y8), .int .i64 (Go.IntKind.i64.wrap (Go.IntKind.i64.wrap (y1.fst + (1 : Int)) + (1 : Int)))] (.v (.o (.i .i64))) fun y9 =>
    .br (decide (y9 < (0 : Int))) (
      .ret [.int .i64 ((-1 : Int))]) <|
    .el (x0.a) (x0.n) (y1.2.fst) fun y10 =>
    .ld false (((y10.add (Int.toNat y1.2.fst * (4 : Nat))).add (1 : Nat)).add (2 : Nat)) (.o (.l)) fun y11 =>
    .call false 59 [Sc.val .l (y11), .int .i64 (y9)] (.v (.o (.i .i64))) fun y12 =>
    .br (decide (y12 < (0 : Int))) (
      .ret [.int .i64 ((-1 : Int))]) <|
    .nx 0 [.v (.int .i64 (y12)), .v (.int .i64 (Go.IntKind.i64.wrap (y1.2.fst + (1 : Int))))]) <|
  .ret [.int .i64 (y1.fst)]
theorem fL_heldRestS (x0 : SlV) (x1 : Int) : fits Tryd.prog aL_heldRestS 37 [Sc.val .l (x0), .int .i64 (x1)] (tL_heldRestS x0 x1) :=
  ⟨Tryd.f37, Tryd.f37.body.getD .skip, by kernel_rfl, by kernel_rfl, by kernel_rfl, by kernel_rfl, by kernel_rfl, by kernel_rfl⟩
/-! loop.example/g00793/laws.heldRates -/
def aL_heldRates : An := ⟨[], [], []⟩
noncomputable def tL_heldRates (x0 : ByteArray × SlV × PUnit) (x1 : Int) : T :=
  .call false 60 [Sc.val .l (x0.2.1), .int .i64 (x1)] (.v (.o (.i .i64))) fun y1 =>
  .br (decide (y1 < (0 : Int))) (
    .ret [.int .i64 ((-1 : Int))]) <|
  .ret [.int .i64 (y1)]
theorem fL_heldRates (x0 : ByteArray × SlV × PUnit) (x1 : Int) : fits Tryd.prog aL_heldRates 38 [Sh1.val (.g [.s, .l]) (x0), .int .i64 (x1)] (tL_heldRates x0 x1) :=
  ⟨Tryd.f38, Tryd.f38.body.getD .skip, by kernel_rfl, by kernel_rfl, by kernel_rfl, by kernel_rfl, by kernel_rfl, by kernel_rfl⟩
/-! loop.example/g00793/laws.szMoney -/
def aL_szMoney : An := ⟨[], [], []⟩
noncomputable def tL_szMoney (x0 : ByteArray × Bool × SlV × PUnit) (x1 : Int) : T :=
  .br (decide (Go.IntKind.i64.wrap (x1 - (↑(ByteArray.size x0.fst) : Int)) < (0 : Int))) (
    .ret [.int .i64 ((-1 : Int))]) <|
  .call false 61 [Sh1.val (.g [.b, .l]) (x0.2), .int .i64 (Go.IntKind.i64.wrap (x1 - (↑(ByteArray.size x0.fst) : Int)))] (.v (.o (.i .i64))) fun y1 =>
  .br (decide (y1 < (0 : Int))) (
    .ret [.int .i64 ((-1 : Int))]) <|
  .ret [.int .i64 (y1)]
theorem fL_szMoney (x0 : ByteArray × Bool × SlV × PUnit) (x1 : Int) : fits Tryd.prog aL_szMoney 39 [Sh1.val (.g [.s, .b, .l]) (x0), .int .i64 (x1)] (tL_szMoney x0 x1) :=
  ⟨Tryd.f39, Tryd.f39.body.getD .skip, by kernel_rfl, by kernel_rfl, by kernel_rfl, by kernel_rfl, by kernel_rfl, by kernel_rfl⟩
/-! loop.example/g00793/spec.l25Best -/
def aS_l25Best : An := ⟨[(5, [.s 20, .c 4 0, .c 4 1, .c 4 2, .c 6 0, .c 6 1, .c 6 2], [.o (.o (.i .i64)), .o (.o (.s)), .o (.o (.b)), .o (.o (.l)), .o (.o (.s)), .o (.o (.b)), .o (.o (.l))])], [], []⟩
noncomputable def tS_l25Best (x0 : SlV) (x1 : Int) : T :=
  .br ((↑x0.n : Int) == (0 : Int)) (
    .ret [Sh1.val (.g [.s, .b, .l]) (({ data := { toList := [] : Array UInt8 } : ByteArray }), (false), (⟨(none), ((0 : Nat)), ((0 : Nat))⟩ : SlV), ()), .bool (false)]) <|
  .el (x0.a) (x0.n) ((0 : Int)) fun y1 =>
  .ld false (y1.add (Int.toNat (0 : Int) * (3 : Nat))) (.g [.s, .b, .l]) fun y2 =>
  .lp [.o (.o (.i .i64)), .o (.o (.s)), .o (.o (.b)), .o (.o (.l)), .o (.o (.s)), .o (.o (.b)), .o (.o (.l))] [.v (.int .i64 ((0 : Int))), .v (.string ({ data := { toList := [] : Array UInt8 } : ByteArray })), .v (.bool (false)), .v (.slice (none) ((0 : Nat)) ((0 : Nat))), .v (.string (y2.fst)), .v (.bool (y2.2.fst)), .v (Sc.val .l (y2.2.2.1))] fun y3 =>
  .br (decide (y3.fst < (↑x0.n : Int))) (
    .el (x0.a) (x0.n) (y3.fst) fun y4 =>
    .ld false (y4.add (Int.toNat y3.fst * (3 : Nat))) (.g [.s, .b, .l]) fun y5 =>
    .rg <|
    .el (x0.a) (x0.n) ((0 : Int)) fun y6 =>
    .ld true (y6.add (Int.toNat (0 : Int) * (3 : Nat))) (.g [.s, .b, .l]) fun y7 =>
    .call true 62 [Sh1.val (.g [.s, .b, .l]) (y5), Sh1.val (.g [.s, .b, .l]) (y7)] (.t [(.o (.i .i64)), (.o (.b))]) fun y8 =>
    .br (!y8.2.fst) (
      .ret [Sh1.val (.g [.s, .b, .l]) (({ data := { toList := [] : Array UInt8 } : ByteArray }), (false), (⟨(none), ((0 : Nat)), ((0 : Nat))⟩ : SlV), ()), .bool (false)]) <|
    .call false 62 [Sh1.val (.g [.s, .b, .l]) (y5), Sh1.val (.g [.s, .b, .l]) (y3.2.2.2.2)] (.t [(.o (.i .i64)), (.o (.b))]) fun y9 =>
    .br (y9.fst == x1) (
      .nx 0 [.v (.int .i64 (Go.IntKind.i64.wrap (y3.fst + (1 : Int)))), .v (.string (y3.2.fst)), .v (.bool (y3.2.2.fst)), .v (Sc.val .l (y3.2.2.2.1)), .v (.string (y5.fst)), .v (.bool (y5.2.fst)), .v (Sc.val .l (y5.2.2.1))]) <|
    .nx 0 [.v (.int .i64 (Go.IntKind.i64.wrap (y3.fst + (1 : Int)))), .v (.string (y3.2.fst)), .v (.bool (y3.2.2.fst)), .v (Sc.val .l (y3.2.2.2.1)), .v (.string (y3.2.2.2.2.fst)), .v (.bool (y3.2.2.2.2.2.fst)), .v (Sc.val .l (y3.2.2.2.2.2.2.1))]) <|
  .call false 63 [Sh1.val (.g [.s, .b, .l]) (y3.2.2.2.2)] (.v (.g [.s, .b, .l])) fun y4 =>
  .ret [Sh1.val (.g [.s, .b, .l]) (y4), .bool (true)]
theorem fS_l25Best (x0 : SlV) (x1 : Int) : fits Tryd.prog aS_l25Best 40 [Sc.val .l (x0), .int .i64 (x1)] (tS_l25Best x0 x1) :=
  ⟨Tryd.f40, Tryd.f40.body.getD .skip, by kernel_rfl, by kernel_rfl, by kernel_rfl, by kernel_rfl, by kernel_rfl, by kernel_rfl⟩
/-! loop.example/g00793/laws.toMoney -/
def aL_toMoney : An := ⟨[], [], []⟩
noncomputable def tL_toMoney (x0 : ByteArray × Bool × SlV × PUnit) : T :=
  .call false 64 [Sh1.val (.g [.b, .l]) (x0.2)] (.v (.g [.b, .l])) fun y1 =>
  .ret [Sh1.val (.g [.s, .b, .l]) ((x0.fst), (y1.fst), y1.2.1, ())]
theorem fL_toMoney (x0 : ByteArray × Bool × SlV × PUnit) : fits Tryd.prog aL_toMoney 41 [Sh1.val (.g [.s, .b, .l]) (x0)] (tL_toMoney x0) :=
  ⟨Tryd.f41, Tryd.f41.body.getD .skip, by kernel_rfl, by kernel_rfl, by kernel_rfl, by kernel_rfl, by kernel_rfl, by kernel_rfl⟩
/-! loop.example/g00793/impl.best -/
def aI_best : An := ⟨[(5, [.s 20, .c 4 0, .c 4 1, .c 4 2, .c 6 0, .c 6 1, .c 6 2], [.o (.o (.i .i64)), .o (.o (.s)), .o (.o (.b)), .o (.o (.l)), .o (.o (.s)), .o (.o (.b)), .o (.o (.l))])], [], []⟩
noncomputable def tI_best (x0 : SlV) (x1 : Int) : T :=
  .br ((↑x0.n : Int) == (0 : Int)) (
    .ret [Sh1.val (.g [.s, .b, .l]) (({ data := { toList := [] : Array UInt8 } : ByteArray }), (false), (⟨(none), ((0 : Nat)), ((0 : Nat))⟩ : SlV), ()), .bool (false)]) <|
  .el (x0.a) (x0.n) ((0 : Int)) fun y1 =>
  .ld false (y1.add (Int.toNat (0 : Int) * (3 : Nat))) (.g [.s, .b, .l]) fun y2 =>
  .lp [.o (.o (.i .i64)), .o (.o (.s)), .o (.o (.b)), .o (.o (.l)), .o (.o (.s)), .o (.o (.b)), .o (.o (.l))] [.v (.int .i64 ((0 : Int))), .v (.string ({ data := { toList := [] : Array UInt8 } : ByteArray })), .v (.bool (false)), .v (.slice (none) ((0 : Nat)) ((0 : Nat))), .v (.string (y2.fst)), .v (.bool (y2.2.fst)), .v (Sc.val .l (y2.2.2.1))] fun y3 =>
  .br (decide (y3.fst < (↑x0.n : Int))) (
    .el (x0.a) (x0.n) (y3.fst) fun y4 =>
    .ld false (y4.add (Int.toNat y3.fst * (3 : Nat))) (.g [.s, .b, .l]) fun y5 =>
    .call false 65 [Sh1.val (.g [.s, .b, .l]) (y5), Sh1.val (.g [.s, .b, .l]) (y3.2.2.2.2)] (.t [(.o (.i .i64)), (.o (.b))]) fun y6 =>
    .br (!y6.2.fst) (
      .ret [Sh1.val (.g [.s, .b, .l]) (({ data := { toList := [] : Array UInt8 } : ByteArray }), (false), (⟨(none), ((0 : Nat)), ((0 : Nat))⟩ : SlV), ()), .bool (false)]) <|
    .br (decide (Go.IntKind.i64.wrap (x1 * y6.fst) > (0 : Int))) (
      .nx 0 [.v (.int .i64 (Go.IntKind.i64.wrap (y3.fst + (1 : Int)))), .v (.string (y3.2.fst)), .v (.bool (y3.2.2.fst)), .v (Sc.val .l (y3.2.2.2.1)), .v (.string (y5.fst)), .v (.bool (y5.2.fst)), .v (Sc.val .l (y5.2.2.1))]) <|
    .nx 0 [.v (.int .i64 (Go.IntKind.i64.wrap (y3.fst + (1 : Int)))), .v (.string (y3.2.fst)), .v (.bool (y3.2.2.fst)), .v (Sc.val .l (y3.2.2.2.1)), .v (.string (y3.2.2.2.2.fst)), .v (.bool (y3.2.2.2.2.2.fst)), .v (Sc.val .l (y3.2.2.2.2.2.2.1))]) <|
  .call false 66 [Sh1.val (.g [.s, .b, .l]) (y3.2.2.2.2)] (.v (.g [.s, .b, .l])) fun y4 =>
  .ret [Sh1.val (.g [.s, .b, .l]) (y4), .bool (true)]
theorem fI_best (x0 : SlV) (x1 : Int) : fits Tryd.prog aI_best 42 [Sc.val .l (x0), .int .i64 (x1)] (tI_best x0 x1) :=
  ⟨Tryd.f42, Tryd.f42.body.getD .skip, by kernel_rfl, by kernel_rfl, by kernel_rfl, by kernel_rfl, by kernel_rfl, by kernel_rfl⟩
/-! loop.example/g00793/laws.eqSigned -/
def aL_eqSigned : An := ⟨[], [], []⟩
noncomputable def tL_eqSigned (x0 : Bool × SlV × PUnit) (x1 : Bool × SlV × PUnit) : T :=
  .br (!x0.fst == x1.fst) (
    .ret [.bool (false)]) <|
  .call false 67 [Sc.val .l (x0.2.1), Sc.val .l (x1.2.1)] (.v (.o (.b))) fun y1 =>
  .br (!y1) (
    .ret [.bool (false)]) <|
  .ret [.bool (true)]
theorem fL_eqSigned (x0 : Bool × SlV × PUnit) (x1 : Bool × SlV × PUnit) : fits Tryd.prog aL_eqSigned 43 [Sh1.val (.g [.b, .l]) (x0), Sh1.val (.g [.b, .l]) (x1)] (tL_eqSigned x0 x1) :=
  ⟨Tryd.f43, Tryd.f43.body.getD .skip, by kernel_rfl, by kernel_rfl, by kernel_rfl, by kernel_rfl, by kernel_rfl, by kernel_rfl⟩
/-! loop.example/g00793/laws.markText -/
def aL_markText : An := ⟨[(4, [.s 0, .s 3], [.o (.o (.i .i64)), .o (.o (.s))])], [], []⟩
noncomputable def tL_markText (x0 : Int) : T :=
  .br (decide (x0 ≤ (0 : Int))) (
    .ret [.string ({ data := { toList := [(109 : UInt8), (48 : UInt8)] : Array UInt8 } : ByteArray })]) <|
  .lp [.o (.o (.i .i64)), .o (.o (.s))] [.v (.int .i64 (x0)), .v (.string ({ data := { toList := [] : Array UInt8 } : ByteArray }))] fun y1 =>
  .br (decide (y1.fst > (0 : Int))) (
    .rq ((10 : Int) ≠ (0 : Int)) <|
    .fz ((1 : Nat)) [.int .u8 (Go.IntKind.u8.wrap (Go.IntKind.i64.wrap ((48 : Int) + Int.tmod y1.fst (10 : Int))))] 5 fun b2 c2 =>
    .rd ({ a := some { block := b2, off := (0 : Nat) : Go.Addr }, n := (1 : Nat), c := c2 : SlV }) ((1 : Nat)) fun y3 =>
    .rq (bytesOf y3 ≠ none) <|
    .rq ((bytesD y3).size + ByteArray.size y1.2.fst ≤ (9223372036854775807 : Nat)) <|
    .rq ((10 : Int) ≠ (0 : Int)) <|
    .nx 0 [.v (.int .i64 (Go.IntKind.i64.wrap (Int.tdiv y1.fst (10 : Int)))), .v (.string (bytesD y3 ++ y1.2.fst))]) <|
  .rq ({ data := { toList := [(109 : UInt8)] : Array UInt8 } : ByteArray }.size + ByteArray.size y1.2.fst ≤ (9223372036854775807 : Nat)) <|
  .ret [.string ({ data := { toList := [(109 : UInt8)] : Array UInt8 } : ByteArray } ++ y1.2.fst)]
theorem fL_markText (x0 : Int) : fits Tryd.prog aL_markText 44 [.int .i64 (x0)] (tL_markText x0) :=
  ⟨Tryd.f44, Tryd.f44.body.getD .skip, by kernel_rfl, by kernel_rfl, by kernel_rfl, by kernel_rfl, by kernel_rfl, by kernel_rfl⟩
/-! loop.example/g00793/laws.markIntS -/
def aL_markIntS : An := ⟨[(2, [.s 1, .s 5], [.o (.o (.i .i64)), .o (.o (.i .i64))])], [], []⟩
noncomputable def tL_markIntS (x0 : SlV) (x1 : Int) : T :=
  .lp [.o (.o (.i .i64)), .o (.o (.i .i64))] [.v (.int .i64 (x1)), .v (.int .i64 ((0 : Int)))] fun y1 =>
  .br (decide (y1.2.fst < (↑x0.n : Int))) (
    .el (x0.a) (x0.n) (y1.2.fst) fun y2 =>
    .st (y2.add (Int.toNat y1.2.fst * (1 : Nat))) [.int .i64 (y1.fst)] <|
    .nx 0 [.v (.int .i64 (Go.IntKind.i64.wrap (y1.fst + (1 : Int)))), .v (.int .i64 (Go.IntKind.i64.wrap (y1.2.fst + (1 : Int))))]) <|
  .ret [.int .i64 (y1.fst)]
theorem fL_markIntS (x0 : SlV) (x1 : Int) : fits Tryd.prog aL_markIntS 45 [Sc.val .l (x0), .int .i64 (x1)] (tL_markIntS x0 x1) :=
  ⟨Tryd.f45, Tryd.f45.body.getD .skip, by kernel_rfl, by kernel_rfl, by kernel_rfl, by kernel_rfl, by kernel_rfl, by kernel_rfl⟩
/-! loop.example/g00793/laws.markSigned -/
def aL_markSigned : An := ⟨[], [], []⟩
noncomputable def tL_markSigned (x0 : Bool × SlV × PUnit) (x1 : Int) : T :=
  .call false 45 [Sc.val .l (x0.2.1), .int .i64 (x1)] (.v (.o (.i .i64))) fun y1 =>
  .ret [.int .i64 (y1)]
theorem fL_markSigned (x0 : Bool × SlV × PUnit) (x1 : Int) : fits Tryd.prog aL_markSigned 46 [Sh1.val (.g [.b, .l]) (x0), .int .i64 (x1)] (tL_markSigned x0 x1) :=
  ⟨Tryd.f46, Tryd.f46.body.getD .skip, by kernel_rfl, by kernel_rfl, by kernel_rfl, by kernel_rfl, by kernel_rfl, by kernel_rfl⟩
/-! loop.example/g00793/laws.heldSigned -/
def aL_heldSigned : An := ⟨[], [], []⟩
noncomputable def tL_heldSigned (x0 : Bool × SlV × PUnit) (x1 : Int) : T :=
  .call false 59 [Sc.val .l (x0.2.1), .int .i64 (x1)] (.v (.o (.i .i64))) fun y1 =>
  .br (decide (y1 < (0 : Int))) (
    .ret [.int .i64 ((-1 : Int))]) <|
  .ret [.int .i64 (y1)]
theorem fL_heldSigned (x0 : Bool × SlV × PUnit) (x1 : Int) : fits Tryd.prog aL_heldSigned 47 [Sh1.val (.g [.b, .l]) (x0), .int .i64 (x1)] (tL_heldSigned x0 x1) :=
  ⟨Tryd.f47, Tryd.f47.body.getD .skip, by kernel_rfl, by kernel_rfl, by kernel_rfl, by kernel_rfl, by kernel_rfl, by kernel_rfl⟩
/-! loop.example/g00793/laws.eqLedgerS -/
def aL_eqLedgerS : An := ⟨[(4, [.s 5], [.o (.o (.i .i64))])], [], []⟩
noncomputable def tL_eqLedgerS (x0 : SlV) (x1 : SlV) : T :=
  .br ((↑x0.n : Int) != (↑x1.n : Int)) (
    .ret [.bool (false)]) <|
  .lp [.o (.o (.i .i64))] [.v (.int .i64 ((0 : Int)))] fun y1 =>
  .br (decide (y1.fst < (↑x0.n : Int))) (
    .rg <|
    .el (x0.a) (x0.n) (y1.fst) fun y2 =>
    .ld true (y2.add (Int.toNat y1.fst * (4 : Nat))) (.g [.l, .l, .s, .l]) fun y3 =>
    .el (x1.a) (x1.n) (y1.fst) fun y4 =>
    .ld true (y4.add (Int.toNat y1.fst * (4 : Nat))) (.g [.l, .l, .s, .l]) fun y5 =>
    .call true 9 [Sh1.val (.g [.l, .l, .s, .l]) (y3), Sh1.val (.g [.l, .l, .s, .l]) (y5)] (.v (.o (.b))) fun y6 =>
    .br (!y6) (
      .ret [.bool (false)]) <|
    .nx 0 [.v (.int .i64 (Go.IntKind.i64.wrap (y1.fst + (1 : Int))))]) <|
  .ret [.bool (true)]
theorem fL_eqLedgerS (x0 : SlV) (x1 : SlV) : fits Tryd.prog aL_eqLedgerS 48 [Sc.val .l (x0), Sc.val .l (x1)] (tL_eqLedgerS x0 x1) :=
  ⟨Tryd.f48, Tryd.f48.body.getD .skip, by kernel_rfl, by kernel_rfl, by kernel_rfl, by kernel_rfl, by kernel_rfl, by kernel_rfl⟩
/-! loop.example/g00793/laws.markLedgerS -/
def aL_markLedgerS : An := ⟨[(2, [.s 1, .s 5], [.o (.o (.i .i64)), .o (.o (.i .i64))])], [], []⟩
noncomputable def tL_markLedgerS (x0 : SlV) (x1 : Int) : T :=
  .lp [.o (.o (.i .i64)), .o (.o (.i .i64))] [.v (.int .i64 (x1)), .v (.int .i64 ((0 : Int)))] fun y1 =>
  .br (decide (y1.2.fst < (↑x0.n : Int))) (
    .el (x0.a) (x0.n) (y1.2.fst) fun y2 =>
    .ld false (((y2.add (Int.toNat y1.2.fst * (4 : Nat))).add (0 : Nat)).add (0 : Nat)) (.o (.l)) fun y3 =>
    .call false 56 [Sc.val .l (y3), .int .i64 (y1.fst)] (.v (.o (.i .i64))) fun y4 =>
    .el (x0.a) (x0.n) (y1.2.fst) fun y5 =>
    .ld false ((y5.add (Int.toNat y1.2.fst * (4 : Nat))).add (1 : Nat)) (.o (.l)) fun y6 =>
    .call false 34 [Sc.val .l (y6), .int .i64 (y4)] (.v (.o (.i .i64))) fun y7 =>
    .call false 44 [.int .i64 (y7)] (.v (.o (.s))) fun y8 =>
    .el (x0.a) (x0.n) (y1.2.fst) fun y9 =>
    .st (((y9.add (Int.toNat y1.2.fst * (4 : Nat))).add (2 : Nat)).add (0 : Nat)) [.string (y8)] <|
    .el (x0.a) (x0.n) (y1.2.fst) fun y10 =>
    .ld false (((y10.add (Int.toNat y1.2.fst * (4 : Nat))).add (2 : Nat)).add (1 : Nat)) (.o (.l)) fun y11 =>
    .call false 57 [Sc.val .l (y11), .int .i64 (Go.IntKind.i64.wrap (y7 + (1 : Int)))] (.v (.o (.i .i64))) fun y12 =>
    .nx 0 [.v (.int .i64 (y12)), .v (.int .i64 (Go.IntKind.i64.wrap (y1.2.fst + (1 : Int))))]) <|
  .ret [.int .i64 (y1.fst)]
theorem fL_markLedgerS (x0 : SlV) (x1 : Int) : fits Tryd.prog aL_markLedgerS 49 [Sc.val .l (x0), .int .i64 (x1)] (tL_markLedgerS x0 x1) :=
  ⟨Tryd.f49, Tryd.f49.body.getD .skip, by kernel_rfl, by kernel_rfl, by kernel_rfl, by kernel_rfl, by kernel_rfl, by kernel_rfl⟩
/-! loop.example/g00793/laws.heldLedgerS -/
def aL_heldLedgerS : An := ⟨[(2, [.s 1, .s 5], [.o (.o (.i .i64)), .o (.o (.i .i64))])], [], []⟩
noncomputable def tL_heldLedgerS (x0 : SlV) (x1 : Int) : T :=
  .lp [.o (.o (.i .i64)), .o (.o (.i .i64))] [.v (.int .i64 (x1)), .v (.int .i64 ((0 : Int)))] fun y1 =>
  .br (decide (y1.2.fst < (↑x0.n : Int))) (
    .el (x0.a) (x0.n) (y1.2.fst) fun y2 =>
    .ld false (((y2.add (Int.toNat y1.2.fst * (4 : Nat))).add (0 : Nat)).add (0 : Nat)) (.o (.l)) fun y3 =>
    .call false 58 [Sc.val .l (y3), .int .i64 (y1.fst)] (.v (.o (.i .i64))) fun y4 =>
    .br (decide (y4 < (0 : Int))) (
      .ret [.int .i64 ((-1 : Int))]) <|
    .el (x0.a) (x0.n) (y1.2.fst) fun y5 =>
    .ld false ((y5.add (Int.toNat y1.2.fst * (4 : Nat))).add (1 : Nat)) (.o (.l)) fun y6 =>
    .call false 37 [Sc.val .l (y6), .int .i64 (y4)] (.v (.o (.i .i64))) fun y7 =>
    .br (decide (y7 < (0 : Int))) (
      .ret [.int .i64 ((-1 : Int))]) <|
    .rg <|
    .el (x0.a) (x0.n) (y1.2.fst) fun y8 =>
    .ld true (((y8.add (Int.toNat y1.2.fst * (4 : Nat))).add (2 : Nat)).add (0 : Nat)) (.o (.s)) fun y9 =>
    .call true 44 [.int .i64 (y7)] (.v (.o (.s))) fun y10 =>
    .br (!y9.toList == y10.toList) (
      .ret [.int .i64 ((-1 : Int))]) <|
    .el (x0.a) (x0.n) (y1.2.fst) fun y11 =>
    .ld false (((y11.add (Int.toNat y1.2.fst * (4 : Nat))).add (2 : Nat)).add (1 : Nat)) (.o (.l)) fun y12 =>
    .call false 60 [Sc.val .l (y12), .int .i64 (Go.IntKind.i64.wrap (y7 + (1 : Int)))] (.v (.o (.i .i64))) fun y13 =>
    .br (decide (y13 < (0 : Int))) (
      .ret [.int .i64 ((-1 : Int))]) <|
    .nx 0 [.v (.int .i64 (y13)), .v (.int .i64 (Go.IntKind.i64.wrap (y1.2.fst + (1 : Int))))]) <|
  .ret [.int .i64 (y1.fst)]
theorem fL_heldLedgerS (x0 : SlV) (x1 : Int) : fits Tryd.prog aL_heldLedgerS 50 [Sc.val .l (x0), .int .i64 (x1)] (tL_heldLedgerS x0 x1) :=
  ⟨Tryd.f50, Tryd.f50.body.getD .skip, by kernel_rfl, by kernel_rfl, by kernel_rfl, by kernel_rfl, by kernel_rfl, by kernel_rfl⟩
/-! loop.example/g00793/spec.l08Find -/
def aS_l08Find : An := ⟨[(2, [.s 7, .c 2 0, .c 2 1, .c 2 2, .c 2 3], [.o (.o (.i .i64)), .o (.o (.s)), .o (.o (.s)), .o (.o (.i .i64)), .o (.o (.i .i64))])], [], []⟩
noncomputable def tS_l08Find (x0 : ByteArray) : T :=
  .call false 68 [] (.v (.o (.l))) fun y1 =>
  .lp [.o (.o (.i .i64)), .o (.o (.s)), .o (.o (.s)), .o (.o (.i .i64)), .o (.o (.i .i64))] [.v (.int .i64 ((0 : Int))), .v (.string ({ data := { toList := [] : Array UInt8 } : ByteArray })), .v (.string ({ data := { toList := [] : Array UInt8 } : ByteArray })), .v (.int .i64 ((0 : Int))), .v (.int .i64 ((0 : Int)))] fun y2 =>
  .br (decide (y2.fst < (↑y1.n : Int))) (
    .el (y1.a) (y1.n) (y2.fst) fun y3 =>
    .ld false (y3.add (Int.toNat y2.fst * (4 : Nat))) (.g [.s, .s, .i .i64, .i .i64]) fun y4 =>
    .br (ByteArray.toList y4.fst == x0.toList) (
      .ret [Sh1.val (.g [.s, .s, .i .i64, .i .i64]) (y4)]) <|
    .nx 0 [.v (.int .i64 (Go.IntKind.i64.wrap (y2.fst + (1 : Int)))), .v (.string (y2.2.fst)), .v (.string (y2.2.2.fst)), .v (.int .i64 (y2.2.2.2.fst)), .v (.int .i64 (y2.2.2.2.2.fst))]) <|
  .ret [Sh1.val (.g [.s, .s, .i .i64, .i .i64]) (({ data := { toList := [] : Array UInt8 } : ByteArray }), ({ data := { toList := [] : Array UInt8 } : ByteArray }), (((0 : Int)) : Int), (((0 : Int)) : Int), ())]
theorem fS_l08Find (x0 : ByteArray) : fits Tryd.prog aS_l08Find 51 [.string (x0)] (tS_l08Find x0) :=
  ⟨Tryd.f51, Tryd.f51.body.getD .skip, by kernel_rfl, by kernel_rfl, by kernel_rfl, by kernel_rfl, by kernel_rfl, by kernel_rfl⟩
/-! loop.example/g00793/impl.currencyOf -/
def aI_currencyOf : An := ⟨[(2, [.s 7, .c 2 0, .c 2 1, .c 2 2, .c 2 3], [.o (.o (.i .i64)), .o (.o (.s)), .o (.o (.s)), .o (.o (.i .i64)), .o (.o (.i .i64))])], [], []⟩
noncomputable def tI_currencyOf (x0 : ByteArray) : T :=
  .ld false ({ block := (0 : Nat), off := (0 : Nat) : Go.Addr }) (.g [.s, .s, .i .i64, .i .i64, .s, .s, .i .i64, .i .i64, .s, .s, .i .i64, .i .i64, .s, .s, .i .i64, .i .i64, .s, .s, .i .i64, .i .i64, .s, .s, .i .i64, .i .i64, .s, .s, .i .i64, .i .i64, .s, .s, .i .i64, .i .i64, .s, .s, .i .i64, .i .i64, .s, .s, .i .i64, .i .i64, .s, .s, .i .i64, .i .i64, .s, .s, .i .i64, .i .i64, .s, .s, .i .i64, .i .i64, .s, .s, .i .i64, .i .i64, .s, .s, .i .i64, .i .i64, .s, .s, .i .i64, .i .i64, .s, .s, .i .i64, .i .i64, .s, .s, .i .i64, .i .i64, .s, .s, .i .i64, .i .i64, .s, .s, .i .i64, .i .i64]) fun y1 =>
  .lp [.o (.o (.i .i64)), .o (.o (.s)), .o (.o (.s)), .o (.o (.i .i64)), .o (.o (.i .i64))] [.v (.int .i64 ((0 : Int))), .v (.string ({ data := { toList := [] : Array UInt8 } : ByteArray })), .v (.string ({ data := { toList := [] : Array UInt8 } : ByteArray })), .v (.int .i64 ((0 : Int))), .v (.int .i64 ((0 : Int)))] fun y2 =>
  .br (decide (y2.fst < (20 : Int))) (
    .rq ((0 : Int) ≤ y2.fst ∧ y2.fst < (↑(20 : Nat) : Int)) <|
    .xs [.string (y1.fst), .string (y1.2.fst), .int .i64 (y1.2.2.fst), .int .i64 (y1.2.2.2.fst), .string (y1.2.2.2.2.fst), .string (y1.2.2.2.2.2.fst), .int .i64 (y1.2.2.2.2.2.2.fst), .int .i64 (y1.2.2.2.2.2.2.2.fst), .string (y1.2.2.2.2.2.2.2.2.fst), .string (y1.2.2.2.2.2.2.2.2.2.fst), .int .i64 (y1.2.2.2.2.2.2.2.2.2.2.fst), .int .i64 (y1.2.2.2.2.2.2.2.2.2.2.2.fst), .string (y1.2.2.2.2.2.2.2.2.2.2.2.2.fst), .string (y1.2.2.2.2.2.2.2.2.2.2.2.2.2.fst), .int .i64 (y1.2.2.2.2.2.2.2.2.2.2.2.2.2.2.fst), .int .i64 (y1.2.2.2.2.2.2.2.2.2.2.2.2.2.2.2.fst), .string (y1.2.2.2.2.2.2.2.2.2.2.2.2.2.2.2.2.fst), .string (y1.2.2.2.2.2.2.2.2.2.2.2.2.2.2.2.2.2.fst), .int .i64 (y1.2.2.2.2.2.2.2.2.2.2.2.2.2.2.2.2.2.2.fst), .int .i64 (y1.2.2.2.2.2.2.2.2.2.2.2.2.2.2.2.2.2.2.2.fst), .string (y1.2.2.2.2.2.2.2.2.2.2.2.2.2.2.2.2.2.2.2.2.fst), .string (y1.2.2.2.2.2.2.2.2.2.2.2.2.2.2.2.2.2.2.2.2.2.fst), .int .i64 (y1.2.2.2.2.2.2.2.2.2.2.2.2.2.2.2.2.2.2.2.2.2.2.fst), .int .i64 (y1.2.2.2.2.2.2.2.2.2.2.2.2.2.2.2.2.2.2.2.2.2.2.2.fst), .string (y1.2.2.2.2.2.2.2.2.2.2.2.2.2.2.2.2.2.2.2.2.2.2.2.2.fst), .string (y1.2.2.2.2.2.2.2.2.2.2.2.2.2.2.2.2.2.2.2.2.2.2.2.2.2.fst), .int .i64 (y1.2.2.2.2.2.2.2.2.2.2.2.2.2.2.2.2.2.2.2.2.2.2.2.2.2.2.fst), .int .i64 (y1.2.2.2.2.2.2.2.2.2.2.2.2.2.2.2.2.2.2.2.2.2.2.2.2.2.2.2.fst), .string (y1.2.2.2.2.2.2.2.2.2.2.2.2.2.2.2.2.2.2.2.2.2.2.2.2.2.2.2.2.fst), .string (y1.2.2.2.2.2.2.2.2.2.2.2.2.2.2.2.2.2.2.2.2.2.2.2.2.2.2.2.2.2.fst), .int .i64 (y1.2.2.2.2.2.2.2.2.2.2.2.2.2.2.2.2.2.2.2.2.2.2.2.2.2.2.2.2.2.2.fst), .int .i64 (y1.2.2.2.2.2.2.2.2.2.2.2.2.2.2.2.2.2.2.2.2.2.2.2.2.2.2.2.2.2.2.2.fst), .string (y1.2.2.2.2.2.2.2.2.2.2.2.2.2.2.2.2.2.2.2.2.2.2.2.2.2.2.2.2.2.2.2.2.fst), .string (y1.2.2.2.2.2.2.2.2.2.2.2.2.2.2.2.2.2.2.2.2.2.2.2.2.2.2.2.2.2.2.2.2.2.fst), .int .i64 (y1.2.2.2.2.2.2.2.2.2.2.2.2.2.2.2.2.2.2.2.2.2.2.2.2.2.2.2.2.2.2.2.2.2.2.fst), .int .i64 (y1.2.2.2.2.2.2.2.2.2.2.2.2.2.2.2.2.2.2.2.2.2.2.2.2.2.2.2.2.2.2.2.2.2.2.2.fst), .string (y1.2.2.2.2.2.2.2.2.2.2.2.2.2.2.2.2.2.2.2.2.2.2.2.2.2.2.2.2.2.2.2.2.2.2.2.2.fst), .string (y1.2.2.2.2.2.2.2.2.2.2.2.2.2.2.2.2.2.2.2.2.2.2.2.2.2.2.2.2.2.2.2.2.2.2.2.2.2.fst), .int .i64 (y1.2.2.2.2.2.2.2.2.2.2.2.2.2.2.2.2.2.2.2.2.2.2.2.2.2.2.2.2.2.2.2.2.2.2.2.2.2.2.fst), .int .i64 (y1.2.2.2.2.2.2.2.2.2.2.2.2.2.2.2.2.2.2.2.2.2.2.2.2.2.2.2.2.2.2.2.2.2.2.2.2.2.2.2.fst), .string (y1.2.2.2.2.2.2.2.2.2.2.2.2.2.2.2.2.2.2.2.2.2.2.2.2.2.2.2.2.2.2.2.2.2.2.2.2.2.2.2.2.fst), .string (y1.2.2.2.2.2.2.2.2.2.2.2.2.2.2.2.2.2.2.2.2.2.2.2.2.2.2.2.2.2.2.2.2.2.2.2.2.2.2.2.2.2.fst), .int .i64 (y1.2.2.2.2.2.2.2.2.2.2.2.2.2.2.2.2.2.2.2.2.2.2.2.2.2.2.2.2.2.2.2.2.2.2.2.2.2.2.2.2.2.2.fst), .int .i64 (y1.2.2.2.2.2.2.2.2.2.2.2.2.2.2.2.2.2.2.2.2.2.2.2.2.2.2.2.2.2.2.2.2.2.2.2.2.2.2.2.2.2.2.2.fst), .string (y1.2.2.2.2.2.2.2.2.2.2.2.2.2.2.2.2.2.2.2.2.2.2.2.2.2.2.2.2.2.2.2.2.2.2.2.2.2.2.2.2.2.2.2.2.fst), .string (y1.2.2.2.2.2.2.2.2.2.2.2.2.2.2.2.2.2.2.2.2.2.2.2.2.2.2.2.2.2.2.2.2.2.2.2.2.2.2.2.2.2.2.2.2.2.fst), .int .i64 (y1.2.2.2.2.2.2.2.2.2.2.2.2.2.2.2.2.2.2.2.2.2.2.2.2.2.2.2.2.2.2.2.2.2.2.2.2.2.2.2.2.2.2.2.2.2.2.fst), .int .i64 (y1.2.2.2.2.2.2.2.2.2.2.2.2.2.2.2.2.2.2.2.2.2.2.2.2.2.2.2.2.2.2.2.2.2.2.2.2.2.2.2.2.2.2.2.2.2.2.2.fst), .string (y1.2.2.2.2.2.2.2.2.2.2.2.2.2.2.2.2.2.2.2.2.2.2.2.2.2.2.2.2.2.2.2.2.2.2.2.2.2.2.2.2.2.2.2.2.2.2.2.2.fst), .string (y1.2.2.2.2.2.2.2.2.2.2.2.2.2.2.2.2.2.2.2.2.2.2.2.2.2.2.2.2.2.2.2.2.2.2.2.2.2.2.2.2.2.2.2.2.2.2.2.2.2.fst), .int .i64 (y1.2.2.2.2.2.2.2.2.2.2.2.2.2.2.2.2.2.2.2.2.2.2.2.2.2.2.2.2.2.2.2.2.2.2.2.2.2.2.2.2.2.2.2.2.2.2.2.2.2.2.fst), .int .i64 (y1.2.2.2.2.2.2.2.2.2.2.2.2.2.2.2.2.2.2.2.2.2.2.2.2.2.2.2.2.2.2.2.2.2.2.2.2.2.2.2.2.2.2.2.2.2.2.2.2.2.2.2.fst), .string (y1.2.2.2.2.2.2.2.2.2.2.2.2.2.2.2.2.2.2.2.2.2.2.2.2.2.2.2.2.2.2.2.2.2.2.2.2.2.2.2.2.2.2.2.2.2.2.2.2.2.2.2.2.fst), .string (y1.2.2.2.2.2.2.2.2.2.2.2.2.2.2.2.2.2.2.2.2.2.2.2.2.2.2.2.2.2.2.2.2.2.2.2.2.2.2.2.2.2.2.2.2.2.2.2.2.2.2.2.2.2.fst), .int .i64 (y1.2.2.2.2.2.2.2.2.2.2.2.2.2.2.2.2.2.2.2.2.2.2.2.2.2.2.2.2.2.2.2.2.2.2.2.2.2.2.2.2.2.2.2.2.2.2.2.2.2.2.2.2.2.2.fst), .int .i64 (y1.2.2.2.2.2.2.2.2.2.2.2.2.2.2.2.2.2.2.2.2.2.2.2.2.2.2.2.2.2.2.2.2.2.2.2.2.2.2.2.2.2.2.2.2.2.2.2.2.2.2.2.2.2.2.2.fst), .string (y1.2.2.2.2.2.2.2.2.2.2.2.2.2.2.2.2.2.2.2.2.2.2.2.2.2.2.2.2.2.2.2.2.2.2.2.2.2.2.2.2.2.2.2.2.2.2.2.2.2.2.2.2.2.2.2.2.fst), .string (y1.2.2.2.2.2.2.2.2.2.2.2.2.2.2.2.2.2.2.2.2.2.2.2.2.2.2.2.2.2.2.2.2.2.2.2.2.2.2.2.2.2.2.2.2.2.2.2.2.2.2.2.2.2.2.2.2.2.fst), .int .i64 (y1.2.2.2.2.2.2.2.2.2.2.2.2.2.2.2.2.2.2.2.2.2.2.2.2.2.2.2.2.2.2.2.2.2.2.2.2.2.2.2.2.2.2.2.2.2.2.2.2.2.2.2.2.2.2.2.2.2.2.fst), .int .i64 (y1.2.2.2.2.2.2.2.2.2.2.2.2.2.2.2.2.2.2.2.2.2.2.2.2.2.2.2.2.2.2.2.2.2.2.2.2.2.2.2.2.2.2.2.2.2.2.2.2.2.2.2.2.2.2.2.2.2.2.2.fst), .string (y1.2.2.2.2.2.2.2.2.2.2.2.2.2.2.2.2.2.2.2.2.2.2.2.2.2.2.2.2.2.2.2.2.2.2.2.2.2.2.2.2.2.2.2.2.2.2.2.2.2.2.2.2.2.2.2.2.2.2.2.2.fst), .string (y1.2.2.2.2.2.2.2.2.2.2.2.2.2.2.2.2.2.2.2.2.2.2.2.2.2.2.2.2.2.2.2.2.2.2.2.2.2.2.2.2.2.2.2.2.2.2.2.2.2.2.2.2.2.2.2.2.2.2.2.2.2.fst), .int .i64 (y1.2.2.2.2.2.2.2.2.2.2.2.2.2.2.2.2.2.2.2.2.2.2.2.2.2.2.2.2.2.2.2.2.2.2.2.2.2.2.2.2.2.2.2.2.2.2.2.2.2.2.2.2.2.2.2.2.2.2.2.2.2.2.fst), .int .i64 (y1.2.2.2.2.2.2.2.2.2.2.2.2.2.2.2.2.2.2.2.2.2.2.2.2.2.2.2.2.2.2.2.2.2.2.2.2.2.2.2.2.2.2.2.2.2.2.2.2.2.2.2.2.2.2.2.2.2.2.2.2.2.2.2.fst), .string (y1.2.2.2.2.2.2.2.2.2.2.2.2.2.2.2.2.2.2.2.2.2.2.2.2.2.2.2.2.2.2.2.2.2.2.2.2.2.2.2.2.2.2.2.2.2.2.2.2.2.2.2.2.2.2.2.2.2.2.2.2.2.2.2.2.fst), .string (y1.2.2.2.2.2.2.2.2.2.2.2.2.2.2.2.2.2.2.2.2.2.2.2.2.2.2.2.2.2.2.2.2.2.2.2.2.2.2.2.2.2.2.2.2.2.2.2.2.2.2.2.2.2.2.2.2.2.2.2.2.2.2.2.2.2.fst), .int .i64 (y1.2.2.2.2.2.2.2.2.2.2.2.2.2.2.2.2.2.2.2.2.2.2.2.2.2.2.2.2.2.2.2.2.2.2.2.2.2.2.2.2.2.2.2.2.2.2.2.2.2.2.2.2.2.2.2.2.2.2.2.2.2.2.2.2.2.2.fst), .int .i64 (y1.2.2.2.2.2.2.2.2.2.2.2.2.2.2.2.2.2.2.2.2.2.2.2.2.2.2.2.2.2.2.2.2.2.2.2.2.2.2.2.2.2.2.2.2.2.2.2.2.2.2.2.2.2.2.2.2.2.2.2.2.2.2.2.2.2.2.2.fst), .string (y1.2.2.2.2.2.2.2.2.2.2.2.2.2.2.2.2.2.2.2.2.2.2.2.2.2.2.2.2.2.2.2.2.2.2.2.2.2.2.2.2.2.2.2.2.2.2.2.2.2.2.2.2.2.2.2.2.2.2.2.2.2.2.2.2.2.2.2.2.fst), .string (y1.2.2.2.2.2.2.2.2.2.2.2.2.2.2.2.2.2.2.2.2.2.2.2.2.2.2.2.2.2.2.2.2.2.2.2.2.2.2.2.2.2.2.2.2.2.2.2.2.2.2.2.2.2.2.2.2.2.2.2.2.2.2.2.2.2.2.2.2.2.fst), .int .i64 (y1.2.2.2.2.2.2.2.2.2.2.2.2.2.2.2.2.2.2.2.2.2.2.2.2.2.2.2.2.2.2.2.2.2.2.2.2.2.2.2.2.2.2.2.2.2.2.2.2.2.2.2.2.2.2.2.2.2.2.2.2.2.2.2.2.2.2.2.2.2.2.fst), .int .i64 (y1.2.2.2.2.2.2.2.2.2.2.2.2.2.2.2.2.2.2.2.2.2.2.2.2.2.2.2.2.2.2.2.2.2.2.2.2.2.2.2.2.2.2.2.2.2.2.2.2.2.2.2.2.2.2.2.2.2.2.2.2.2.2.2.2.2.2.2.2.2.2.2.fst), .string (y1.2.2.2.2.2.2.2.2.2.2.2.2.2.2.2.2.2.2.2.2.2.2.2.2.2.2.2.2.2.2.2.2.2.2.2.2.2.2.2.2.2.2.2.2.2.2.2.2.2.2.2.2.2.2.2.2.2.2.2.2.2.2.2.2.2.2.2.2.2.2.2.2.fst), .string (y1.2.2.2.2.2.2.2.2.2.2.2.2.2.2.2.2.2.2.2.2.2.2.2.2.2.2.2.2.2.2.2.2.2.2.2.2.2.2.2.2.2.2.2.2.2.2.2.2.2.2.2.2.2.2.2.2.2.2.2.2.2.2.2.2.2.2.2.2.2.2.2.2.2.fst), .int .i64 (y1.2.2.2.2.2.2.2.2.2.2.2.2.2.2.2.2.2.2.2.2.2.2.2.2.2.2.2.2.2.2.2.2.2.2.2.2.2.2.2.2.2.2.2.2.2.2.2.2.2.2.2.2.2.2.2.2.2.2.2.2.2.2.2.2.2.2.2.2.2.2.2.2.2.2.fst), .int .i64 (y1.2.2.2.2.2.2.2.2.2.2.2.2.2.2.2.2.2.2.2.2.2.2.2.2.2.2.2.2.2.2.2.2.2.2.2.2.2.2.2.2.2.2.2.2.2.2.2.2.2.2.2.2.2.2.2.2.2.2.2.2.2.2.2.2.2.2.2.2.2.2.2.2.2.2.2.fst), .string (y1.2.2.2.2.2.2.2.2.2.2.2.2.2.2.2.2.2.2.2.2.2.2.2.2.2.2.2.2.2.2.2.2.2.2.2.2.2.2.2.2.2.2.2.2.2.2.2.2.2.2.2.2.2.2.2.2.2.2.2.2.2.2.2.2.2.2.2.2.2.2.2.2.2.2.2.2.fst), .string (y1.2.2.2.2.2.2.2.2.2.2.2.2.2.2.2.2.2.2.2.2.2.2.2.2.2.2.2.2.2.2.2.2.2.2.2.2.2.2.2.2.2.2.2.2.2.2.2.2.2.2.2.2.2.2.2.2.2.2.2.2.2.2.2.2.2.2.2.2.2.2.2.2.2.2.2.2.2.fst), .int .i64 (y1.2.2.2.2.2.2.2.2.2.2.2.2.2.2.2.2.2.2.2.2.2.2.2.2.2.2.2.2.2.2.2.2.2.2.2.2.2.2.2.2.2.2.2.2.2.2.2.2.2.2.2.2.2.2.2.2.2.2.2.2.2.2.2.2.2.2.2.2.2.2.2.2.2.2.2.2.2.2.fst), .int .i64 (y1.2.2.2.2.2.2.2.2.2.2.2.2.2.2.2.2.2.2.2.2.2.2.2.2.2.2.2.2.2.2.2.2.2.2.2.2.2.2.2.2.2.2.2.2.2.2.2.2.2.2.2.2.2.2.2.2.2.2.2.2.2.2.2.2.2.2.2.2.2.2.2.2.2.2.2.2.2.2.2.fst)] (Int.toNat y2.fst * (4 : Nat)) (.g [.s, .s, .i .i64, .i .i64]) fun y3 =>
    .br (ByteArray.toList y3.fst == x0.toList) (
      .ret [Sh1.val (.g [.s, .s, .i .i64, .i .i64]) (y3), .bool (true)]) <|
    .nx 0 [.v (.int .i64 (Go.IntKind.i64.wrap (y2.fst + (1 : Int)))), .v (.string (y2.2.fst)), .v (.string (y2.2.2.fst)), .v (.int .i64 (y2.2.2.2.fst)), .v (.int .i64 (y2.2.2.2.2.fst))]) <|
  .ret [Sh1.val (.g [.s, .s, .i .i64, .i .i64]) (({ data := { toList := [] : Array UInt8 } : ByteArray }), ({ data := { toList := [] : Array UInt8 } : ByteArray }), (((0 : Int)) : Int), (((0 : Int)) : Int), ()), .bool (false)]
theorem fI_currencyOf (x0 : ByteArray) : fits Tryd.prog aI_currencyOf 52 [.string (x0)] (tI_currencyOf x0) :=
  ⟨Tryd.f52, Tryd.f52.body.getD .skip, by kernel_rfl, by kernel_rfl, by kernel_rfl, by kernel_rfl, by kernel_rfl, by kernel_rfl⟩
/-! loop.example/g00793/laws.eqAcctS -/
def aL_eqAcctS : An := ⟨[(4, [.s 5], [.o (.o (.i .i64))])], [], []⟩
noncomputable def tL_eqAcctS (x0 : SlV) (x1 : SlV) : T :=
  .br ((↑x0.n : Int) != (↑x1.n : Int)) (
    .ret [.bool (false)]) <|
  .lp [.o (.o (.i .i64))] [.v (.int .i64 ((0 : Int)))] fun y1 =>
  .br (decide (y1.fst < (↑x0.n : Int))) (
    .rg <|
    .el (x0.a) (x0.n) (y1.fst) fun y2 =>
    .ld true (y2.add (Int.toNat y1.fst * (4 : Nat))) (.g [.s, .s, .b, .l]) fun y3 =>
    .el (x1.a) (x1.n) (y1.fst) fun y4 =>
    .ld true (y4.add (Int.toNat y1.fst * (4 : Nat))) (.g [.s, .s, .b, .l]) fun y5 =>
    .call true 69 [Sh1.val (.g [.s, .s, .b, .l]) (y3), Sh1.val (.g [.s, .s, .b, .l]) (y5)] (.v (.o (.b))) fun y6 =>
    .br (!y6) (
      .ret [.bool (false)]) <|
    .nx 0 [.v (.int .i64 (Go.IntKind.i64.wrap (y1.fst + (1 : Int))))]) <|
  .ret [.bool (true)]
theorem fL_eqAcctS (x0 : SlV) (x1 : SlV) : fits Tryd.prog aL_eqAcctS 53 [Sc.val .l (x0), Sc.val .l (x1)] (tL_eqAcctS x0 x1) :=
  ⟨Tryd.f53, Tryd.f53.body.getD .skip, by kernel_rfl, by kernel_rfl, by kernel_rfl, by kernel_rfl, by kernel_rfl, by kernel_rfl⟩
/-! loop.example/g00793/laws.eqRest -/
def aL_eqRest : An := ⟨[], [], []⟩
noncomputable def tL_eqRest (x0 : ByteArray × Bool × SlV × SlV × PUnit) (x1 : ByteArray × Bool × SlV × SlV × PUnit) : T :=
  .br (!ByteArray.toList x0.fst == ByteArray.toList x1.fst) (
    .ret [.bool (false)]) <|
  .call false 70 [Sh1.val (.g [.b, .l, .l]) (x0.2), Sh1.val (.g [.b, .l, .l]) (x1.2)] (.v (.o (.b))) fun y1 =>
  .br (!y1) (
    .ret [.bool (false)]) <|
  .ret [.bool (true)]
theorem fL_eqRest (x0 : ByteArray × Bool × SlV × SlV × PUnit) (x1 : ByteArray × Bool × SlV × SlV × PUnit) : fits Tryd.prog aL_eqRest 54 [Sh1.val (.g [.s, .b, .l, .l]) (x0), Sh1.val (.g [.s, .b, .l, .l]) (x1)] (tL_eqRest x0 x1) :=
  ⟨Tryd.f54, Tryd.f54.body.getD .skip, by kernel_rfl, by kernel_rfl, by kernel_rfl, by kernel_rfl, by kernel_rfl, by kernel_rfl⟩
/-! loop.example/g00793/laws.eqRateS -/
def aL_eqRateS : An := ⟨[(4, [.s 5], [.o (.o (.i .i64))])], [], []⟩
noncomputable def tL_eqRateS (x0 : SlV) (x1 : SlV) : T :=
  .br ((↑x0.n : Int) != (↑x1.n : Int)) (
    .ret [.bool (false)]) <|
  .lp [.o (.o (.i .i64))] [.v (.int .i64 ((0 : Int)))] fun y1 =>
  .br (decide (y1.fst < (↑x0.n : Int))) (
    .rg <|
    .el (x0.a) (x0.n) (y1.fst) fun y2 =>
    .ld true (y2.add (Int.toNat y1.fst * (5 : Nat))) (.g [.s, .s, .b, .l, .i .i64]) fun y3 =>
    .el (x1.a) (x1.n) (y1.fst) fun y4 =>
    .ld true (y4.add (Int.toNat y1.fst * (5 : Nat))) (.g [.s, .s, .b, .l, .i .i64]) fun y5 =>
    .call true 71 [Sh1.val (.g [.s, .s, .b, .l, .i .i64]) (y3), Sh1.val (.g [.s, .s, .b, .l, .i .i64]) (y5)] (.v (.o (.b))) fun y6 =>
    .br (!y6) (
      .ret [.bool (false)]) <|
    .nx 0 [.v (.int .i64 (Go.IntKind.i64.wrap (y1.fst + (1 : Int))))]) <|
  .ret [.bool (true)]
theorem fL_eqRateS (x0 : SlV) (x1 : SlV) : fits Tryd.prog aL_eqRateS 55 [Sc.val .l (x0), Sc.val .l (x1)] (tL_eqRateS x0 x1) :=
  ⟨Tryd.f55, Tryd.f55.body.getD .skip, by kernel_rfl, by kernel_rfl, by kernel_rfl, by kernel_rfl, by kernel_rfl, by kernel_rfl⟩
/-! loop.example/g00793/laws.markAcctS -/
def aL_markAcctS : An := ⟨[(2, [.s 1, .s 5], [.o (.o (.i .i64)), .o (.o (.i .i64))])], [], []⟩
noncomputable def tL_markAcctS (x0 : SlV) (x1 : Int) : T :=
  .lp [.o (.o (.i .i64)), .o (.o (.i .i64))] [.v (.int .i64 (x1)), .v (.int .i64 ((0 : Int)))] fun y1 =>
  .br (decide (y1.2.fst < (↑x0.n : Int))) (
    .call false 44 [.int .i64 (y1.fst)] (.v (.o (.s))) fun y2 =>
    .el (x0.a) (x0.n) (y1.2.fst) fun y3 =>
    .st ((y3.add (Int.toNat y1.2.fst * (4 : Nat))).add (0 : Nat)) [.string (y2)] <|
    .call false 44 [.int .i64 (Go.IntKind.i64.wrap (y1.fst + (1 : Int)))] (.v (.o (.s))) fun y4 =>
    .el (x0.a) (x0.n) (y1.2.fst) fun y5 =>
    .st (((y5.add (Int.toNat y1.2.fst * (4 : Nat))).add (1 : Nat)).add (0 : Nat)) [.string (y4)] <|
    .rq ((3 : Int) ≠ (0 : Int)) <|
    .el (x0.a) (x0.n) (y1.2.fst) fun y6 =>
    .st ((((y6.add (Int.toNat y1.2.fst * (4 : Nat))).add (1 : Nat)).add (1 : Nat)).add (0 : Nat)) [.bool ((Go.IntKind.i64.wrap (Go.IntKind.i64.wrap (y1.fst + (1 : Int)) + (1 : Int))).tmod (3 : Int) == (0 : Int))] <|
    .el (x0.a) (x0.n) (y1.2.fst) fun y7 =>
    .ld false ((((y7.add (Int.toNat y1.2.fst * (4 : Nat))).add (1 : Nat)).add (1 : Nat)).add (1 : Nat)) (.o (.l)) fun y8 =>
    .call false 45 [Sc.val .l (y8), .int .i64 (Go.IntKind.i64.wrap (Go.IntKind.i64.wrap (Go.IntKind.i64.wrap (y1.fst + (1 : Int)) + (1 : Int)) + (1 : Int)))] (.v (.o (.i .i64))) fun y9 =>
    .nx 0 [.v (.int .i64 (y9)), .v (.int .i64 (Go.IntKind.i64.wrap (y1.2.fst + (1 : Int))))]) <|
  .ret [.int .i64 (y1.fst)]
theorem fL_markAcctS (x0 : SlV) (x1 : Int) : fits Tryd.prog aL_markAcctS 56 [Sc.val .l (x0), .int .i64 (x1)] (tL_markAcctS x0 x1) :=
  ⟨Tryd.f56, Tryd.f56.body.getD .skip, by kernel_rfl, by kernel_rfl, by kernel_rfl, by kernel_rfl, by kernel_rfl, by kernel_rfl⟩
/-! loop.example/g00793/laws.markRateS -/
def aL_markRateS : An := ⟨[(2, [.s 1, .s 5], [.o (.o (.i .i64)), .o (.o (.i .i64))])], [], []⟩
noncomputable def tL_markRateS (x0 : SlV) (x1 : Int) : T :=
  .lp [.o (.o (.i .i64)), .o (.o (.i .i64))] [.v (.int .i64 (x1)), .v (.int .i64 ((0 : Int)))] fun y1 =>
  .br (decide (y1.2.fst < (↑x0.n : Int))) (
    .call false 44 [.int .i64 (y1.fst)] (.v (.o (.s))) fun y2 =>
    .el (x0.a) (x0.n) (y1.2.fst) fun y3 =>
    .st ((y3.add (Int.toNat y1.2.fst * (5 : Nat))).add (0 : Nat)) [.string (y2)] <|
    .call false 44 [.int .i64 (Go.IntKind.i64.wrap (y1.fst + (1 : Int)))] (.v (.o (.s))) fun y4 =>
    .el (x0.a) (x0.n) (y1.2.fst) fun y5 =>
    .st ((y5.add (Int.toNat y1.2.fst * (5 : Nat))).add (1 : Nat)) [.string (y4)] <|
    .rq ((3 : Int) ≠ (0 : Int)) <|
    .el (x0.a) (x0.n) (y1.2.fst) fun y6 =>
    .st ((((y6.add (Int.toNat y1.2.fst * (5 : Nat))).add (2 : Nat)).add (0 : Nat)).add (0 : Nat)) [.bool ((Go.IntKind.i64.wrap (Go.IntKind.i64.wrap (y1.fst + (1 : Int)) + (1 : Int))).tmod (3 : Int) == (0 : Int))] <|
    .el (x0.a) (x0.n) (y1.2.fst) fun y7 =>
    .ld false ((((y7.add (Int.toNat y1.2.fst * (5 : Nat))).add (2 : Nat)).add (0 : Nat)).add (1 : Nat)) (.o (.l)) fun y8 =>
    .call false 45 [Sc.val .l (y8), .int .i64 (Go.IntKind.i64.wrap (Go.IntKind.i64.wrap (Go.IntKind.i64.wrap (y1.fst + (1 : Int)) + (1 : Int)) + (1 : Int)))] (.v (.o (.i .i64))) fun y9 =>
    .el (x0.a) (x0.n) (y1.2.fst) fun y10 =>
    .st (((y10.add (Int.toNat y1.2.fst * (5 : Nat))).add (2 : Nat)).add (2 : Nat)) [.int .i64 (y9)] <|
    .nx 0 [.v (.int .i64 (Go.IntKind.i64.wrap (y9 + (1 : Int)))), .v (.int .i64 (Go.IntKind.i64.wrap (y1.2.fst + (1 : Int))))]) <|
  .ret [.int .i64 (y1.fst)]
theorem fL_markRateS (x0 : SlV) (x1 : Int) : fits Tryd.prog aL_markRateS 57 [Sc.val .l (x0), .int .i64 (x1)] (tL_markRateS x0 x1) :=
  ⟨Tryd.f57, Tryd.f57.body.getD .skip, by kernel_rfl, by kernel_rfl, by kernel_rfl, by kernel_rfl, by kernel_rfl, by kernel_rfl⟩
/-! loop.example/g00793/laws.heldAcctS -/
def aL_heldAcctS : An := ⟨[(2, [.s 1, .s 5], [.o (.o (.i .i64)), .o (.o (.i .i64))])], [], []⟩
noncomputable def tL_heldAcctS (x0 : SlV) (x1 : Int) : T :=
  .lp [.o (.o (.i .i64)), .o (.o (.i .i64))] [.v (.int .i64 (x1)), .v (.int .i64 ((0 : Int)))] fun y1 =>
  .br (decide (y1.2.fst < (↑x0.n : Int))) (
    .rg <|
    .el (x0.a) (x0.n) (y1.2.fst) fun y2 =>
    .ld true ((y2.add (Int.toNat y1.2.fst * (4 : Nat))).add (0 : Nat)) (.o (.s)) fun y3 =>
    .call true 44 [.int .i64 (y1.fst)] (.v (.o (.s))) fun y4 =>
    .br (!y3.toList == y4.toList) (
      .ret [.int .i64 ((-1 : Int))]) <|
    .rg <|
    .el (x0.a) (x0.n) (y1.2.fst) fun y5 =>
    .ld true (((y5.add (Int.toNat y1.2.fst * (4 : Nat))).add (1 : Nat)).add (0 : Nat)) (.o (.s)) fun y6 =>
    .call true 44 [.int .i64 (Go.IntKind.i64.wrap (y1.fst + (1 : Int)))] (.v (.o (.s))) fun y7 =>
    .br (!y6.toList == y7.toList) (
      .ret [.int .i64 ((-1 : Int))]) <|
    .el (x0.a) (x0.n) (y1.2.fst) fun y8 =>
    .ld false ((((y8.add (Int.toNat y1.2.fst * (4 : Nat))).add (1 : Nat)).add (1 : Nat)).add (0 : Nat)) (.o (.b)) fun y9 =>
    .rq ((3 : Int) ≠ (0 : Int)) <|
    .br (!y9 == ((Go.IntKind.i64.wrap (Go.IntKind.i64.wrap (y1.fst + (1 : Int)) + (1 : Int))).tmod (3 : Int) == (0 : Int))) (
      .ret [.int .i64 ((-1 : Int))]) <|
    .el (x0.a) (x0.n) (y1.2.fst) fun y10 =>
    .ld false ((((y10.add (Int.toNat y1.2.fst * (4 : Nat))).add (1 : Nat)).add (1 : Nat)).add (1 : Nat)) (.o (.l)) fun y11 =>
    .call false 59 [Sc.val .l (y11), .int .i64 (Go.IntKind.i64.wrap (Go.IntKind.i64.wrap (Go.IntKind.i64.wrap (y1.fst + (1 : Int)) + (1 : Int)) + (1 : Int)))] (.v (.o (.i .i64))) fun y12 =>
    .br (decide (y12 < (0 : Int))) (
      .ret [.int .i64 ((-1 : Int))]) <|
    .nx 0 [.v (.int .i64 (y12)), .v (.int .i64 (Go.IntKind.i64.wrap (y1.2.fst + (1 : Int))))]) <|
  .ret [.int .i64 (y1.fst)]
theorem fL_heldAcctS (x0 : SlV) (x1 : Int) : fits Tryd.prog aL_heldAcctS 58 [Sc.val .l (x0), .int .i64 (x1)] (tL_heldAcctS x0 x1) :=
  ⟨Tryd.f58, Tryd.f58.body.getD .skip, by kernel_rfl, by kernel_rfl, by kernel_rfl, by kernel_rfl, by kernel_rfl, by kernel_rfl⟩
/-! loop.example/g00793/laws.heldIntS -/
def aL_heldIntS : An := ⟨[(2, [.s 1, .s 5], [.o (.o (.i .i64)), .o (.o (.i .i64))])], [], []⟩
noncomputable def tL_heldIntS (x0 : SlV) (x1 : Int) : T :=
  .lp [.o (.o (.i .i64)), .o (.o (.i .i64))] [.v (.int .i64 (x1)), .v (.int .i64 ((0 : Int)))] fun y1 =>
  .br (decide (y1.2.fst < (↑x0.n : Int))) (
    .el (x0.a) (x0.n) (y1.2.fst) fun y2 =>
    .ld false (y2.add (Int.toNat y1.2.fst * (1 : Nat))) (.o (.i .i64)) fun y3 =>
    .br (y3 != y1.fst) (
      .ret [.int .i64 ((-1 : Int))]) <|
    .nx 0 [.v (.int .i64 (Go.IntKind.i64.wrap (y1.fst + (1 : Int)))), .v (.int .i64 (Go.IntKind.i64.wrap (y1.2.fst + (1 : Int))))]) <|
  .ret [.int .i64 (y1.fst)]
theorem fL_heldIntS (x0 : SlV) (x1 : Int) : fits Tryd.prog aL_heldIntS 59 [Sc.val .l (x0), .int .i64 (x1)] (tL_heldIntS x0 x1) :=
  ⟨Tryd.f59, Tryd.f59.body.getD .skip, by kernel_rfl, by kernel_rfl, by kernel_rfl, by kernel_rfl, by kernel_rfl, by kernel_rfl⟩
/-! loop.example/g00793/laws.heldRateS -/
def aL_heldRateS : An := ⟨[(2, [.s 1, .s 5], [.o (.o (.i .i64)), .o (.o (.i .i64))])], [], []⟩
noncomputable def tL_heldRateS (x0 : SlV) (x1 : Int) : T :=
  .lp [.o (.o (.i .i64)), .o (.o (.i .i64))] [.v (.int .i64 (x1)), .v (.int .i64 ((0 : Int)))] fun y1 =>
  .br (decide (y1.2.fst < (↑x0.n : Int))) (
    .rg <|
    .el (x0.a) (x0.n) (y1.2.fst) fun y2 =>
    .ld true ((y2.add (Int.toNat y1.2.fst * (5 : Nat))).add (0 : Nat)) (.o (.s)) fun y3 =>
    .call true 44 [.int .i64 (y1.fst)] (.v (.o (.s))) fun y4 =>
    .br (!y3.toList == y4.toList) (
      .ret [.int .i64 ((-1 : Int))]) <|
    .rg <|
    .el (x0.a) (x0.n) (y1.2.fst) fun y5 =>
    .ld true ((y5.add (Int.toNat y1.2.fst * (5 : Nat))).add (1 : Nat)) (.o (.s)) fun y6 =>
    .call true 44 [.int .i64 (Go.IntKind.i64.wrap (y1.fst + (1 : Int)))] (.v (.o (.s))) fun y7 =>
    .br (!y6.toList == y7.toList) (
      .ret [.int .i64 ((-1 : Int))]) <|
    .el (x0.a) (x0.n) (y1.2.fst) fun y8 =>
    .ld false ((((y8.add (Int.toNat y1.2.fst * (5 : Nat))).add (2 : Nat)).add (0 : Nat)).add (0 : Nat)) (.o (.b)) fun y9 =>
    .rq ((3 : Int) ≠ (0 : Int)) <|
    .br (!y9 == ((Go.IntKind.i64.wrap (Go.IntKind.i64.wrap (y1.fst + (1 : Int)) + (1 : Int))).tmod (3 : Int) == (0 : Int))) (
      .ret [.int .i64 ((-1 : Int))]) <|
    .el (x0.a) (x0.n) (y1.2.fst) fun y10 =>
    .ld false ((((y10.add (Int.toNat y1.2.fst * (5 : Nat))).add (2 : Nat)).add (0 : Nat)).add (1 : Nat)) (.o (.l)) fun y11 =>
    .call false 59 [Sc.val .l (y11), .int .i64 (Go.IntKind.i64.wrap (Go.IntKind.i64.wrap (Go.IntKind.i64.wrap (y1.fst + (1 : Int)) + (1 : Int)) + (1 : Int)))] (.v (.o (.i .i64))) fun y12 =>
    .br (decide (y12 < (0 : Int))) (
      .ret [.int .i64 ((-1 : Int))]) <|
    .el (x0.a) (x0.n) (y1.2.fst) fun y13 =>
    .ld false (((y13.add (Int.toNat y1.2.fst * (5 : Nat))).add (2 : Nat)).add (2 : Nat)) (.o (.i .i64)) fun y14 =>
    .br (y14 != y12) (
      .ret [.int .i64 ((-1 : Int))]) <|
    .nx 0 [.v (.int .i64 (Go.IntKind.i64.wrap (y12 + (1 : Int)))), .v (.int .i64 (Go.IntKind.i64.wrap (y1.2.fst + (1 : Int))))]) <|
  .ret [.int .i64 (y1.fst)]
theorem fL_heldRateS (x0 : SlV) (x1 : Int) : fits Tryd.prog aL_heldRateS 60 [Sc.val .l (x0), .int .i64 (x1)] (tL_heldRateS x0 x1) :=
  ⟨Tryd.f60, Tryd.f60.body.getD .skip, by kernel_rfl, by kernel_rfl, by kernel_rfl, by kernel_rfl, by kernel_rfl, by kernel_rfl⟩
/-! loop.example/g00793/laws.szSigned -/
def aL_szSigned : An := ⟨[], [], []⟩
noncomputable def tL_szSigned (x0 : Bool × SlV × PUnit) (x1 : Int) : T :=
  .call false 72 [Sc.val .l (x0.2.1), .int .i64 (x1)] (.v (.o (.i .i64))) fun y1 =>
  .br (decide (y1 < (0 : Int))) (
    .ret [.int .i64 ((-1 : Int))]) <|
  .ret [.int .i64 (y1)]
theorem fL_szSigned (x0 : Bool × SlV × PUnit) (x1 : Int) : fits Tryd.prog aL_szSigned 61 [Sh1.val (.g [.b, .l]) (x0), .int .i64 (x1)] (tL_szSigned x0 x1) :=
  ⟨Tryd.f61, Tryd.f61.body.getD .skip, by kernel_rfl, by kernel_rfl, by kernel_rfl, by kernel_rfl, by kernel_rfl, by kernel_rfl⟩
/-! loop.example/g00793/spec.MoneyCmp -/
def aS_MoneyCmp : An := ⟨[], [], []⟩
noncomputable def tS_MoneyCmp (x0 : ByteArray × Bool × SlV × PUnit) (x1 : ByteArray × Bool × SlV × PUnit) : T :=
  .call false 73 [Sh1.val (.g [.s, .b, .l]) (x0), Sh1.val (.g [.s, .b, .l]) (x1)] (.v (.o (.b))) fun y1 =>
  .br (!y1) (
    .ret [.int .i64 ((0 : Int)), .bool (false)]) <|
  .call false 74 [Sh1.val (.g [.b, .l]) (x0.2), Sh1.val (.g [.b, .l]) (x1.2)] (.v (.o (.i .i64))) fun y2 =>
  .ret [.int .i64 (y2), .bool (true)]
theorem fS_MoneyCmp (x0 : ByteArray × Bool × SlV × PUnit) (x1 : ByteArray × Bool × SlV × PUnit) : fits Tryd.prog aS_MoneyCmp 62 [Sh1.val (.g [.s, .b, .l]) (x0), Sh1.val (.g [.s, .b, .l]) (x1)] (tS_MoneyCmp x0 x1) :=
  ⟨Tryd.f62, Tryd.f62.body.getD .skip, by kernel_rfl, by kernel_rfl, by kernel_rfl, by kernel_rfl, by kernel_rfl, by kernel_rfl⟩
/-! loop.example/g00793/spec.l17Money -/
def aS_l17Money : An := ⟨[], [], []⟩
noncomputable def tS_l17Money (x0 : ByteArray × Bool × SlV × PUnit) : T :=
  .rg <|
  .es [] 3 fun b1 =>
  .ra ({ a := x0.2.2.1.a, n := x0.2.2.1.n, c := x0.2.2.1.c : SlV }) ((1 : Nat)) fun y2 =>
  .rq (one y2 = true ∧ x0.2.2.1.n * (8 : Nat) ≤ (140737488355328 : Nat) ∧ x0.2.2.1.n ≤ (9223372036854775807 : Nat)) <|
  .br (decide (x0.2.2.1.n = (0 : Nat))) (
    .ret [Sh1.val (.g [.s, .b, .l]) ((x0.fst), (x0.2.fst), (⟨(some { block := b1, off := (0 : Nat) : Go.Addr }), ((0 : Nat)), ((0 : Nat))⟩ : SlV), ())]) <|
  .fz (x0.2.2.1.n) (y2) 3 fun b3 c3 =>
  .ret [Sh1.val (.g [.s, .b, .l]) ((x0.fst), (x0.2.fst), (⟨(some { block := b3, off := (0 : Nat) : Go.Addr }), (x0.2.2.1.n), (c3)⟩ : SlV), ())]
theorem fS_l17Money (x0 : ByteArray × Bool × SlV × PUnit) : fits Tryd.prog aS_l17Money 63 [Sh1.val (.g [.s, .b, .l]) (x0)] (tS_l17Money x0) :=
  ⟨Tryd.f63, Tryd.f63.body.getD .skip, by kernel_rfl, by kernel_rfl, by kernel_rfl, by kernel_rfl, by kernel_rfl, by kernel_rfl⟩
/-! loop.example/g00793/laws.toSigned -/
def aL_toSigned : An := ⟨[], [], []⟩
noncomputable def tL_toSigned (x0 : Bool × SlV × PUnit) : T :=
  .call false 75 [Sc.val .l (x0.2.1)] (.v (.o (.l))) fun y1 =>
  .ret [Sh1.val (.g [.b, .l]) ((x0.fst), y1, ())]
theorem fL_toSigned (x0 : Bool × SlV × PUnit) : fits Tryd.prog aL_toSigned 64 [Sh1.val (.g [.b, .l]) (x0)] (tL_toSigned x0) :=
  ⟨Tryd.f64, Tryd.f64.body.getD .skip, by kernel_rfl, by kernel_rfl, by kernel_rfl, by kernel_rfl, by kernel_rfl, by kernel_rfl⟩
/-! loop.example/g00793/impl.MoneyCmp -/
def aI_MoneyCmp : An := ⟨[], [], []⟩
noncomputable def tI_MoneyCmp (x0 : ByteArray × Bool × SlV × PUnit) (x1 : ByteArray × Bool × SlV × PUnit) : T :=
  .call false 76 [Sh1.val (.g [.s, .b, .l]) (x0), Sh1.val (.g [.s, .b, .l]) (x1)] (.v (.o (.b))) fun y1 =>
  .br (!y1) (
    .ret [.int .i64 ((0 : Int)), .bool (false)]) <|
  .call false 77 [Sh1.val (.g [.b, .l]) (x0.2), Sh1.val (.g [.b, .l]) (x1.2)] (.v (.o (.i .i64))) fun y2 =>
  .ret [.int .i64 (y2), .bool (true)]
theorem fI_MoneyCmp (x0 : ByteArray × Bool × SlV × PUnit) (x1 : ByteArray × Bool × SlV × PUnit) : fits Tryd.prog aI_MoneyCmp 65 [Sh1.val (.g [.s, .b, .l]) (x0), Sh1.val (.g [.s, .b, .l]) (x1)] (tI_MoneyCmp x0 x1) :=
  ⟨Tryd.f65, Tryd.f65.body.getD .skip, by kernel_rfl, by kernel_rfl, by kernel_rfl, by kernel_rfl, by kernel_rfl, by kernel_rfl⟩
/-! loop.example/g00793/impl.moneyCopy -/
def aI_moneyCopy : An := ⟨[], [], [(3, [.s 3])]⟩
noncomputable def tI_moneyCopy (x0 : ByteArray × Bool × SlV × PUnit) : T :=
  .rq ((0 : Int) ≤ (↑x0.2.2.1.n : Int) ∧ (↑x0.2.2.1.n : Int) ≤ (↑x0.2.2.1.n : Int) ∧ (↑(8 : Nat) : Int) * (↑x0.2.2.1.n : Int) ≤ (281474976710656 : Int) ∧ (↑x0.2.2.1.n : Int) ≤ (9223372036854775807 : Int)) <|
  .rd ({ a := x0.2.2.1.a, n := x0.2.2.1.n, c := x0.2.2.1.c : SlV }) ((1 : Nat)) fun y1 =>
  .rq (one y1 = true) <|
  .fz ((↑x0.2.2.1.n : Int).toNat) (setl (Go.madeCells { toList := [Go.Value.int Go.IntKind.i64 (0 : Int)] : Array Go.Value } ((↑x0.2.2.1.n : Int).toNat * (1 : Nat))).toList (0 : Nat) (List.take (x0.2.2.1.n.min (↑x0.2.2.1.n : Int).toNat) y1)) 3 fun b2 c2 =>
  .rg <|
  .rq ((0 : Int) ≤ (0 : Int) ∧ (0 : Int) ≤ (↑(↑x0.2.2.1.n : Int).toNat : Int) ∧ (↑(↑x0.2.2.1.n : Int).toNat : Int) ≤ (↑(↑x0.2.2.1.n : Int).toNat : Int) ∧ (↑(↑x0.2.2.1.n : Int).toNat : Int) ≤ (↑c2 : Int)) <|
  .ret [Sh1.val (.g [.s, .b, .l]) ((x0.fst), (x0.2.fst), (⟨(if (↑(↑x0.2.2.1.n : Int).toNat : Int).toNat = Int.toNat (0 : Int) then some { block := b2, off := (0 : Nat) : Go.Addr } else Option.map (fun x => x.add (Int.toNat (0 : Int) * Go.Proofs.Tryd.prog.types[(3 : Nat)].size)) (some { block := b2, off := (0 : Nat) : Go.Addr })), ((↑(↑x0.2.2.1.n : Int).toNat : Int).toNat - Int.toNat (0 : Int)), ((↑(↑x0.2.2.1.n : Int).toNat : Int).toNat - Int.toNat (0 : Int))⟩ : SlV), ())]
theorem fI_moneyCopy (x0 : ByteArray × Bool × SlV × PUnit) : fits Tryd.prog aI_moneyCopy 66 [Sh1.val (.g [.s, .b, .l]) (x0)] (tI_moneyCopy x0) :=
  ⟨Tryd.f66, Tryd.f66.body.getD .skip, by kernel_rfl, by kernel_rfl, by kernel_rfl, by kernel_rfl, by kernel_rfl, by kernel_rfl⟩
/-! loop.example/g00793/laws.eqIntS -/
def aL_eqIntS : An := ⟨[(4, [.s 5], [.o (.o (.i .i64))])], [], []⟩
noncomputable def tL_eqIntS (x0 : SlV) (x1 : SlV) : T :=
  .br ((↑x0.n : Int) != (↑x1.n : Int)) (
    .ret [.bool (false)]) <|
  .lp [.o (.o (.i .i64))] [.v (.int .i64 ((0 : Int)))] fun y1 =>
  .br (decide (y1.fst < (↑x0.n : Int))) (
    .rg <|
    .el (x0.a) (x0.n) (y1.fst) fun y2 =>
    .ld true (y2.add (Int.toNat y1.fst * (1 : Nat))) (.o (.i .i64)) fun y3 =>
    .el (x1.a) (x1.n) (y1.fst) fun y4 =>
    .ld true (y4.add (Int.toNat y1.fst * (1 : Nat))) (.o (.i .i64)) fun y5 =>
    .br (y3 != y5) (
      .ret [.bool (false)]) <|
    .nx 0 [.v (.int .i64 (Go.IntKind.i64.wrap (y1.fst + (1 : Int))))]) <|
  .ret [.bool (true)]
theorem fL_eqIntS (x0 : SlV) (x1 : SlV) : fits Tryd.prog aL_eqIntS 67 [Sc.val .l (x0), Sc.val .l (x1)] (tL_eqIntS x0 x1) :=
  ⟨Tryd.f67, Tryd.f67.body.getD .skip, by kernel_rfl, by kernel_rfl, by kernel_rfl, by kernel_rfl, by kernel_rfl, by kernel_rfl⟩
/-! loop.example/g00793/spec.l08Table -/
def aS_l08Table : An := ⟨[], [], []⟩
noncomputable def tS_l08Table  : T :=
  .fz ((20 : Nat)) [.string ({ data := { toList := [(65 : UInt8), (85 : UInt8), (68 : UInt8)] : Array UInt8 } : ByteArray }), .string ({ data := { toList := [(48 : UInt8), (51 : UInt8), (54 : UInt8)] : Array UInt8 } : ByteArray }), .int .i64 ((2 : Int)), .int .i64 ((5 : Int)), .string ({ data := { toList := [(66 : UInt8), (72 : UInt8), (68 : UInt8)] : Array UInt8 } : ByteArray }), .string ({ data := { toList := [(48 : UInt8), (52 : UInt8), (56 : UInt8)] : Array UInt8 } : ByteArray }), .int .i64 ((3 : Int)), .int .i64 ((5 : Int)), .string ({ data := { toList := [(67 : UInt8), (65 : UInt8), (68 : UInt8)] : Array UInt8 } : ByteArray }), .string ({ data := { toList := [(49 : UInt8), (50 : UInt8), (52 : UInt8)] : Array UInt8 } : ByteArray }), .int .i64 ((2 : Int)), .int .i64 ((5 : Int)), .string ({ data := { toList := [(67 : UInt8), (72 : UInt8), (70 : UInt8)] : Array UInt8 } : ByteArray }), .string ({ data := { toList := [(55 : UInt8), (53 : UInt8), (54 : UInt8)] : Array UInt8 } : ByteArray }), .int .i64 ((2 : Int)), .int .i64 ((5 : Int)), .string ({ data := { toList := [(67 : UInt8), (76 : UInt8), (70 : UInt8)] : Array UInt8 } : ByteArray }), .string ({ data := { toList := [(57 : UInt8), (57 : UInt8), (48 : UInt8)] : Array UInt8 } : ByteArray }), .int .i64 ((4 : Int)), .int .i64 ((1 : Int)), .string ({ data := { toList := [(67 : UInt8), (90 : UInt8), (75 : UInt8)] : Array UInt8 } : ByteArray }), .string ({ data := { toList := [(50 : UInt8), (48 : UInt8), (51 : UInt8)] : Array UInt8 } : ByteArray }), .int .i64 ((2 : Int)), .int .i64 ((100 : Int)), .string ({ data := { toList := [(68 : UInt8), (75 : UInt8), (75 : UInt8)] : Array UInt8 } : ByteArray }), .string ({ data := { toList := [(50 : UInt8), (48 : UInt8), (56 : UInt8)] : Array UInt8 } : ByteArray }), .int .i64 ((2 : Int)), .int .i64 ((50 : Int)), .string ({ data := { toList := [(69 : UInt8), (85 : UInt8), (82 : UInt8)] : Array UInt8 } : ByteArray }), .string ({ data := { toList := [(57 : UInt8), (55 : UInt8), (56 : UInt8)] : Array UInt8 } : ByteArray }), .int .i64 ((2 : Int)), .int .i64 ((1 : Int)), .string ({ data := { toList := [(71 : UInt8), (66 : UInt8), (80 : UInt8)] : Array UInt8 } : ByteArray }), .string ({ data := { toList := [(56 : UInt8), (50 : UInt8), (54 : UInt8)] : Array UInt8 } : ByteArray }), .int .i64 ((2 : Int)), .int .i64 ((1 : Int)), .string ({ data := { toList := [(72 : UInt8), (85 : UInt8), (70 : UInt8)] : Array UInt8 } : ByteArray }), .string ({ data := { toList := [(51 : UInt8), (52 : UInt8), (56 : UInt8)] : Array UInt8 } : ByteArray }), .int .i64 ((2 : Int)), .int .i64 ((500 : Int)), .string ({ data := { toList := [(73 : UInt8), (83 : UInt8), (75 : UInt8)] : Array UInt8 } : ByteArray }), .string ({ data := { toList := [(51 : UInt8), (53 : UInt8), (50 : UInt8)] : Array UInt8 } : ByteArray }), .int .i64 ((0 : Int)), .int .i64 ((1 : Int)), .string ({ data := { toList := [(74 : UInt8), (80 : UInt8), (89 : UInt8)] : Array UInt8 } : ByteArray }), .string ({ data := { toList := [(51 : UInt8), (57 : UInt8), (50 : UInt8)] : Array UInt8 } : ByteArray }), .int .i64 ((0 : Int)), .int .i64 ((1 : Int)), .string ({ data := { toList := [(75 : UInt8), (82 : UInt8), (87 : UInt8)] : Array UInt8 } : ByteArray }), .string ({ data := { toList := [(52 : UInt8), (49 : UInt8), (48 : UInt8)] : Array UInt8 } : ByteArray }), .int .i64 ((0 : Int)), .int .i64 ((10 : Int)), .string ({ data := { toList := [(75 : UInt8), (87 : UInt8), (68 : UInt8)] : Array UInt8 } : ByteArray }), .string ({ data := { toList := [(52 : UInt8), (49 : UInt8), (52 : UInt8)] : Array UInt8 } : ByteArray }), .int .i64 ((3 : Int)), .int .i64 ((5 : Int)), .string ({ data := { toList := [(78 : UInt8), (79 : UInt8), (75 : UInt8)] : Array UInt8 } : ByteArray }), .string ({ data := { toList := [(53 : UInt8), (55 : UInt8), (56 : UInt8)] : Array UInt8 } : ByteArray }), .int .i64 ((2 : Int)), .int .i64 ((100 : Int)), .string ({ data := { toList := [(78 : UInt8), (90 : UInt8), (68 : UInt8)] : Array UInt8 } : ByteArray }), .string ({ data := { toList := [(53 : UInt8), (53 : UInt8), (52 : UInt8)] : Array UInt8 } : ByteArray }), .int .i64 ((2 : Int)), .int .i64 ((10 : Int)), .string ({ data := { toList := [(80 : UInt8), (76 : UInt8), (78 : UInt8)] : Array UInt8 } : ByteArray }), .string ({ data := { toList := [(57 : UInt8), (56 : UInt8), (53 : UInt8)] : Array UInt8 } : ByteArray }), .int .i64 ((2 : Int)), .int .i64 ((1 : Int)), .string ({ data := { toList := [(83 : UInt8), (69 : UInt8), (75 : UInt8)] : Array UInt8 } : ByteArray }), .string ({ data := { toList := [(55 : UInt8), (53 : UInt8), (50 : UInt8)] : Array UInt8 } : ByteArray }), .int .i64 ((2 : Int)), .int .i64 ((100 : Int)), .string ({ data := { toList := [(84 : UInt8), (78 : UInt8), (68 : UInt8)] : Array UInt8 } : ByteArray }), .string ({ data := { toList := [(55 : UInt8), (56 : UInt8), (56 : UInt8)] : Array UInt8 } : ByteArray }), .int .i64 ((3 : Int)), .int .i64 ((10 : Int)), .string ({ data := { toList := [(85 : UInt8), (83 : UInt8), (68 : UInt8)] : Array UInt8 } : ByteArray }), .string ({ data := { toList := [(56 : UInt8), (52 : UInt8), (48 : UInt8)] : Array UInt8 } : ByteArray }), .int .i64 ((2 : Int)), .int .i64 ((1 : Int))] 78 fun b1 c1 =>
  .ret [.slice (some { block := b1, off := (0 : Nat) : Go.Addr }) ((20 : Nat)) (c1)]
theorem fS_l08Table  : fits Tryd.prog aS_l08Table 68 [] (tS_l08Table ) :=
  ⟨Tryd.f68, Tryd.f68.body.getD .skip, by kernel_rfl, by kernel_rfl, by kernel_rfl, by kernel_rfl, by kernel_rfl, by kernel_rfl⟩
/-! loop.example/g00793/laws.eqAcct -/
def aL_eqAcct : An := ⟨[], [], []⟩
noncomputable def tL_eqAcct (x0 : ByteArray × ByteArray × Bool × SlV × PUnit) (x1 : ByteArray × ByteArray × Bool × SlV × PUnit) : T :=
  .br (!ByteArray.toList x0.fst == ByteArray.toList x1.fst) (
    .ret [.bool (false)]) <|
  .call false 16 [Sh1.val (.g [.s, .b, .l]) (x0.2), Sh1.val (.g [.s, .b, .l]) (x1.2)] (.v (.o (.b))) fun y1 =>
  .br (!y1) (
    .ret [.bool (false)]) <|
  .ret [.bool (true)]
theorem fL_eqAcct (x0 : ByteArray × ByteArray × Bool × SlV × PUnit) (x1 : ByteArray × ByteArray × Bool × SlV × PUnit) : fits Tryd.prog aL_eqAcct 69 [Sh1.val (.g [.s, .s, .b, .l]) (x0), Sh1.val (.g [.s, .s, .b, .l]) (x1)] (tL_eqAcct x0 x1) :=
  ⟨Tryd.f69, Tryd.f69.body.getD .skip, by kernel_rfl, by kernel_rfl, by kernel_rfl, by kernel_rfl, by kernel_rfl, by kernel_rfl⟩
/-! loop.example/g00793/laws.eqRat -/
def aL_eqRat : An := ⟨[], [], []⟩
noncomputable def tL_eqRat (x0 : Bool × SlV × SlV × PUnit) (x1 : Bool × SlV × SlV × PUnit) : T :=
  .call false 43 [Sh1.val (.g [.b, .l]) ((x0.fst), x0.2.1, ()), Sh1.val (.g [.b, .l]) ((x1.fst), x1.2.1, ())] (.v (.o (.b))) fun y1 =>
  .br (!y1) (
    .ret [.bool (false)]) <|
  .call false 67 [Sc.val .l (x0.2.2.1), Sc.val .l (x1.2.2.1)] (.v (.o (.b))) fun y2 =>
  .br (!y2) (
    .ret [.bool (false)]) <|
  .ret [.bool (true)]
theorem fL_eqRat (x0 : Bool × SlV × SlV × PUnit) (x1 : Bool × SlV × SlV × PUnit) : fits Tryd.prog aL_eqRat 70 [Sh1.val (.g [.b, .l, .l]) (x0), Sh1.val (.g [.b, .l, .l]) (x1)] (tL_eqRat x0 x1) :=
  ⟨Tryd.f70, Tryd.f70.body.getD .skip, by kernel_rfl, by kernel_rfl, by kernel_rfl, by kernel_rfl, by kernel_rfl, by kernel_rfl⟩
/-! loop.example/g00793/laws.eqRate -/
def aL_eqRate : An := ⟨[], [], []⟩
noncomputable def tL_eqRate (x0 : ByteArray × ByteArray × Bool × SlV × Int × PUnit) (x1 : ByteArray × ByteArray × Bool × SlV × Int × PUnit) : T :=
  .br (!ByteArray.toList x0.fst == ByteArray.toList x1.fst) (
    .ret [.bool (false)]) <|
  .br (!ByteArray.toList x0.2.fst == ByteArray.toList x1.2.fst) (
    .ret [.bool (false)]) <|
  .call false 78 [Sh1.val (.g [.b, .l, .i .i64]) (x0.2.2), Sh1.val (.g [.b, .l, .i .i64]) (x1.2.2)] (.v (.o (.b))) fun y1 =>
  .br (!y1) (
    .ret [.bool (false)]) <|
  .ret [.bool (true)]
theorem fL_eqRate (x0 : ByteArray × ByteArray × Bool × SlV × Int × PUnit) (x1 : ByteArray × ByteArray × Bool × SlV × Int × PUnit) : fits Tryd.prog aL_eqRate 71 [Sh1.val (.g [.s, .s, .b, .l, .i .i64]) (x0), Sh1.val (.g [.s, .s, .b, .l, .i .i64]) (x1)] (tL_eqRate x0 x1) :=
  ⟨Tryd.f71, Tryd.f71.body.getD .skip, by kernel_rfl, by kernel_rfl, by kernel_rfl, by kernel_rfl, by kernel_rfl, by kernel_rfl⟩
/-! loop.example/g00793/laws.szIntS -/
def aL_szIntS : An := ⟨[], [], []⟩
noncomputable def tL_szIntS (x0 : SlV) (x1 : Int) : T :=
  .br (decide (Go.IntKind.i64.wrap (x1 - (↑x0.n : Int)) < (0 : Int))) (
    .ret [.int .i64 ((-1 : Int))]) <|
  .ret [.int .i64 (Go.IntKind.i64.wrap (x1 - (↑x0.n : Int)))]
theorem fL_szIntS (x0 : SlV) (x1 : Int) : fits Tryd.prog aL_szIntS 72 [Sc.val .l (x0), .int .i64 (x1)] (tL_szIntS x0 x1) :=
  ⟨Tryd.f72, Tryd.f72.body.getD .skip, by kernel_rfl, by kernel_rfl, by kernel_rfl, by kernel_rfl, by kernel_rfl, by kernel_rfl⟩
/-! loop.example/g00793/spec.l09Both -/
def aS_l09Both : An := ⟨[], [], []⟩
noncomputable def tS_l09Both (x0 : ByteArray × Bool × SlV × PUnit) (x1 : ByteArray × Bool × SlV × PUnit) : T :=
  .call false 79 [Sh1.val (.g [.s, .b, .l]) (x0)] (.v (.o (.b))) fun y1 =>
  .br (y1) (
    .call false 79 [Sh1.val (.g [.s, .b, .l]) (x1)] (.v (.o (.b))) fun y2 =>
    .br (y2) (
      .ret [.bool (ByteArray.toList x0.fst == ByteArray.toList x1.fst)]) <|
    .ret [.bool (false)]) <|
  .ret [.bool (false)]
theorem fS_l09Both (x0 : ByteArray × Bool × SlV × PUnit) (x1 : ByteArray × Bool × SlV × PUnit) : fits Tryd.prog aS_l09Both 73 [Sh1.val (.g [.s, .b, .l]) (x0), Sh1.val (.g [.s, .b, .l]) (x1)] (tS_l09Both x0 x1) :=
  ⟨Tryd.f73, Tryd.f73.body.getD .skip, by kernel_rfl, by kernel_rfl, by kernel_rfl, by kernel_rfl, by kernel_rfl, by kernel_rfl⟩
/-! loop.example/g00793/spec.IntCmp -/
def aS_IntCmp : An := ⟨[], [], []⟩
noncomputable def tS_IntCmp (x0 : Bool × SlV × PUnit) (x1 : Bool × SlV × PUnit) : T :=
  .call false 80 [Sh1.val (.g [.b, .l]) (x0)] (.v (.o (.b))) fun y1 =>
  .br (!y1) (
    .ret [.int .i64 ((0 : Int))]) <|
  .call false 80 [Sh1.val (.g [.b, .l]) (x1)] (.v (.o (.b))) fun y2 =>
  .br (!y2) (
    .ret [.int .i64 ((0 : Int))]) <|
  .br (x0.fst) (
    .br (!x1.fst) (
      .ret [.int .i64 ((-1 : Int))]) <|
    .br (!x0.fst) (
      .br (x1.fst) (
        .ret [.int .i64 ((1 : Int))]) <|
      .br (x0.fst) (
        .call false 81 [Sc.val .l (x1.2.1), Sc.val .l (x0.2.1)] (.v (.o (.i .i64))) fun y3 =>
        .ret [.int .i64 (y3)]) <|
      .call false 81 [Sc.val .l (x0.2.1), Sc.val .l (x1.2.1)] (.v (.o (.i .i64))) fun y3 =>
      .ret [.int .i64 (y3)]) <|
    .br (x0.fst) (
      .call false 81 [Sc.val .l (x1.2.1), Sc.val .l (x0.2.1)] (.v (.o (.i .i64))) fun y3 =>
      .ret [.int .i64 (y3)]) <|
    .call false 81 [Sc.val .l (x0.2.1), Sc.val .l (x1.2.1)] (.v (.o (.i .i64))) fun y3 =>
    .ret [.int .i64 (y3)]) <|
  .br (!x0.fst) (
    .br (x1.fst) (
      .ret [.int .i64 ((1 : Int))]) <|
    .br (x0.fst) (
      .call false 81 [Sc.val .l (x1.2.1), Sc.val .l (x0.2.1)] (.v (.o (.i .i64))) fun y3 =>
      .ret [.int .i64 (y3)]) <|
    .call false 81 [Sc.val .l (x0.2.1), Sc.val .l (x1.2.1)] (.v (.o (.i .i64))) fun y3 =>
    .ret [.int .i64 (y3)]) <|
  .br (x0.fst) (
    .call false 81 [Sc.val .l (x1.2.1), Sc.val .l (x0.2.1)] (.v (.o (.i .i64))) fun y3 =>
    .ret [.int .i64 (y3)]) <|
  .call false 81 [Sc.val .l (x0.2.1), Sc.val .l (x1.2.1)] (.v (.o (.i .i64))) fun y3 =>
  .ret [.int .i64 (y3)]
theorem fS_IntCmp (x0 : Bool × SlV × PUnit) (x1 : Bool × SlV × PUnit) : fits Tryd.prog aS_IntCmp 74 [Sh1.val (.g [.b, .l]) (x0), Sh1.val (.g [.b, .l]) (x1)] (tS_IntCmp x0 x1) :=
  ⟨Tryd.f74, Tryd.f74.body.getD .skip, by kernel_rfl, by kernel_rfl, by kernel_rfl, by kernel_rfl, by kernel_rfl, by kernel_rfl⟩
/-! loop.example/g00793/laws.toIntS -/
def aL_toIntS : An := ⟨[(3, [.s 3, .s 4], [.a 3, .o (.o (.i .i64))])], [], []⟩
noncomputable def tL_toIntS (x0 : SlV) : T :=
  .rq ((0 : Int) ≤ (↑x0.n : Int) ∧ (↑x0.n : Int) ≤ (↑x0.n : Int) ∧ (↑(8 : Nat) : Int) * (↑x0.n : Int) ≤ (281474976710656 : Int) ∧ (↑x0.n : Int) ≤ (9223372036854775807 : Int)) <|
  .lp [.a 3, .o (.o (.i .i64))] [.a 3 ((↑x0.n : Int).toNat) ((Go.madeCells { toList := [Go.Value.int Go.IntKind.i64 (0 : Int)] : Array Go.Value } ((↑x0.n : Int).toNat * (1 : Nat))).toList), .v (.int .i64 ((0 : Int)))] fun y1 =>
  .br (decide (y1.2.fst < (↑x0.n : Int))) (
    .el (x0.a) (x0.n) (y1.2.fst) fun y2 =>
    .ld false (y2.add (Int.toNat y1.2.fst * (1 : Nat))) (.o (.i .i64)) fun y3 =>
    .rq ((0 : Int) ≤ y1.2.fst ∧ y1.2.fst < (↑y1.1.fst : Int)) <|
    .rq (Int.toNat y1.2.fst * (1 : Nat) + [(Sh1.o (Sc.i Go.IntKind.i64)).val y3].length ≤ y1.1.snd.length) <|
    .nx 0 [.a 3 (y1.1.fst) (setl y1.1.snd (Int.toNat y1.2.fst * (1 : Nat)) [(Sh1.o (Sc.i Go.IntKind.i64)).val y3]), .v (.int .i64 (Go.IntKind.i64.wrap (y1.2.fst + (1 : Int))))]) <|
  .fz (y1.1.fst) (y1.1.snd) 3 fun b2 c2 =>
  .ret [.slice (some { block := b2, off := (0 : Nat) : Go.Addr }) (y1.1.fst) (c2)]
theorem fL_toIntS (x0 : SlV) : fits Tryd.prog aL_toIntS 75 [Sc.val .l (x0)] (tL_toIntS x0) :=
  ⟨Tryd.f75, Tryd.f75.body.getD .skip, by kernel_rfl, by kernel_rfl, by kernel_rfl, by kernel_rfl, by kernel_rfl, by kernel_rfl⟩
/-! loop.example/g00793/impl.alike -/
def aI_alike : An := ⟨[], [], []⟩
noncomputable def tI_alike (x0 : ByteArray × Bool × SlV × PUnit) (x1 : ByteArray × Bool × SlV × PUnit) : T :=
  .call false 82 [Sh1.val (.g [.s, .b, .l]) (x0)] (.v (.o (.b))) fun y1 =>
  .br (y1) (
    .call false 82 [Sh1.val (.g [.s, .b, .l]) (x1)] (.v (.o (.b))) fun y2 =>
    .br (y2) (
      .ret [.bool (ByteArray.toList x0.fst == ByteArray.toList x1.fst)]) <|
    .ret [.bool (false)]) <|
  .ret [.bool (false)]
theorem fI_alike (x0 : ByteArray × Bool × SlV × PUnit) (x1 : ByteArray × Bool × SlV × PUnit) : fits Tryd.prog aI_alike 76 [Sh1.val (.g [.s, .b, .l]) (x0), Sh1.val (.g [.s, .b, .l]) (x1)] (tI_alike x0 x1) :=
  ⟨Tryd.f76, Tryd.f76.body.getD .skip, by kernel_rfl, by kernel_rfl, by kernel_rfl, by kernel_rfl, by kernel_rfl, by kernel_rfl⟩
/-! loop.example/g00793/impl.intCmp -/
def aI_intCmp : An := ⟨[], [], []⟩
noncomputable def tI_intCmp (x0 : Bool × SlV × PUnit) (x1 : Bool × SlV × PUnit) : T :=
  .rg <|
  .call true 85 [Sh1.val (.g [.b, .l]) (x1)] (.v (.g [.b, .l])) fun y1 =>
  .call true 84 [Sh1.val (.g [.b, .l]) (x0), Sh1.val (.g [.b, .l]) (y1)] (.v (.g [.b, .l])) fun y2 =>
  .call true 83 [Sh1.val (.g [.b, .l]) (y2)] (.v (.o (.i .i64))) fun y3 =>
  .ret [.int .i64 (y3)]
theorem fI_intCmp (x0 : Bool × SlV × PUnit) (x1 : Bool × SlV × PUnit) : fits Tryd.prog aI_intCmp 77 [Sh1.val (.g [.b, .l]) (x0), Sh1.val (.g [.b, .l]) (x1)] (tI_intCmp x0 x1) :=
  ⟨Tryd.f77, Tryd.f77.body.getD .skip, by kernel_rfl, by kernel_rfl, by kernel_rfl, by kernel_rfl, by kernel_rfl, by kernel_rfl⟩
/-! loop.example/g00793/laws.eqDec -/
def aL_eqDec : An := ⟨[], [], []⟩
noncomputable def tL_eqDec (x0 : Bool × SlV × Int × PUnit) (x1 : Bool × SlV × Int × PUnit) : T :=
  .call false 43 [Sh1.val (.g [.b, .l]) ((x0.fst), x0.2.1, ()), Sh1.val (.g [.b, .l]) ((x1.fst), x1.2.1, ())] (.v (.o (.b))) fun y1 =>
  .br (!y1) (
    .ret [.bool (false)]) <|
  .br (x0.2.2.fst != x1.2.2.fst) (
    .ret [.bool (false)]) <|
  .ret [.bool (true)]
theorem fL_eqDec (x0 : Bool × SlV × Int × PUnit) (x1 : Bool × SlV × Int × PUnit) : fits Tryd.prog aL_eqDec 78 [Sh1.val (.g [.b, .l, .i .i64]) (x0), Sh1.val (.g [.b, .l, .i .i64]) (x1)] (tL_eqDec x0 x1) :=
  ⟨Tryd.f78, Tryd.f78.body.getD .skip, by kernel_rfl, by kernel_rfl, by kernel_rfl, by kernel_rfl, by kernel_rfl, by kernel_rfl⟩
/-! loop.example/g00793/spec.MoneyOk -/
def aS_MoneyOk : An := ⟨[], [], []⟩
noncomputable def tS_MoneyOk (x0 : ByteArray × Bool × SlV × PUnit) : T :=
  .call false 28 [.string (x0.fst)] (.v (.o (.b))) fun y1 =>
  .br (y1) (
    .call false 80 [Sh1.val (.g [.b, .l]) (x0.2)] (.v (.o (.b))) fun y2 =>
    .br (y2) (
      .ret [.bool (decide ((↑x0.2.2.1.n : Int) ≤ (4 : Int)))]) <|
    .ret [.bool (false)]) <|
  .ret [.bool (false)]
theorem fS_MoneyOk (x0 : ByteArray × Bool × SlV × PUnit) : fits Tryd.prog aS_MoneyOk 79 [Sh1.val (.g [.s, .b, .l]) (x0)] (tS_MoneyOk x0) :=
  ⟨Tryd.f79, Tryd.f79.body.getD .skip, by kernel_rfl, by kernel_rfl, by kernel_rfl, by kernel_rfl, by kernel_rfl, by kernel_rfl⟩
/-! loop.example/g00793/spec.IntOk -/
def aS_IntOk : An := ⟨[], [], []⟩
noncomputable def tS_IntOk (x0 : Bool × SlV × PUnit) : T :=
  .call false 86 [Sc.val .l (x0.2.1)] (.v (.o (.b))) fun y1 =>
  .br (y1) (
    .br (!x0.fst) (
      .ret [.bool (true)]) <|
    .ret [.bool (decide ((↑x0.2.1.n : Int) > (0 : Int)))]) <|
  .ret [.bool (false)]
theorem fS_IntOk (x0 : Bool × SlV × PUnit) : fits Tryd.prog aS_IntOk 80 [Sh1.val (.g [.b, .l]) (x0)] (tS_IntOk x0) :=
  ⟨Tryd.f80, Tryd.f80.body.getD .skip, by kernel_rfl, by kernel_rfl, by kernel_rfl, by kernel_rfl, by kernel_rfl, by kernel_rfl⟩
/-! loop.example/g00793/spec.l02Cmp -/
def aS_l02Cmp : An := ⟨[(6, [.s 5], [.o (.o (.i .i64))])], [], []⟩
noncomputable def tS_l02Cmp (x0 : SlV) (x1 : SlV) : T :=
  .br ((↑x0.n : Int) != (↑x1.n : Int)) (
    .br (decide ((↑x0.n : Int) < (↑x1.n : Int))) (
      .ret [.int .i64 ((-1 : Int))]) <|
    .ret [.int .i64 ((1 : Int))]) <|
  .lp [.o (.o (.i .i64))] [.v (.int .i64 (Go.IntKind.i64.wrap ((↑x0.n : Int) - (1 : Int))))] fun y1 =>
  .br (decide (y1.fst ≥ (0 : Int))) (
    .rg <|
    .el (x0.a) (x0.n) (y1.fst) fun y2 =>
    .ld true (y2.add (Int.toNat y1.fst * (1 : Nat))) (.o (.i .i64)) fun y3 =>
    .el (x1.a) (x1.n) (y1.fst) fun y4 =>
    .ld true (y4.add (Int.toNat y1.fst * (1 : Nat))) (.o (.i .i64)) fun y5 =>
    .br (decide (y3 < y5)) (
      .ret [.int .i64 ((-1 : Int))]) <|
    .rg <|
    .el (x0.a) (x0.n) (y1.fst) fun y6 =>
    .ld true (y6.add (Int.toNat y1.fst * (1 : Nat))) (.o (.i .i64)) fun y7 =>
    .el (x1.a) (x1.n) (y1.fst) fun y8 =>
    .ld true (y8.add (Int.toNat y1.fst * (1 : Nat))) (.o (.i .i64)) fun y9 =>
    .br (decide (y7 > y9)) (
      .ret [.int .i64 ((1 : Int))]) <|
    .nx 0 [.v (.int .i64 (Go.IntKind.i64.wrap (y1.fst - (1 : Int))))]) <|
  .ret [.int .i64 ((0 : Int))]
theorem fS_l02Cmp (x0 : SlV) (x1 : SlV) : fits Tryd.prog aS_l02Cmp 81 [Sc.val .l (x0), Sc.val .l (x1)] (tS_l02Cmp x0 x1) :=
  ⟨Tryd.f81, Tryd.f81.body.getD .skip, by kernel_rfl, by kernel_rfl, by kernel_rfl, by kernel_rfl, by kernel_rfl, by kernel_rfl⟩
/-! loop.example/g00793/impl.MoneyOk -/
def aI_MoneyOk : An := ⟨[], [], []⟩
noncomputable def tI_MoneyOk (x0 : ByteArray × Bool × SlV × PUnit) : T :=
  .call false 29 [.string (x0.fst)] (.v (.o (.b))) fun y1 =>
  .br (y1) (
    .call false 87 [Sh1.val (.g [.b, .l]) (x0.2)] (.v (.o (.b))) fun y2 =>
    .br (y2) (
      .ret [.bool (decide ((↑x0.2.2.1.n : Int) ≤ (4 : Int)))]) <|
    .ret [.bool (false)]) <|
  .ret [.bool (false)]
theorem fI_MoneyOk (x0 : ByteArray × Bool × SlV × PUnit) : fits Tryd.prog aI_MoneyOk 82 [Sh1.val (.g [.s, .b, .l]) (x0)] (tI_MoneyOk x0) :=
  ⟨Tryd.f82, Tryd.f82.body.getD .skip, by kernel_rfl, by kernel_rfl, by kernel_rfl, by kernel_rfl, by kernel_rfl, by kernel_rfl⟩
/-! loop.example/g00793/impl.intSign -/
def aI_intSign : An := ⟨[], [], []⟩
noncomputable def tI_intSign (x0 : Bool × SlV × PUnit) : T :=
  .br ((↑x0.2.1.n : Int) == (0 : Int)) (
    .ret [.int .i64 ((0 : Int))]) <|
  .br (x0.fst) (
    .ret [.int .i64 ((-1 : Int))]) <|
  .ret [.int .i64 ((1 : Int))]
theorem fI_intSign (x0 : Bool × SlV × PUnit) : fits Tryd.prog aI_intSign 83 [Sh1.val (.g [.b, .l]) (x0)] (tI_intSign x0) :=
  ⟨Tryd.f83, Tryd.f83.body.getD .skip, by kernel_rfl, by kernel_rfl, by kernel_rfl, by kernel_rfl, by kernel_rfl, by kernel_rfl⟩
/-! loop.example/g00793/impl.intAdd -/
def aI_intAdd : An := ⟨[], [], []⟩
noncomputable def tI_intAdd (x0 : Bool × SlV × PUnit) (x1 : Bool × SlV × PUnit) : T :=
  .br (x0.fst == x1.fst) (
    .rg <|
    .call true 89 [Sc.val .l (x0.2.1), Sc.val .l (x1.2.1)] (.v (.o (.l))) fun y1 =>
    .call true 88 [.bool (x0.fst), Sc.val .l (y1)] (.v (.g [.b, .l])) fun y2 =>
    .ret [Sh1.val (.g [.b, .l]) (y2)]) <|
  .call false 90 [Sc.val .l (x0.2.1), Sc.val .l (x1.2.1)] (.v (.o (.i .i64))) fun y1 =>
  .br (decide (y1 < (0 : Int))) (
    .rg <|
    .call true 91 [Sc.val .l (x1.2.1), Sc.val .l (x0.2.1)] (.v (.o (.l))) fun y2 =>
    .call true 88 [.bool (x1.fst), Sc.val .l (y2)] (.v (.g [.b, .l])) fun y3 =>
    .ret [Sh1.val (.g [.b, .l]) (y3)]) <|
  .rg <|
  .call true 91 [Sc.val .l (x0.2.1), Sc.val .l (x1.2.1)] (.v (.o (.l))) fun y2 =>
  .call true 88 [.bool (x0.fst), Sc.val .l (y2)] (.v (.g [.b, .l])) fun y3 =>
  .ret [Sh1.val (.g [.b, .l]) (y3)]
theorem fI_intAdd (x0 : Bool × SlV × PUnit) (x1 : Bool × SlV × PUnit) : fits Tryd.prog aI_intAdd 84 [Sh1.val (.g [.b, .l]) (x0), Sh1.val (.g [.b, .l]) (x1)] (tI_intAdd x0 x1) :=
  ⟨Tryd.f84, Tryd.f84.body.getD .skip, by kernel_rfl, by kernel_rfl, by kernel_rfl, by kernel_rfl, by kernel_rfl, by kernel_rfl⟩
/-! loop.example/g00793/impl.intNeg -/
def aI_intNeg : An := ⟨[], [], []⟩
noncomputable def tI_intNeg (x0 : Bool × SlV × PUnit) : T :=
  .rg <|
  .call true 92 [Sc.val .l (x0.2.1)] (.v (.o (.l))) fun y1 =>
  .call true 88 [.bool (!x0.fst), Sc.val .l (y1)] (.v (.g [.b, .l])) fun y2 =>
  .ret [Sh1.val (.g [.b, .l]) (y2)]
theorem fI_intNeg (x0 : Bool × SlV × PUnit) : fits Tryd.prog aI_intNeg 85 [Sh1.val (.g [.b, .l]) (x0)] (tI_intNeg x0) :=
  ⟨Tryd.f85, Tryd.f85.body.getD .skip, by kernel_rfl, by kernel_rfl, by kernel_rfl, by kernel_rfl, by kernel_rfl, by kernel_rfl⟩
/-! loop.example/g00793/spec.NatOk -/
def aS_NatOk : An := ⟨[(2, [.s 7], [.o (.o (.i .i64))])], [], []⟩
noncomputable def tS_NatOk (x0 : SlV) : T :=
  .lp [.o (.o (.i .i64))] [.v (.int .i64 ((0 : Int)))] fun y1 =>
  .br (decide (y1.fst < (↑x0.n : Int))) (
    .el (x0.a) (x0.n) (y1.fst) fun y2 =>
    .ld false (y2.add (Int.toNat y1.fst * (1 : Nat))) (.o (.i .i64)) fun y3 =>
    .call false 93 [.int .i64 (y3), .int .i64 ((0 : Int)), .int .i64 ((999999999 : Int))] (.v (.o (.b))) fun y4 =>
    .br (!y4) (
      .ret [.bool (false)]) <|
    .nx 0 [.v (.int .i64 (Go.IntKind.i64.wrap (y1.fst + (1 : Int))))]) <|
  .br (decide ((↑x0.n : Int) ≤ (50 : Int))) (
    .br ((↑x0.n : Int) == (0 : Int)) (
      .ret [.bool (true)]) <|
    .el (x0.a) (x0.n) (Go.IntKind.i64.wrap ((↑x0.n : Int) - (1 : Int))) fun y2 =>
    .ld false (y2.add ((Go.IntKind.i64.wrap ((↑x0.n : Int) - (1 : Int))).toNat * (1 : Nat))) (.o (.i .i64)) fun y3 =>
    .ret [.bool (y3 != (0 : Int))]) <|
  .ret [.bool (false)]
theorem fS_NatOk (x0 : SlV) : fits Tryd.prog aS_NatOk 86 [Sc.val .l (x0)] (tS_NatOk x0) :=
  ⟨Tryd.f86, Tryd.f86.body.getD .skip, by kernel_rfl, by kernel_rfl, by kernel_rfl, by kernel_rfl, by kernel_rfl, by kernel_rfl⟩
/-! loop.example/g00793/impl.IntOk -/
def aI_IntOk : An := ⟨[], [], []⟩
noncomputable def tI_IntOk (x0 : Bool × SlV × PUnit) : T :=
  .call false 94 [Sc.val .l (x0.2.1)] (.v (.o (.b))) fun y1 =>
  .br (y1) (
    .br (!x0.fst) (
      .ret [.bool (true)]) <|
    .ret [.bool (decide ((↑x0.2.1.n : Int) > (0 : Int)))]) <|
  .ret [.bool (false)]
theorem fI_IntOk (x0 : Bool × SlV × PUnit) : fits Tryd.prog aI_IntOk 87 [Sh1.val (.g [.b, .l]) (x0)] (tI_IntOk x0) :=
  ⟨Tryd.f87, Tryd.f87.body.getD .skip, by kernel_rfl, by kernel_rfl, by kernel_rfl, by kernel_rfl, by kernel_rfl, by kernel_rfl⟩
/-! loop.example/g00793/impl.signed -/
def aI_signed : An := ⟨[], [], []⟩
noncomputable def tI_signed (x0 : Bool) (x1 : SlV) : T :=
  .br (x0) (
    .ret [Sh1.val (.g [.b, .l]) ((decide ((↑x1.n : Int) > (0 : Int))), x1, ())]) <|
  .ret [Sh1.val (.g [.b, .l]) ((false), x1, ())]
theorem fI_signed (x0 : Bool) (x1 : SlV) : fits Tryd.prog aI_signed 88 [.bool (x0), Sc.val .l (x1)] (tI_signed x0 x1) :=
  ⟨Tryd.f88, Tryd.f88.body.getD .skip, by kernel_rfl, by kernel_rfl, by kernel_rfl, by kernel_rfl, by kernel_rfl, by kernel_rfl⟩
/-! loop.example/g00793/impl.natAdd -/
def aI_natAdd : An := ⟨[(4, [.s 5, .s 6, .s 7], [.a 3, .o (.o (.i .i64)), .o (.o (.i .i64))])], [], []⟩
noncomputable def tI_natAdd (x0 : SlV) (x1 : SlV) : T :=
  .rq ((0 : Int) ≤ (0 : Int) ∧ (0 : Int) ≤ Go.IntKind.i64.wrap ((if (↑x1.n : Int) > (↑x0.n : Int) then (↑x1.n : Int) else (↑x0.n : Int)) + (1 : Int)) ∧ (↑(8 : Nat) : Int) * Go.IntKind.i64.wrap ((if (↑x1.n : Int) > (↑x0.n : Int) then (↑x1.n : Int) else (↑x0.n : Int)) + (1 : Int)) ≤ (281474976710656 : Int) ∧ Go.IntKind.i64.wrap ((if (↑x1.n : Int) > (↑x0.n : Int) then (↑x1.n : Int) else (↑x0.n : Int)) + (1 : Int)) ≤ (9223372036854775807 : Int)) <|
  .lp [.a 3, .o (.o (.i .i64)), .o (.o (.i .i64))] [.a 3 (Int.toNat (0 : Int)) [], .v (.int .i64 ((0 : Int))), .v (.int .i64 ((0 : Int)))] fun y1 =>
  .br (decide (y1.2.2.fst < if (↑x1.n : Int) > (↑x0.n : Int) then (↑x1.n : Int) else (↑x0.n : Int))) (
    .br (decide (y1.2.2.fst < (↑x0.n : Int))) (
      .el (x0.a) (x0.n) (y1.2.2.fst) fun y2 =>
      .ld false (y2.add (Int.toNat y1.2.2.fst * (1 : Nat))) (.o (.i .i64)) fun y3 =>
      .br (decide (y1.2.2.fst < (↑x1.n : Int))) (
        .el (x1.a) (x1.n) (y1.2.2.fst) fun y4 =>
        .ld false (y4.add (Int.toNat y1.2.2.fst * (1 : Nat))) (.o (.i .i64)) fun y5 =>
        .rq ((1000000000 : Int) ≠ (0 : Int)) <|
        .rq ([Go.Value.int Go.IntKind.i64 ((Go.IntKind.i64.wrap (Go.IntKind.i64.wrap (y1.2.fst + y3) + y5)).tmod (1000000000 : Int))].length = (1 : Nat) * (1 : Nat)) <|
        .rq (one [Go.Value.int Go.IntKind.i64 ((Go.IntKind.i64.wrap (Go.IntKind.i64.wrap (y1.2.fst + y3) + y5)).tmod (1000000000 : Int))] = true ∧ (y1.1.fst + (1 : Nat)) * (8 : Nat) ≤ (140737488355328 : Nat) ∧ y1.1.fst + (1 : Nat) ≤ (9223372036854775807 : Nat)) <|
        .rq ((1000000000 : Int) ≠ (0 : Int)) <|
        .nx 0 [.a 3 (y1.1.fst + (1 : Nat)) (y1.1.snd ++ [Go.Value.int Go.IntKind.i64 ((Go.IntKind.i64.wrap (Go.IntKind.i64.wrap (y1.2.fst + y3) + y5)).tmod (1000000000 : Int))]), .v (.int .i64 (Go.IntKind.i64.wrap ((Go.IntKind.i64.wrap (Go.IntKind.i64.wrap (y1.2.fst + y3) + y5)).tdiv (1000000000 : Int)))), .v (.int .i64 (Go.IntKind.i64.wrap (y1.2.2.fst + (1 : Int))))]) <|
      .rq ((1000000000 : Int) ≠ (0 : Int)) <|
      .rq ([Go.Value.int Go.IntKind.i64 ((Go.IntKind.i64.wrap (y1.2.fst + y3)).tmod (1000000000 : Int))].length = (1 : Nat) * (1 : Nat)) <|
      .rq (one [Go.Value.int Go.IntKind.i64 ((Go.IntKind.i64.wrap (y1.2.fst + y3)).tmod (1000000000 : Int))] = true ∧ (y1.1.fst + (1 : Nat)) * (8 : Nat) ≤ (140737488355328 : Nat) ∧ y1.1.fst + (1 : Nat) ≤ (9223372036854775807 : Nat)) <|
      .rq ((1000000000 : Int) ≠ (0 : Int)) <|
      .nx 0 [.a 3 (y1.1.fst + (1 : Nat)) (y1.1.snd ++ [Go.Value.int Go.IntKind.i64 ((Go.IntKind.i64.wrap (y1.2.fst + y3)).tmod (1000000000 : Int))]), .v (.int .i64 (Go.IntKind.i64.wrap ((Go.IntKind.i64.wrap (y1.2.fst + y3)).tdiv (1000000000 : Int)))), .v (.int .i64 (Go.IntKind.i64.wrap (y1.2.2.fst + (1 : Int))))]) <|
    .br (decide (y1.2.2.fst < (↑x1.n : Int))) (
      .el (x1.a) (x1.n) (y1.2.2.fst) fun y2 =>
      .ld false (y2.add (Int.toNat y1.2.2.fst * (1 : Nat))) (.o (.i .i64)) fun y3 =>
      .rq ((1000000000 : Int) ≠ (0 : Int)) <|
      .rq ([Go.Value.int Go.IntKind.i64 ((Go.IntKind.i64.wrap (y1.2.fst + y3)).tmod (1000000000 : Int))].length = (1 : Nat) * (1 : Nat)) <|
      .rq (one [Go.Value.int Go.IntKind.i64 ((Go.IntKind.i64.wrap (y1.2.fst + y3)).tmod (1000000000 : Int))] = true ∧ (y1.1.fst + (1 : Nat)) * (8 : Nat) ≤ (140737488355328 : Nat) ∧ y1.1.fst + (1 : Nat) ≤ (9223372036854775807 : Nat)) <|
      .rq ((1000000000 : Int) ≠ (0 : Int)) <|
      .nx 0 [.a 3 (y1.1.fst + (1 : Nat)) (y1.1.snd ++ [Go.Value.int Go.IntKind.i64 ((Go.IntKind.i64.wrap (y1.2.fst + y3)).tmod (1000000000 : Int))]), .v (.int .i64 (Go.IntKind.i64.wrap ((Go.IntKind.i64.wrap (y1.2.fst + y3)).tdiv (1000000000 : Int)))), .v (.int .i64 (Go.IntKind.i64.wrap (y1.2.2.fst + (1 : Int))))]) <|
    .rq ((1000000000 : Int) ≠ (0 : Int)) <|
    .rq ([Go.Value.int Go.IntKind.i64 (Int.tmod y1.2.fst (1000000000 : Int))].length = (1 : Nat) * (1 : Nat)) <|
    .rq (one [Go.Value.int Go.IntKind.i64 (Int.tmod y1.2.fst (1000000000 : Int))] = true ∧ (y1.1.fst + (1 : Nat)) * (8 : Nat) ≤ (140737488355328 : Nat) ∧ y1.1.fst + (1 : Nat) ≤ (9223372036854775807 : Nat)) <|
    .rq ((1000000000 : Int) ≠ (0 : Int)) <|
    .nx 0 [.a 3 (y1.1.fst + (1 : Nat)) (y1.1.snd ++ [Go.Value.int Go.IntKind.i64 (Int.tmod y1.2.fst (1000000000 : Int))]), .v (.int .i64 (Go.IntKind.i64.wrap (Int.tdiv y1.2.fst (1000000000 : Int)))), .v (.int .i64 (Go.IntKind.i64.wrap (y1.2.2.fst + (1 : Int))))]) <|
  .rq ([(Sh1.o (Sc.i Go.IntKind.i64)).val y1.2.fst].length = (1 : Nat) * (1 : Nat)) <|
  .rq (one [(Sh1.o (Sc.i Go.IntKind.i64)).val y1.2.fst] = true ∧ (y1.1.fst + (1 : Nat)) * (8 : Nat) ≤ (140737488355328 : Nat) ∧ y1.1.fst + (1 : Nat) ≤ (9223372036854775807 : Nat)) <|
  .fz (y1.1.fst + (1 : Nat)) (y1.1.snd ++ [(Sh1.o (Sc.i Go.IntKind.i64)).val y1.2.fst]) 3 fun b2 c2 =>
  .call false 95 [.slice (some { block := b2, off := (0 : Nat) : Go.Addr }) (y1.1.fst + (1 : Nat)) (c2)] (.v (.o (.l))) fun y3 =>
  .ret [Sc.val .l (y3)]
theorem fI_natAdd (x0 : SlV) (x1 : SlV) : fits Tryd.prog aI_natAdd 89 [Sc.val .l (x0), Sc.val .l (x1)] (tI_natAdd x0 x1) :=
  ⟨Tryd.f89, Tryd.f89.body.getD .skip, by kernel_rfl, by kernel_rfl, by kernel_rfl, by kernel_rfl, by kernel_rfl, by kernel_rfl⟩
/-! loop.example/g00793/impl.natCmp -/
def aI_natCmp : An := ⟨[(6, [.s 5], [.o (.o (.i .i64))])], [], []⟩
noncomputable def tI_natCmp (x0 : SlV) (x1 : SlV) : T :=
  .br ((↑x0.n : Int) != (↑x1.n : Int)) (
    .br (decide ((↑x0.n : Int) < (↑x1.n : Int))) (
      .ret [.int .i64 ((-1 : Int))]) <|
    .ret [.int .i64 ((1 : Int))]) <|
  .lp [.o (.o (.i .i64))] [.v (.int .i64 (Go.IntKind.i64.wrap ((↑x0.n : Int) - (1 : Int))))] fun y1 =>
  .br (decide (y1.fst ≥ (0 : Int))) (
    .rg <|
    .el (x0.a) (x0.n) (y1.fst) fun y2 =>
    .ld true (y2.add (Int.toNat y1.fst * (1 : Nat))) (.o (.i .i64)) fun y3 =>
    .el (x1.a) (x1.n) (y1.fst) fun y4 =>
    .ld true (y4.add (Int.toNat y1.fst * (1 : Nat))) (.o (.i .i64)) fun y5 =>
    .br (y3 != y5) (
      .rg <|
      .el (x0.a) (x0.n) (y1.fst) fun y6 =>
      .ld true (y6.add (Int.toNat y1.fst * (1 : Nat))) (.o (.i .i64)) fun y7 =>
      .el (x1.a) (x1.n) (y1.fst) fun y8 =>
      .ld true (y8.add (Int.toNat y1.fst * (1 : Nat))) (.o (.i .i64)) fun y9 =>
      .br (decide (y7 < y9)) (
        .ret [.int .i64 ((-1 : Int))]) <|
      .ret [.int .i64 ((1 : Int))]) <|
    .nx 0 [.v (.int .i64 (Go.IntKind.i64.wrap (y1.fst - (1 : Int))))]) <|
  .ret [.int .i64 ((0 : Int))]
theorem fI_natCmp (x0 : SlV) (x1 : SlV) : fits Tryd.prog aI_natCmp 90 [Sc.val .l (x0), Sc.val .l (x1)] (tI_natCmp x0 x1) :=
  ⟨Tryd.f90, Tryd.f90.body.getD .skip, by kernel_rfl, by kernel_rfl, by kernel_rfl, by kernel_rfl, by kernel_rfl, by kernel_rfl⟩
/-! loop.example/g00793/impl.natSub -/
def aI_natSub : An := ⟨[(4, [.s 5, .s 6, .s 14], [.a 3, .o (.o (.i .i64)), .o (.o (.i .i64))])], [], []⟩
noncomputable def tI_natSub (x0 : SlV) (x1 : SlV) : T :=
  .rq ((0 : Int) ≤ (↑x0.n : Int) ∧ (↑x0.n : Int) ≤ (↑x0.n : Int) ∧ (↑(8 : Nat) : Int) * (↑x0.n : Int) ≤ (281474976710656 : Int) ∧ (↑x0.n : Int) ≤ (9223372036854775807 : Int)) <|
  .lp [.a 3, .o (.o (.i .i64)), .o (.o (.i .i64))] [.a 3 ((↑x0.n : Int).toNat) ((Go.madeCells { toList := [Go.Value.int Go.IntKind.i64 (0 : Int)] : Array Go.Value } ((↑x0.n : Int).toNat * (1 : Nat))).toList), .v (.int .i64 ((0 : Int))), .v (.int .i64 ((0 : Int)))] fun y1 =>
  .br (decide (y1.2.2.fst < (↑x0.n : Int))) (
    .el (x0.a) (x0.n) (y1.2.2.fst) fun y2 =>
    .ld false (y2.add (Int.toNat y1.2.2.fst * (1 : Nat))) (.o (.i .i64)) fun y3 =>
    .br (decide (y1.2.2.fst < (↑x1.n : Int))) (
      .el (x1.a) (x1.n) (y1.2.2.fst) fun y4 =>
      .ld false (y4.add (Int.toNat y1.2.2.fst * (1 : Nat))) (.o (.i .i64)) fun y5 =>
      .br (decide (Go.IntKind.i64.wrap (Go.IntKind.i64.wrap (y3 - y1.2.fst) - y5) < (0 : Int))) (
        .rq ((0 : Int) ≤ y1.2.2.fst ∧ y1.2.2.fst < (↑y1.1.fst : Int)) <|
        .rq (Int.toNat y1.2.2.fst * (1 : Nat) + [Go.Value.int Go.IntKind.i64 (Go.IntKind.i64.wrap (Go.IntKind.i64.wrap (Go.IntKind.i64.wrap (y3 - y1.2.fst) - y5) + (1000000000 : Int)))].length ≤ y1.1.snd.length) <|
        .nx 0 [.a 3 (y1.1.fst) (setl y1.1.snd (Int.toNat y1.2.2.fst * (1 : Nat)) [Go.Value.int Go.IntKind.i64 (Go.IntKind.i64.wrap (Go.IntKind.i64.wrap (Go.IntKind.i64.wrap (y3 - y1.2.fst) - y5) + (1000000000 : Int)))]), .v (.int .i64 ((1 : Int))), .v (.int .i64 (Go.IntKind.i64.wrap (y1.2.2.fst + (1 : Int))))]) <|
      .rq ((0 : Int) ≤ y1.2.2.fst ∧ y1.2.2.fst < (↑y1.1.fst : Int)) <|
      .rq (Int.toNat y1.2.2.fst * (1 : Nat) + [Go.Value.int Go.IntKind.i64 (Go.IntKind.i64.wrap (Go.IntKind.i64.wrap (y3 - y1.2.fst) - y5))].length ≤ y1.1.snd.length) <|
      .nx 0 [.a 3 (y1.1.fst) (setl y1.1.snd (Int.toNat y1.2.2.fst * (1 : Nat)) [Go.Value.int Go.IntKind.i64 (Go.IntKind.i64.wrap (Go.IntKind.i64.wrap (y3 - y1.2.fst) - y5))]), .v (.int .i64 ((0 : Int))), .v (.int .i64 (Go.IntKind.i64.wrap (y1.2.2.fst + (1 : Int))))]) <|
    .br (decide (Go.IntKind.i64.wrap (y3 - y1.2.fst) < (0 : Int))) (
      .rq ((0 : Int) ≤ y1.2.2.fst ∧ y1.2.2.fst < (↑y1.1.fst : Int)) <|
      .rq (Int.toNat y1.2.2.fst * (1 : Nat) + [Go.Value.int Go.IntKind.i64 (Go.IntKind.i64.wrap (Go.IntKind.i64.wrap (y3 - y1.2.fst) + (1000000000 : Int)))].length ≤ y1.1.snd.length) <|
      .nx 0 [.a 3 (y1.1.fst) (setl y1.1.snd (Int.toNat y1.2.2.fst * (1 : Nat)) [Go.Value.int Go.IntKind.i64 (Go.IntKind.i64.wrap (Go.IntKind.i64.wrap (y3 - y1.2.fst) + (1000000000 : Int)))]), .v (.int .i64 ((1 : Int))), .v (.int .i64 (Go.IntKind.i64.wrap (y1.2.2.fst + (1 : Int))))]) <|
    .rq ((0 : Int) ≤ y1.2.2.fst ∧ y1.2.2.fst < (↑y1.1.fst : Int)) <|
    .rq (Int.toNat y1.2.2.fst * (1 : Nat) + [Go.Value.int Go.IntKind.i64 (Go.IntKind.i64.wrap (y3 - y1.2.fst))].length ≤ y1.1.snd.length) <|
    .nx 0 [.a 3 (y1.1.fst) (setl y1.1.snd (Int.toNat y1.2.2.fst * (1 : Nat)) [Go.Value.int Go.IntKind.i64 (Go.IntKind.i64.wrap (y3 - y1.2.fst))]), .v (.int .i64 ((0 : Int))), .v (.int .i64 (Go.IntKind.i64.wrap (y1.2.2.fst + (1 : Int))))]) <|
  .fz (y1.1.fst) (y1.1.snd) 3 fun b2 c2 =>
  .call false 95 [.slice (some { block := b2, off := (0 : Nat) : Go.Addr }) (y1.1.fst) (c2)] (.v (.o (.l))) fun y3 =>
  .ret [Sc.val .l (y3)]
theorem fI_natSub (x0 : SlV) (x1 : SlV) : fits Tryd.prog aI_natSub 91 [Sc.val .l (x0), Sc.val .l (x1)] (tI_natSub x0 x1) :=
  ⟨Tryd.f91, Tryd.f91.body.getD .skip, by kernel_rfl, by kernel_rfl, by kernel_rfl, by kernel_rfl, by kernel_rfl, by kernel_rfl⟩
/-! loop.example/g00793/impl.natCopy -/
def aI_natCopy : An := ⟨[], [], []⟩
noncomputable def tI_natCopy (x0 : SlV) : T :=
  .rd ({ a := x0.a, n := x0.n, c := x0.c : SlV }) ((1 : Nat)) fun y1 =>
  .rq (one y1 = true ∧ ((0 : Nat) + x0.n) * (8 : Nat) ≤ (140737488355328 : Nat) ∧ (0 : Nat) + x0.n ≤ (9223372036854775807 : Nat)) <|
  .fz ((0 : Nat) + x0.n) ([] ++ y1) 3 fun b2 c2 =>
  .ret [.slice (some { block := b2, off := (0 : Nat) : Go.Addr }) ((0 : Nat) + x0.n) (c2)]
theorem fI_natCopy (x0 : SlV) : fits Tryd.prog aI_natCopy 92 [Sc.val .l (x0)] (tI_natCopy x0) :=
  ⟨Tryd.f92, Tryd.f92.body.getD .skip, by kernel_rfl, by kernel_rfl, by kernel_rfl, by kernel_rfl, by kernel_rfl, by kernel_rfl⟩
/-! loop.example/g00793/spec.l01In -/
def aS_l01In : An := ⟨[], [], []⟩
noncomputable def tS_l01In (x0 : Int) (x1 : Int) (x2 : Int) : T :=
  .br (decide (x0 ≥ x1)) (
    .ret [.bool (decide (x0 ≤ x2))]) <|
  .ret [.bool (false)]
theorem fS_l01In (x0 : Int) (x1 : Int) (x2 : Int) : fits Tryd.prog aS_l01In 93 [.int .i64 (x0), .int .i64 (x1), .int .i64 (x2)] (tS_l01In x0 x1 x2) :=
  ⟨Tryd.f93, Tryd.f93.body.getD .skip, by kernel_rfl, by kernel_rfl, by kernel_rfl, by kernel_rfl, by kernel_rfl, by kernel_rfl⟩
/-! loop.example/g00793/impl.NatOk -/
def aI_NatOk : An := ⟨[(4, [.s 24], [.o (.o (.i .i64))])], [], []⟩
noncomputable def tI_NatOk (x0 : SlV) : T :=
  .br (decide ((↑x0.n : Int) > (50 : Int))) (
    .ret [.bool (false)]) <|
  .br (decide ((↑x0.n : Int) > (0 : Int))) (
    .el (x0.a) (x0.n) (Go.IntKind.i64.wrap ((↑x0.n : Int) - (1 : Int))) fun y1 =>
    .ld false (y1.add ((Go.IntKind.i64.wrap ((↑x0.n : Int) - (1 : Int))).toNat * (1 : Nat))) (.o (.i .i64)) fun y2 =>
    .br (y2 == (0 : Int)) (
      .ret [.bool (false)]) <|
    .lp [.o (.o (.i .i64))] [.v (.int .i64 ((0 : Int)))] fun y3 =>
    .br (decide (y3.fst < (↑x0.n : Int))) (
      .el (x0.a) (x0.n) (y3.fst) fun y4 =>
      .ld false (y4.add (Int.toNat y3.fst * (1 : Nat))) (.o (.i .i64)) fun y5 =>
      .br (decide (y5 < (0 : Int))) (
        .ret [.bool (false)]) <|
      .br (decide (y5 ≥ (1000000000 : Int))) (
        .ret [.bool (false)]) <|
      .nx 0 [.v (.int .i64 (Go.IntKind.i64.wrap (y3.fst + (1 : Int))))]) <|
    .ret [.bool (true)]) <|
  .lp [.o (.o (.i .i64))] [.v (.int .i64 ((0 : Int)))] fun y1 =>
  .br (decide (y1.fst < (↑x0.n : Int))) (
    .el (x0.a) (x0.n) (y1.fst) fun y2 =>
    .ld false (y2.add (Int.toNat y1.fst * (1 : Nat))) (.o (.i .i64)) fun y3 =>
    .br (decide (y3 < (0 : Int))) (
      .ret [.bool (false)]) <|
    .br (decide (y3 ≥ (1000000000 : Int))) (
      .ret [.bool (false)]) <|
    .nx 0 [.v (.int .i64 (Go.IntKind.i64.wrap (y1.fst + (1 : Int))))]) <|
  .ret [.bool (true)]
theorem fI_NatOk (x0 : SlV) : fits Tryd.prog aI_NatOk 94 [Sc.val .l (x0)] (tI_NatOk x0) :=
  ⟨Tryd.f94, Tryd.f94.body.getD .skip, by kernel_rfl, by kernel_rfl, by kernel_rfl, by kernel_rfl, by kernel_rfl, by kernel_rfl⟩
/-! loop.example/g00793/impl.trim -/
def aI_trim : An := ⟨[(1, [.s 0], [.o (.o (.l))])], [], []⟩
noncomputable def tI_trim (x0 : SlV) : T :=
  .lp [.o (.o (.l))] [.v (Sc.val .l (x0))] fun y1 =>
  .br (decide ((↑y1.1.n : Int) > (0 : Int))) (
    .el (y1.1.a) (y1.1.n) (Go.IntKind.i64.wrap ((↑y1.1.n : Int) - (1 : Int))) fun y2 =>
    .ld false (y2.add ((Go.IntKind.i64.wrap ((↑y1.1.n : Int) - (1 : Int))).toNat * (1 : Nat))) (.o (.i .i64)) fun y3 =>
    .br (y3 == (0 : Int)) (
      .rq ((0 : Int) ≤ (0 : Int) ∧ (0 : Int) ≤ Go.IntKind.i64.wrap ((↑y1.1.n : Int) - (1 : Int)) ∧ Go.IntKind.i64.wrap ((↑y1.1.n : Int) - (1 : Int)) ≤ (↑y1.1.c : Int) ∧ (↑y1.1.c : Int) ≤ (↑y1.1.c : Int)) <|
      .nx 0 [.v (.slice (if (↑y1.1.c : Int).toNat = Int.toNat (0 : Int) then y1.1.a else Option.map (fun x => x.add (Int.toNat (0 : Int) * Go.Proofs.Tryd.prog.types[(3 : Nat)].size)) y1.1.a) ((Go.IntKind.i64.wrap ((↑y1.1.n : Int) - (1 : Int))).toNat - Int.toNat (0 : Int)) ((↑y1.1.c : Int).toNat - Int.toNat (0 : Int)))]) <|
    .ret [Sc.val .l (y1.1)]) <|
  .ret [Sc.val .l (y1.1)]
theorem fI_trim (x0 : SlV) : fits Tryd.prog aI_trim 95 [Sc.val .l (x0)] (tI_trim x0) :=
  ⟨Tryd.f95, Tryd.f95.body.getD .skip, by kernel_rfl, by kernel_rfl, by kernel_rfl, by kernel_rfl, by kernel_rfl, by kernel_rfl⟩
end Go.Proofs.YtagimdcegmpbmaaDoor
