/-
  What each function of the seat comes to, as a tree; each tree is checked against the code.
-/
import Derived.Test.YtmogkainbglpnaaGreatDoorEngD
import Derived.Test.YtmogkainbglpnaaGreatDoorChecked
import Derived.KernelRfl
namespace Go.Proofs.YtmogkainbglpnaaGreatDoor
open Sx
set_option maxRecDepth 100000
noncomputable section
abbrev qft:=@fits Tryz.prog
abbrev qa0:An:=⟨[],[],[]⟩
abbrev _root_.Sx.T.rF:T:=.ret [.bool false]
abbrev _root_.Sx.T.rT:T:=.ret [.bool true]
abbrev _root_.Sx.T.rM:T:=.ret [.int .i64 (-1)]
abbrev _root_.Sx.T.bF (b:Bool) (y:T):T:=.br (!b) (.ret [.bool false]) y
abbrev _root_.Sx.T.bn (b:Bool) (x:T) (y:T):T:=.br (!b) x y
abbrev _root_.Sx.T.qc0 (g:Nat) (l:List Value) (k:Sh.ty (.t [(.g [.s,.l]),(.o (.s)),(.o (.s))])→T):T:=.call false g l (.t [(.g [.s,.l]),(.o (.s)),(.o (.s))]) k
abbrev _root_.Sx.T.qc1 (g:Nat) (l:List Value) (k:Sh.ty (.v (.g [.s,.b,.l]))→T):T:=.call false g l (.v (.g [.s,.b,.l])) k
abbrev _root_.Sx.T.qc2 (g:Nat) (l:List Value) (k:Sh.ty (.t [(.g [.s,.b,.l]),(.g [.b,.l,.l]),(.o (.i .i64))])→T):T:=.call false g l (.t [(.g [.s,.b,.l]),(.g [.b,.l,.l]),(.o (.i .i64))]) k
abbrev _root_.Sx.T.qc3 (g:Nat) (l:List Value) (k:Sh.ty (.t [(.g [.s,.b,.l]),(.o (.b))])→T):T:=.call false g l (.t [(.g [.s,.b,.l]),(.o (.b))]) k
abbrev _root_.Sx.T.qc4 (g:Nat) (l:List Value) (k:Sh.ty (.v (.o (.s)))→T):T:=.call false g l (.v (.o (.s))) k
abbrev _root_.Sx.T.qc5 (g:Nat) (l:List Value) (k:Sh.ty (.v (.o (.b)))→T):T:=.call false g l (.v (.o (.b))) k
abbrev _root_.Sx.T.qc6 (g:Nat) (l:List Value) (k:Sh.ty (.v (.o (.i .i64)))→T):T:=.call false g l (.v (.o (.i .i64))) k
abbrev _root_.Sx.T.qc7 (g:Nat) (l:List Value) (k:Sh.ty (.v (.o (.p)))→T):T:=.call false g l (.v (.o (.p))) k
abbrev _root_.Sx.T.qc8 (g:Nat) (l:List Value) (k:Sh.ty (.v (.g [.s,.l]))→T):T:=.call false g l (.v (.g [.s,.l])) k
abbrev _root_.Sx.T.qc9 (g:Nat) (l:List Value) (k:Sh.ty (.t [(.o (.s)),(.o (.s))])→T):T:=.call false g l (.t [(.o (.s)),(.o (.s))]) k
abbrev _root_.Sx.T.ql10 (a:Addr) (k:Sh1.ty (.o (.i .i64))→T):T:=.ld false a (.o (.i .i64)) k
abbrev _root_.Sx.T.qc11 (g:Nat) (l:List Value) (k:Sh.ty (.v (.g [.b,.l]))→T):T:=.call false g l (.v (.g [.b,.l])) k
abbrev _root_.Sx.T.qc12 (g:Nat) (l:List Value) (k:Sh.ty (.t [(.g [.s,.b,.l]),(.g [.b,.l,.l]),(.o (.e))])→T):T:=.call false g l (.t [(.g [.s,.b,.l]),(.g [.b,.l,.l]),(.o (.e))]) k
abbrev _root_.Sx.T.qc13 (g:Nat) (l:List Value) (k:Sh.ty (.v (.o (.i .i64)))→T):T:=.call true g l (.v (.o (.i .i64))) k
abbrev _root_.Sx.T.qc14 (g:Nat) (l:List Value) (k:Sh.ty (.v (.g [.b,.l]))→T):T:=.call true g l (.v (.g [.b,.l])) k
abbrev _root_.Sx.T.qc15 (g:Nat) (l:List Value) (k:Sh.ty (.v (.g [.s,.s,.i .i64,.i .i64]))→T):T:=.call false g l (.v (.g [.s,.s,.i .i64,.i .i64])) k
abbrev _root_.Sx.T.qc16 (g:Nat) (l:List Value) (k:Sh.ty (.t [(.g [.b,.l,.l]),(.o (.b))])→T):T:=.call false g l (.t [(.g [.b,.l,.l]),(.o (.b))]) k
abbrev _root_.Sx.T.qc17 (g:Nat) (l:List Value) (k:Sh.ty (.v (.o (.l)))→T):T:=.call true g l (.v (.o (.l))) k
abbrev _root_.Sx.T.qc18 (g:Nat) (l:List Value) (k:Sh.ty (.v (.o (.l)))→T):T:=.call false g l (.v (.o (.l))) k
abbrev _root_.Sx.T.qc19 (g:Nat) (l:List Value) (k:Sh.ty (.v (.g [.b,.l,.l]))→T):T:=.call true g l (.v (.g [.b,.l,.l])) k
abbrev _root_.Sx.T.ql20 (a:Addr) (k:Sh1.ty (.o (.i .u8))→T):T:=.ld false a (.o (.i .u8)) k
abbrev _root_.Sx.T.qc21 (g:Nat) (l:List Value) (k:Sh.ty (.v (.g [.s,.s,.b,.l,.i .i64]))→T):T:=.call false g l (.v (.g [.s,.s,.b,.l,.i .i64])) k
abbrev _root_.Sx.T.qc22 (g:Nat) (l:List Value) (k:Sh.ty (.t [(.g [.s,.l]),(.o (.b))])→T):T:=.call false g l (.t [(.g [.s,.l]),(.o (.b))]) k
abbrev _root_.Sx.T.ql23 (a:Addr) (k:Sh1.ty (.g [.s,.s,.b,.l,.i .i64])→T):T:=.ld true a (.g [.s,.s,.b,.l,.i .i64]) k
abbrev _root_.Sx.T.qc24 (g:Nat) (l:List Value) (k:Sh.ty (.v (.o (.e)))→T):T:=.call false g l (.v (.o (.e))) k
abbrev _root_.Sx.T.qc25 (g:Nat) (l:List Value) (k:Sh.ty (.v (.g [.b,.l,.l]))→T):T:=.call false g l (.v (.g [.b,.l,.l])) k
abbrev _root_.Sx.T.ql26 (a:Addr) (k:Sh1.ty (.g [.s,.b,.l])→T):T:=.ld false a (.g [.s,.b,.l]) k
abbrev _root_.Sx.T.qc27 (g:Nat) (l:List Value) (k:Sh.ty (.t [(.g [.s,.b,.l]),(.g [.b,.l,.l]),(.o (.b))])→T):T:=.call false g l (.t [(.g [.s,.b,.l]),(.g [.b,.l,.l]),(.o (.b))]) k
abbrev _root_.Sx.T.ql28 (a:Addr) (k:Sh1.ty (.o (.s))→T):T:=.ld false a (.o (.s)) k
abbrev _root_.Sx.T.ql29 (a:Addr) (k:Sh1.ty (.g [.s,.s,.b,.l,.i .i64])→T):T:=.ld false a (.g [.s,.s,.b,.l,.i .i64]) k
abbrev _root_.Sx.T.qc30 (g:Nat) (l:List Value) (k:Sh.ty (.t [(.g [.s,.s,.i .i64,.i .i64]),(.o (.b))])→T):T:=.call false g l (.t [(.g [.s,.s,.i .i64,.i .i64]),(.o (.b))]) k
abbrev _root_.Sx.T.qc31 (g:Nat) (l:List Value) (k:Sh.ty (.t [(.g [.b,.l,.i .i64]),(.o (.b))])→T):T:=.call false g l (.t [(.g [.b,.l,.i .i64]),(.o (.b))]) k
abbrev _root_.Sx.T.ql32 (a:Addr) (k:Sh1.ty (.g [.s,.s,.i .i64,.i .i64])→T):T:=.ld false a (.g [.s,.s,.i .i64,.i .i64]) k
abbrev _root_.Sx.T.qc33 (g:Nat) (l:List Value) (k:Sh.ty (.t [(.o (.l)),(.o (.l))])→T):T:=.call false g l (.t [(.o (.l)),(.o (.l))]) k
abbrev _root_.Sx.T.qc34 (g:Nat) (l:List Value) (k:Sh.ty (.v (.g [.s,.s,.b,.l,.i .i64]))→T):T:=.call true g l (.v (.g [.s,.s,.b,.l,.i .i64])) k
abbrev _root_.Sx.T.ql35 (a:Addr) (k:Sh1.ty (.o (.i .i64))→T):T:=.ld true a (.o (.i .i64)) k
abbrev _root_.Sx.T.ql36 (a:Addr) (k:Sh1.ty (.o (.l))→T):T:=.ld true a (.o (.l)) k
abbrev _root_.Sx.T.ql37 (a:Addr) (k:Sh1.ty (.o (.i .u8))→T):T:=.ld true a (.o (.i .u8)) k
abbrev _root_.Sx.T.qc38 (g:Nat) (l:List Value) (k:Sh.ty (.t [(.g [.b,.l]),(.g [.b,.l,.l]),(.o (.b))])→T):T:=.call false g l (.t [(.g [.b,.l]),(.g [.b,.l,.l]),(.o (.b))]) k
abbrev _root_.Sx.T.ql39 (a:Addr) (k:Sh1.ty (.g [.s,.s,.i .i64,.i .i64,.s,.s,.i .i64,.i .i64,.s,.s,.i .i64,.i .i64,.s,.s,.i .i64,.i .i64,.s,.s,.i .i64,.i .i64,.s,.s,.i .i64,.i .i64,.s,.s,.i .i64,.i .i64,.s,.s,.i .i64,.i .i64,.s,.s,.i .i64,.i .i64,.s,.s,.i .i64,.i .i64,.s,.s,.i .i64,.i .i64,.s,.s,.i .i64,.i .i64,.s,.s,.i .i64,.i .i64,.s,.s,.i .i64,.i .i64,.s,.s,.i .i64,.i .i64,.s,.s,.i .i64,.i .i64,.s,.s,.i .i64,.i .i64,.s,.s,.i .i64,.i .i64,.s,.s,.i .i64,.i .i64,.s,.s,.i .i64,.i .i64])→T):T:=.ld false a (.g [.s,.s,.i .i64,.i .i64,.s,.s,.i .i64,.i .i64,.s,.s,.i .i64,.i .i64,.s,.s,.i .i64,.i .i64,.s,.s,.i .i64,.i .i64,.s,.s,.i .i64,.i .i64,.s,.s,.i .i64,.i .i64,.s,.s,.i .i64,.i .i64,.s,.s,.i .i64,.i .i64,.s,.s,.i .i64,.i .i64,.s,.s,.i .i64,.i .i64,.s,.s,.i .i64,.i .i64,.s,.s,.i .i64,.i .i64,.s,.s,.i .i64,.i .i64,.s,.s,.i .i64,.i .i64,.s,.s,.i .i64,.i .i64,.s,.s,.i .i64,.i .i64,.s,.s,.i .i64,.i .i64,.s,.s,.i .i64,.i .i64,.s,.s,.i .i64,.i .i64]) k
abbrev _root_.Sx.T.qc40 (g:Nat) (l:List Value) (k:Sh.ty (.t [(.o (.l)),(.o (.i .i64))])→T):T:=.call false g l (.t [(.o (.l)),(.o (.i .i64))]) k
abbrev _root_.Sx.T.qc41 (g:Nat) (l:List Value) (k:Sh.ty (.t [(.g [.b,.l]),(.o (.b))])→T):T:=.call false g l (.t [(.g [.b,.l]),(.o (.b))]) k
abbrev _root_.Sx.T.qc42 (g:Nat) (l:List Value) (k:Sh.ty (.t [])→T):T:=.call false g l (.t []) k
abbrev _root_.Sx.T.qc43 (g:Nat) (l:List Value) (k:Sh.ty (.v (.g [.s,.f,.s,.f,.s,.f,.s,.f,.s,.f,.s,.f,.s,.f]))→T):T:=.call true g l (.v (.g [.s,.f,.s,.f,.s,.f,.s,.f,.s,.f,.s,.f,.s,.f])) k
abbrev _root_.Sx.T.qc44 (g:Nat) (l:List Value) (k:Sh.ty (.v (.o (.b)))→T):T:=.call true g l (.v (.o (.b))) k
def tL_FnSum (x0:SlV):T :=
 .br (decide ((↑x0.n:Int) > (1048576:Int))) (
  .rT) <|
 .qc0 6 [Sc.val .l x0] fun y1 =>
 .qc1 7 [Sc.val .l x0,.string y1.2.1] fun y2 =>
 .fz ((2:Nat)) [.string y2.1,.bool y2.2.1,Sc.val .l y2.2.2.1,.string y2.1,.bool y2.2.1,Sc.val .l y2.2.2.1] 32 fun b3 c3 =>
 .qc2 8 [qv2 y1.1,.slice (some { block:=b3,off:=(0:Nat):Addr }) ((2:Nat)) (c3),.string y1.2.2.1,.int .i64 6] fun y4 =>
 .qc3 9 [qv3 y2,.int .i64 2] fun y5 =>
 .qc2 10 [qv2 y1.1,qv3 y5.1,.string y1.2.2.1,.int .i64 6] fun y6 =>
 .br (y4.2.2.1 == y6.2.2.1) (
  .qc4 11 [.int .i64 y4.2.2.1] fun y7 =>
  .br (!y7.toList == { data:={ toList:=[]:Array UInt8 }:ByteArray }.toList) (
   .br (y4.2.2.1 != (0:Int)) (
    .rT) <|
 .qc5 12 [qv3 y4.1,qv3 y6.1] fun y8 =>
   .br y8 (
    .qc6 13 [qv0 y4.2.1,qv0 y6.2.1] fun y9 =>
    .ret [.bool (y9 == (0:Int))]) <|
 .rF) <|
 .rF) <|
 .rF
theorem fL_FnSum x0:qft qa0 3 [Sc.val .l x0] (tL_FnSum x0) :=fitK (by kernel_rfl)
def tS_MakeRates (x0:SlV):T :=
 .qc7 28 [Sc.val .l x0] fun y1 =>
 .qc8 29 [.pointer (some y1)] fun y2 =>
 .qc9 30 [.pointer (some y1),qv2 y2] fun y3 =>
 .ret [qv2 y2,.string y3.1,.string y3.2.1]
theorem fS_MakeRates x0:qft qa0 6 [Sc.val .l x0] (tS_MakeRates x0) :=fitK (by kernel_rfl)
def tS_MakeAmount (x0:SlV) (x1:ByteArray):T :=
 .qc7 28 [Sc.val .l x0] fun y1 =>
 .ql10 (y1.add (2:Nat)) fun y2 =>
 .st (y1.add (2:Nat)) [.int .i64 (IntKind.i64.wrap (y2+(31:Int)))] <|
 .qc6 32 [.pointer (some y1),.int .i64 30000] fun y3 =>
 .qc11 31 [.int .i64 y3] fun y4 =>
 .ret [qv3 (x1,y4.1,y4.2.1,())]
theorem fS_MakeAmount x0 x1:qft qa0 7 [Sc.val .l x0,.string x1] (tS_MakeAmount x0 x1) :=fitK (by kernel_rfl)
def tI_ConvertSum (x0:qy2) (x1:SlV) (x2:ByteArray) (x3:Int):T :=
 .qc12 33 [qv2 x0,Sc.val .l x1,.string x2,.int .i64 x3] fun y1 =>
 .spl y1.2.2.1 (
  .rg <|
 .qc13 34 [.nilIface] fun y2 =>
  .ret [qv3 y1.1,qv0 y1.2.1,.int .i64 y2]) fun y2 =>
 .rg <|
 .qc13 34 [.iface y2.1 (qv6 (((y2.2):Int),()))] fun y3 =>
 .ret [qv3 y1.1,qv0 y1.2.1,.int .i64 y3]
theorem fI_ConvertSum x0 x1 x2 x3:qft qa0 8 [qv2 x0,Sc.val .l x1,.string x2,.int .i64 x3] (tI_ConvertSum x0 x1 x2 x3) :=fitK (by kernel_rfl)
def tI_MoneyTimes (x0:qy3) (x1:Int):T :=
 .qc5 35 [qv3 x0] fun y1 =>
 .bn y1 (.ret [qv3 (({ data:={ toList:=[]:Array UInt8 }:ByteArray }),(false),nilS,()),.bool (false)]) <|
 .rg <|
 .qc14 38 [.int .i64 x1] fun y2 =>
 .qc14 37 [qv1 x0.2,qv1 y2] fun y3 =>
 .qc3 36 [.string x0.1,qv1 y3] fun y4 =>
 .ret [qv3 y4.1,.bool y4.2.1]
theorem fI_MoneyTimes x0 x1:qft qa0 9 [qv3 x0,.int .i64 x1] (tI_MoneyTimes x0 x1) :=fitK (by kernel_rfl)
def tI_Convert (x0:qy2) (x1:qy3) (x2:ByteArray) (x3:Int):T :=
 .fz ((1:Nat)) [.string x1.1,.bool x1.2.1,Sc.val .l x1.2.2.1] 32 fun b1 c1 =>
 .qc2 8 [qv2 x0,.slice (some { block:=b1,off:=(0:Nat):Addr }) ((1:Nat)) (c1),.string x2,.int .i64 x3] fun y2 =>
 .ret [qv3 y2.1,qv0 y2.2.1,.int .i64 y2.2.2.1]
theorem fI_Convert x0 x1 x2 x3:qft qa0 10 [qv2 x0,qv3 x1,.string x2,.int .i64 x3] (tI_Convert x0 x1 x2 x3) :=fitK (by kernel_rfl)
def tI_CvName (x0:Int):T :=
 .fz ((4:Nat)) [.string ({ data:={ toList:=[(111:UInt8),(107:UInt8)]:Array UInt8 }:ByteArray }),.string ({ data:={ toList:=[(109:UInt8),(111:UInt8),(110:UInt8),(101:UInt8),(121:UInt8)]:Array UInt8 }:ByteArray }),.string ({ data:={ toList:=[(114:UInt8),(97:UInt8),(116:UInt8),(101:UInt8)]:Array UInt8 }:ByteArray }),.string ({ data:={ toList:=[(108:UInt8),(97:UInt8),(114:UInt8),(103:UInt8),(101:UInt8)]:Array UInt8 }:ByteArray })] 9 fun b1 c1 =>
 .qc4 39 [.int .i64 x0,.slice (some { block:=b1,off:=(0:Nat):Addr }) ((4:Nat)) (c1)] fun y2 =>
 .ret [.string y2]
theorem fI_CvName x0:qft qa0 11 [.int .i64 x0] (tI_CvName x0) :=fitK (by kernel_rfl)
def tI_MoneySame (x0:qy3) (x1:qy3):T :=
 .br (ByteArray.toList x0.1 == ByteArray.toList x1.1) (
  .qc5 40 [qv1 x0.2,qv1 x1.2] fun y1 =>
  .ret [.bool y1]) <|
 .rF
theorem fI_MoneySame x0 x1:qft qa0 12 [qv3 x0,qv3 x1] (tI_MoneySame x0 x1) :=fitK (by kernel_rfl)
def tI_RatCmp (x0:qy1) (x1:qy1):T :=
 .qc5 41 [qv0 x0,qv0 x1] fun y1 =>
 .bn y1 (.ret [.int .i64 0]) <|
 .rg <|
 .qc14 43 [qv0 x0,Sc.val .l x1.2.2.1] fun y2 =>
 .qc11 43 [qv0 x1,Sc.val .l x0.2.2.1] fun y3 =>
 .qc6 42 [qv1 y2,qv1 y3] fun y4 =>
 .ret [.int .i64 y4]
theorem fI_RatCmp x0 x1:qft qa0 13 [qv0 x0,qv0 x1] (tI_RatCmp x0 x1) :=fitK (by kernel_rfl)
def tI_RateHow (x0:qy2) (x1:ByteArray) (x2:ByteArray):T :=
 .qc5 44 [qv2 x0] fun y1 =>
 .bn y1 (.ret [.int .i64 0]) <|
 .qc5 45 [.string x1] fun y2 =>
 .bn y2 (.ret [.int .i64 0]) <|
 .qc5 45 [.string x2] fun y3 =>
 .bn y3 (.ret [.int .i64 0]) <|
 .br (x1.toList == x2.toList) (
  .ret [.int .i64 1]) <|
 .qc6 46 [qv2 x0,.string x1,.string x2] fun y4 =>
 .br (y4 != (0:Int)) (
  .qc6 46 [qv2 x0,.string x1,.string x2] fun y5 =>
  .ret [.int .i64 y5]) <|
 .br (!x1.toList == ByteArray.toList x0.1) (
  .br (!x2.toList == ByteArray.toList x0.1) (
   .qc6 46 [qv2 x0,.string x1,.string x0.1] fun y5 =>
   .br (y5 != (0:Int)) (
    .qc6 46 [qv2 x0,.string x0.1,.string x2] fun y6 =>
    .br (y6 != (0:Int)) (
     .ret [.int .i64 4]) <|
 .ret [.int .i64 0]) <|
 .ret [.int .i64 0]) <|
 .ret [.int .i64 0]) <|
 .ret [.int .i64 0]
theorem fI_RateHow x0 x1 x2:qft qa0 15 [qv2 x0,.string x1,.string x2] (tI_RateHow x0 x1 x2) :=fitK (by kernel_rfl)
def tS_CurKnown (x0:ByteArray):T :=
 .qc15 47 [.string x0] fun y1 =>
 .ret [.bool (!ByteArray.toList y1.1 == { data:={ toList:=[]:Array UInt8 }:ByteArray }.toList)]
theorem fS_CurKnown x0:qft qa0 16 [.string x0] (tS_CurKnown x0) :=fitK (by kernel_rfl)
def tI_UnitRate (x0:qy2) (x1:ByteArray) (x2:ByteArray):T :=
 .qc16 48 [qv2 x0,.string x1,.string x2] fun y1 =>
 .bn y1.2.1 (.ret [qv0 ((false),nilS,nilS,()),.bool (false)]) <|
 .rg <|
 .qc13 51 [.string x2] fun y2 =>
 .qc17 50 [.int .i64 y2] fun y3 =>
 .qc18 49 [Sc.val .l y1.1.2.1,Sc.val .l y3] fun y4 =>
 .rg <|
 .qc14 53 [.bool y1.1.1,Sc.val .l y4] fun y5 =>
 .qc13 51 [.string x1] fun y6 =>
 .qc17 50 [.int .i64 y6] fun y7 =>
 .qc18 49 [Sc.val .l y1.1.2.2.1,Sc.val .l y7] fun y8 =>
 .qc16 52 [qv1 y5,Sc.val .l y8] fun y9 =>
 .ret [qv0 y9.1,.bool y9.2.1]
theorem fI_UnitRate x0 x1 x2:qft qa0 17 [qv2 x0,.string x1,.string x2] (tI_UnitRate x0 x1 x2) :=fitK (by kernel_rfl)
def tI_RatMul (x0:qy1) (x1:qy1):T :=
 .qc5 41 [qv0 x0,qv0 x1] fun y1 =>
 .bn y1 (.ret [qv0 ((false),nilS,nilS,()),.bool (false)]) <|
 .rg <|
 .qc14 37 [qv1 (x0.1,x0.2.1,()),qv1 (x1.1,x1.2.1,())] fun y2 =>
 .qc18 49 [Sc.val .l x0.2.2.1,Sc.val .l x1.2.2.1] fun y3 =>
 .qc16 52 [qv1 y2,Sc.val .l y3] fun y4 =>
 .ret [qv0 y4.1,.bool y4.2.1]
theorem fI_RatMul x0 x1:qft qa0 18 [qv0 x0,qv0 x1] (tI_RatMul x0 x1) :=fitK (by kernel_rfl)
def tI_MoneyRat (x0:qy3):T :=
 .qc5 35 [qv3 x0] fun y1 =>
 .bn y1 (.ret [qv0 ((false),nilS,nilS,())]) <|
 .qc11 54 [qv1 x0.2] fun y2 =>
 .fz ((1:Nat)) [.int .i64 1] 3 fun b3 c3 =>
 .ret [qv0 (y2.1,y2.2.1,(⟨(some { block:=b3,off:=(0:Nat):Addr }),((1:Nat)),(c3)⟩:SlV),())]
theorem fI_MoneyRat x0:qft qa0 19 [qv3 x0] (tI_MoneyRat x0) :=fitK (by kernel_rfl)
def tI_RatAdd (x0:qy1) (x1:qy1):T :=
 .qc5 41 [qv0 x0,qv0 x1] fun y1 =>
 .bn y1 (.ret [qv0 ((false),nilS,nilS,()),.bool (false)]) <|
 .rg <|
 .rg <|
 .qc14 43 [qv0 x0,Sc.val .l x1.2.2.1] fun y2 =>
 .qc14 43 [qv0 x1,Sc.val .l x0.2.2.1] fun y3 =>
 .qc14 55 [qv1 y2,qv1 y3] fun y4 =>
 .qc18 49 [Sc.val .l x0.2.2.1,Sc.val .l x1.2.2.1] fun y5 =>
 .qc16 52 [qv1 y4,Sc.val .l y5] fun y6 =>
 .ret [qv0 y6.1,.bool y6.2.1]
theorem fI_RatAdd x0 x1:qft qa0 20 [qv0 x0,qv0 x1] (tI_RatAdd x0 x1) :=fitK (by kernel_rfl)
def tI_Exact (x0:qy2) (x1:qy3) (x2:ByteArray):T :=
 .qc5 35 [qv3 x1] fun y1 =>
 .bn y1 (.ret [qv0 ((false),nilS,nilS,()),.bool (false)]) <|
 .qc16 17 [qv2 x0,.string x1.1,.string x2] fun y2 =>
 .bn y2.2.1 (.ret [qv0 ((false),nilS,nilS,()),.bool (false)]) <|
 .rg <|
 .qc19 19 [qv3 x1] fun y3 =>
 .qc16 18 [qv0 y3,qv0 y2.1] fun y4 =>
 .ret [qv0 y4.1,.bool y4.2.1]
theorem fI_Exact x0 x1 x2:qft qa0 21 [qv2 x0,qv3 x1,.string x2] (tI_Exact x0 x1 x2) :=fitK (by kernel_rfl)
def tI_RatZero :T :=
 .fz ((1:Nat)) [.int .i64 1] 3 fun b1 c1 =>
 .ret [qv0 ((false),nilS,(⟨(some { block:=b1,off:=(0:Nat):Addr }),((1:Nat)),(c1)⟩:SlV),())]
theorem fI_RatZero :qft qa0 25 [] (tI_RatZero ) :=fitK (by kernel_rfl)
def aS_l01New:An:=⟨[(3,[.s 3,.s 4],[.o (.o (.i .i64)),.o (.o (.i .i64))])],[],[]⟩
def tS_l01New (x0:SlV):T :=
 .lp [.o (.o (.i .i64)),.o (.o (.i .i64))] [.v (.int .i64 (IntKind.i64.wrap ((1616:Int)+(↑x0.n:Int)))),.v (.int .i64 0)] fun y1 =>
 .br (decide (y1.2.1<(↑x0.n:Int))) (
  .br (decide (y1.2.1<(4000:Int))) (
   .el x0.1 (x0.n) y1.2.1 fun y2 =>
   .ql20 (y2.add (Int.toNat y1.2.1*(1:Nat))) fun y3 =>
   .nx 0 [.v (.int .i64 (IntKind.i64.wrap (↑(BitVec.ofInt (64:Nat) (IntKind.i64.wrap (IntKind.i64.wrap (IntKind.i64.wrap (y1.1*(41:Int))+IntKind.i64.wrap y3)+(7:Int))) &&& BitVec.ofInt (64:Nat) (1073741823:Int)).toNat:Int))),.v (.int .i64 (IntKind.i64.wrap (y1.2.1+(1:Int))))]) <|
 .es [Sc.val .l x0,.int .i64 0,.int .i64 y1.1] 74 fun b2 =>
  .ret [.pointer (some { block:=b2,off:=(0:Nat):Addr })]) <|
 .es [Sc.val .l x0,.int .i64 0,.int .i64 y1.1] 74 fun b2 =>
 .ret [.pointer (some { block:=b2,off:=(0:Nat):Addr })]
theorem fS_l01New x0:qft aS_l01New 28 [Sc.val .l x0] (tS_l01New x0) :=fitK (by kernel_rfl)
def aS_l10Table:An:=⟨[(3,[.s 4,.c 3 0,.c 3 1],[.o (.o (.i .i64)),.o (.o (.s)),.o (.o (.l))])],[],[]⟩
def tS_l10Table (x0:Addr):T :=
 .fz ((3:Nat)) [.string ({ data:={ toList:=[(69:UInt8),(85:UInt8),(82:UInt8)]:Array UInt8 }:ByteArray }),.string ({ data:={ toList:=[(69:UInt8),(85:UInt8),(82:UInt8)]:Array UInt8 }:ByteArray }),.string ({ data:={ toList:=[(85:UInt8),(83:UInt8),(68:UInt8)]:Array UInt8 }:ByteArray })] 9 fun b1 c1 =>
 .qc4 63 [.pointer (some x0),.slice (some { block:=b1,off:=(0:Nat):Addr }) ((3:Nat)) (c1)] fun y2 =>
 .qc6 32 [.pointer (some x0),.int .i64 7] fun y3 =>
 .lp [.o (.o (.i .i64)),.o (.o (.s)),.o (.o (.l))] [.v (.int .i64 y3),.v (.string y2),.v (.slice none 0 0)] fun y4 =>
 .br (decide (y4.1 > (0:Int))) (
  .qc21 64 [.pointer (some x0)] fun y5 =>
  .qc5 65 [.pointer (some x0),.int .i64 2] fun y6 =>
  .br y6 (
   .br (!ByteArray.toList y5.1 == ByteArray.toList y4.2.1) (
    .qc22 66 [qv2 y4.2,qv4 (y5.1,y4.2.1,y5.2.2.1,y5.2.2.2.1,((y5.2.2.2.2.1):Int),())] fun y7 =>
    .br y7.2.1 (
     .nx 0 [.v (.int .i64 (IntKind.i64.wrap (y4.1-(1:Int)))),.v (.string y7.1.1),.v (Sc.val .l y7.1.2.1)]) <|
 .nx 0 [.v (.int .i64 (IntKind.i64.wrap (y4.1-(1:Int)))),.v (.string y4.2.1),.v (Sc.val .l y4.2.2.1)]) <|
 .qc22 66 [qv2 y4.2,qv4 y5] fun y7 =>
   .br y7.2.1 (
    .nx 0 [.v (.int .i64 (IntKind.i64.wrap (y4.1-(1:Int)))),.v (.string y7.1.1),.v (Sc.val .l y7.1.2.1)]) <|
 .nx 0 [.v (.int .i64 (IntKind.i64.wrap (y4.1-(1:Int)))),.v (.string y4.2.1),.v (Sc.val .l y4.2.2.1)]) <|
 .qc22 66 [qv2 y4.2,qv4 y5] fun y7 =>
  .br y7.2.1 (
   .nx 0 [.v (.int .i64 (IntKind.i64.wrap (y4.1-(1:Int)))),.v (.string y7.1.1),.v (Sc.val .l y7.1.2.1)]) <|
 .nx 0 [.v (.int .i64 (IntKind.i64.wrap (y4.1-(1:Int)))),.v (.string y4.2.1),.v (Sc.val .l y4.2.2.1)]) <|
 .ret [qv2 y4.2]
theorem fS_l10Table x0:qft aS_l10Table 29 [.pointer (some x0)] (tS_l10Table x0) :=fitK (by kernel_rfl)
def tS_l10Pair (x0:Addr) (x1:qy2):T :=
 .br (decide ((↑x1.2.1.n:Int) > (0:Int))) (
  .qc5 65 [.pointer (some x0),.int .i64 3] fun y1 =>
  .bn y1 (.rf <|
 .cf 32 [.pointer (some x0),.int .i64 ((↑x1.2.1.n:Int))] (.v (.o (.i .i64))) fun y2 =>
   .el x1.2.1.1 (x1.2.1.n) y2 fun y3 =>
   .ql23 (y3.add (y2.toNat*(5:Nat))) fun y4 =>
   .rf <|
 .cf 32 [.pointer (some x0),.int .i64 ((↑x1.2.1.n:Int))] (.v (.o (.i .i64))) fun y5 =>
   .el x1.2.1.1 (x1.2.1.n) y5 fun y6 =>
   .ql23 (y6.add (y5.toNat*(5:Nat))) fun y7 =>
   .qc6 32 [.pointer (some x0),.int .i64 3] fun y8 =>
   .br (y8 == (0:Int)) (
    .rg <|
 .ret [.string y4.1,.string y7.2.1]) <|
 .br (y8 == (1:Int)) (
    .rg <|
 .ret [.string y4.2.1,.string y4.1]) <|
 .rg <|
 .ret [.string y4.1,.string y7.1]) <|
 .qc4 67 [.pointer (some x0)] fun y2 =>
  .qc4 68 [.pointer (some x0)] fun y3 =>
  .ret [.string y2,.string y3]) <|
 .qc4 67 [.pointer (some x0)] fun y1 =>
 .qc4 68 [.pointer (some x0)] fun y2 =>
 .ret [.string y1,.string y2]
theorem fS_l10Pair x0 x1:qft qa0 30 [.pointer (some x0),qv2 x1] (tS_l10Pair x0 x1) :=fitK (by kernel_rfl)
def tS_IntOf (x0:Int):T :=
 .br (x0 == (-9223372036854775808:Int)) (
  .fz ((3:Nat)) [.int .i64 854775808,.int .i64 223372036,.int .i64 9] 3 fun b1 c1 =>
  .qc11 69 [.bool (true),.slice (some { block:=b1,off:=(0:Nat):Addr }) ((3:Nat)) (c1)] fun y2 =>
  .ret [qv1 y2]) <|
 .br (decide (x0<(0:Int))) (
  .qc18 70 [.int .i64 (IntKind.i64.wrap ((0:Int)-x0))] fun y1 =>
  .qc11 69 [.bool (true),Sc.val .l y1] fun y2 =>
  .ret [qv1 y2]) <|
 .qc18 70 [.int .i64 x0] fun y1 =>
 .qc11 69 [.bool (false),Sc.val .l y1] fun y2 =>
 .ret [qv1 y2]
theorem fS_IntOf x0:qft qa0 31 [.int .i64 x0] (tS_IntOf x0) :=fitK (by kernel_rfl)
def tS_l01Below (x0:Addr) (x1:Int):T :=
 .br (decide (x1≤(0:Int))) (
  .ret [.int .i64 0]) <|
 .br (decide (x1≤(256:Int))) (
  .qc6 71 [.pointer (some x0)] fun y1 =>
  .rq (x1≠(0:Int)) <|
 .ret [.int .i64 (y1.tmod x1)]) <|
 .qc6 71 [.pointer (some x0)] fun y1 =>
 .qc6 71 [.pointer (some x0)] fun y2 =>
 .qc6 71 [.pointer (some x0)] fun y3 =>
 .qc6 71 [.pointer (some x0)] fun y4 =>
 .rq (x1≠(0:Int)) <|
 .ret [.int .i64 ((IntKind.i64.wrap (IntKind.i64.wrap (IntKind.i64.wrap (IntKind.i64.wrap (y1*(16777216:Int))+IntKind.i64.wrap (y2*(65536:Int)))+IntKind.i64.wrap (y3*(256:Int)))+y4)).tmod x1)]
theorem fS_l01Below x0 x1:qft qa0 32 [.pointer (some x0),.int .i64 x1] (tS_l01Below x0 x1) :=fitK (by kernel_rfl)
def aI_convert:An:=⟨[(6,[.s 33,.c 12 0,.c 12 1,.c 12 2],[.o (.o (.i .i64)),.o (.o (.b)),.o (.o (.l)),.o (.o (.l))])],[],[]⟩
def tI_convert (x0:qy2) (x1:SlV) (x2:ByteArray) (x3:Int):T :=
 .qc24 72 [qv2 x0,Sc.val .l x1,.string x2,.int .i64 x3] fun y1 =>
 .spl y1 (
  .br (!true) (
   .ret [qv3 (({ data:={ toList:=[]:Array UInt8 }:ByteArray }),(false),nilS,()),qv0 ((false),nilS,nilS,()),.nilIface]) <|
 .qc25 25 [] fun y2 =>
  .lp [.o (.o (.i .i64)),.o (.o (.b)),.o (.o (.l)),.o (.o (.l))] [.v (.int .i64 0),.v (.bool y2.1),.v (Sc.val .l y2.2.1),.v (Sc.val .l y2.2.2.1)] fun y3 =>
  .br (decide (y3.1<(↑x1.n:Int))) (
   .el x1.1 (x1.n) y3.1 fun y4 =>
   .ql26 (y4.add (Int.toNat y3.1*(3:Nat))) fun y5 =>
   .qc16 21 [qv2 x0,qv3 y5,.string x2] fun y6 =>
   .br y6.2.1 (
    .qc16 20 [qv0 y3.2,qv0 y6.1] fun y7 =>
    .bn y7.2.1 (.ret [qv3 (({ data:={ toList:=[]:Array UInt8 }:ByteArray }),(false),nilS,()),qv0 ((false),nilS,nilS,()),.iface 120 (qv6 ((((3:Int)):Int),()))]) <|
 .nx 0 [.v (.int .i64 (IntKind.i64.wrap (y3.1+(1:Int)))),.v (.bool y7.1.1),.v (Sc.val .l y7.1.2.1),.v (Sc.val .l y7.1.2.2.1)]) <|
 .bn y6.2.1 (.ret [qv3 (({ data:={ toList:=[]:Array UInt8 }:ByteArray }),(false),nilS,()),qv0 ((false),nilS,nilS,()),.iface 120 (qv6 ((((3:Int)):Int),()))]) <|
 .nx 0 [.v (.int .i64 (IntKind.i64.wrap (y3.1+(1:Int)))),.v (.bool y3.2.1),.v (Sc.val .l y3.2.2.1),.v (Sc.val .l y3.2.2.2.1)]) <|
 .qc27 73 [.string x2,qv0 y3.2,.int .i64 x3] fun y4 =>
  .bn y4.2.2.1 (.ret [qv3 (({ data:={ toList:=[]:Array UInt8 }:ByteArray }),(false),nilS,()),qv0 ((false),nilS,nilS,()),.iface 120 (qv6 ((((3:Int)):Int),()))]) <|
 .rg <|
 .ret [qv3 y4.1,qv0 y4.2.1,.nilIface]) fun y2 =>
 .br (!false) (
  .ret [qv3 (({ data:={ toList:=[]:Array UInt8 }:ByteArray }),(false),nilS,()),qv0 ((false),nilS,nilS,()),.iface y2.1 (qv6 (((y2.2):Int),()))]) <|
 .qc25 25 [] fun y3 =>
 .lp [.o (.o (.i .i64)),.o (.o (.b)),.o (.o (.l)),.o (.o (.l))] [.v (.int .i64 0),.v (.bool y3.1),.v (Sc.val .l y3.2.1),.v (Sc.val .l y3.2.2.1)] fun y4 =>
 .br (decide (y4.1<(↑x1.n:Int))) (
  .el x1.1 (x1.n) y4.1 fun y5 =>
  .ql26 (y5.add (Int.toNat y4.1*(3:Nat))) fun y6 =>
  .qc16 21 [qv2 x0,qv3 y6,.string x2] fun y7 =>
  .br y7.2.1 (
   .qc16 20 [qv0 y4.2,qv0 y7.1] fun y8 =>
   .bn y8.2.1 (.ret [qv3 (({ data:={ toList:=[]:Array UInt8 }:ByteArray }),(false),nilS,()),qv0 ((false),nilS,nilS,()),.iface 120 (qv6 ((((3:Int)):Int),()))]) <|
 .nx 0 [.v (.int .i64 (IntKind.i64.wrap (y4.1+(1:Int)))),.v (.bool y8.1.1),.v (Sc.val .l y8.1.2.1),.v (Sc.val .l y8.1.2.2.1)]) <|
 .bn y7.2.1 (.ret [qv3 (({ data:={ toList:=[]:Array UInt8 }:ByteArray }),(false),nilS,()),qv0 ((false),nilS,nilS,()),.iface 120 (qv6 ((((3:Int)):Int),()))]) <|
 .nx 0 [.v (.int .i64 (IntKind.i64.wrap (y4.1+(1:Int)))),.v (.bool y4.2.1),.v (Sc.val .l y4.2.2.1),.v (Sc.val .l y4.2.2.2.1)]) <|
 .qc27 73 [.string x2,qv0 y4.2,.int .i64 x3] fun y5 =>
 .bn y5.2.2.1 (.ret [qv3 (({ data:={ toList:=[]:Array UInt8 }:ByteArray }),(false),nilS,()),qv0 ((false),nilS,nilS,()),.iface 120 (qv6 ((((3:Int)):Int),()))]) <|
 .rg <|
 .ret [qv3 y5.1,qv0 y5.2.1,.nilIface]
theorem fI_convert x0 x1 x2 x3:qft aI_convert 33 [qv2 x0,Sc.val .l x1,.string x2,.int .i64 x3] (tI_convert x0 x1 x2 x3) :=fitK (by kernel_rfl)
def tI_codeOf (x0:Option (Nat × Int)):T :=
 .es [.int .i64 0] 120 fun b1 =>
 .call false 74 ([]++[(Sh1.o Sc.e).val x0,Value.iface (124:Nat) (Value.pointer (some { block:=b1,off:=(0:Nat):Addr }))]++[]) (.v (.o (.b))) fun y2 =>
 .br y2 (
  .ql10 ({ block:=b1,off:=(0:Nat):Addr }.add (0:Nat)) fun y3 =>
  .ret [.int .i64 y3]) <|
 .ret [.int .i64 0]
theorem fI_codeOf x0:qft qa0 34 ([(Sh1.o Sc.e).val x0]) (tI_codeOf x0) :=fitK (by kernel_rfl)
def tI_MoneyOk (x0:qy3):T :=
 .qc5 45 [.string x0.1] fun y1 =>
 .br y1 (
  .qc5 75 [qv1 x0.2] fun y2 =>
  .br y2 (
   .ret [.bool (decide ((↑x0.2.2.1.n:Int)≤(4:Int)))]) <|
 .rF) <|
 .rF
theorem fI_MoneyOk x0:qft qa0 35 [qv3 x0] (tI_MoneyOk x0) :=fitK (by kernel_rfl)
def tI_moneyOf (x0:ByteArray) (x1:qy0):T :=
 .qc5 35 [qv3 (x0,x1.1,x1.2.1,())] fun y1 =>
 .br y1 (
  .ret [qv3 (x0,x1.1,x1.2.1,()),.bool (true)]) <|
 .ret [qv3 (({ data:={ toList:=[]:Array UInt8 }:ByteArray }),(false),nilS,()),.bool (false)]
theorem fI_moneyOf x0 x1:qft qa0 36 [.string x0,qv1 x1] (tI_moneyOf x0 x1) :=fitK (by kernel_rfl)
def tI_intMul (x0:qy0) (x1:qy0):T :=
 .rg <|
 .qc17 49 [Sc.val .l x0.2.1,Sc.val .l x1.2.1] fun y1 =>
 .qc11 53 [.bool (!x0.1 == x1.1),Sc.val .l y1] fun y2 =>
 .ret [qv1 y2]
theorem fI_intMul x0 x1:qft qa0 37 [qv1 x0,qv1 x1] (tI_intMul x0 x1) :=fitK (by kernel_rfl)
def tI_IntOf (x0:Int):T :=
 .br (decide (x0<(0:Int))) (
  .qc18 76 [.int .u64 (IntKind.u64.wrap ((0:Int)-IntKind.u64.wrap x0))] fun y1 =>
  .ret [qv1 ((true),y1,())]) <|
 .qc18 76 [.int .u64 (IntKind.u64.wrap x0)] fun y1 =>
 .ret [qv1 ((false),y1,())]
theorem fI_IntOf x0:qft qa0 38 [.int .i64 x0] (tI_IntOf x0) :=fitK (by kernel_rfl)
def tI_nameAt (x0:Int) (x1:SlV):T :=
 .br (decide (x0<(0:Int))) (
  .ret [.string ({ data:={ toList:=[]:Array UInt8 }:ByteArray })]) <|
 .br (decide (x0≥(↑x1.n:Int))) (
  .ret [.string ({ data:={ toList:=[]:Array UInt8 }:ByteArray })]) <|
 .el x1.1 (x1.n) x0 fun y1 =>
 .ql28 (y1.add (x0.toNat*(1:Nat))) fun y2 =>
 .ret [.string y2]
theorem fI_nameAt x0 x1:qft qa0 39 [.int .i64 x0,Sc.val .l x1] (tI_nameAt x0 x1) :=fitK (by kernel_rfl)
def tI_intSame (x0:qy0) (x1:qy0):T :=
 .br (x0.1 == x1.1) (
  .qc5 77 [Sc.val .l x0.2.1,Sc.val .l x1.2.1] fun y1 =>
  .ret [.bool y1]) <|
 .rF
theorem fI_intSame x0 x1:qft qa0 40 [qv1 x0,qv1 x1] (tI_intSame x0 x1) :=fitK (by kernel_rfl)
def tI_ratsOk (x0:qy1) (x1:qy1):T :=
 .qc5 61 [qv0 x0] fun y1 =>
 .br y1 (
  .qc5 61 [qv0 x1] fun y2 =>
  .ret [.bool y2]) <|
 .rF
theorem fI_ratsOk x0 x1:qft qa0 41 [qv0 x0,qv0 x1] (tI_ratsOk x0 x1) :=fitK (by kernel_rfl)
def tI_intCmp (x0:qy0) (x1:qy0):T :=
 .rg <|
 .qc14 78 [qv1 x1] fun y1 =>
 .qc11 55 [qv1 x0,qv1 y1] fun y2 =>
 .qc6 62 [qv1 y2] fun y3 =>
 .ret [.int .i64 y3]
theorem fI_intCmp x0 x1:qft qa0 42 [qv1 x0,qv1 x1] (tI_intCmp x0 x1) :=fitK (by kernel_rfl)
def tI_Rat__num (x0:qy1) (x1:SlV):T :=
 .rg <|
 .qc17 49 [Sc.val .l x0.2.1,Sc.val .l x1] fun y1 =>
 .qc11 53 [.bool x0.1,Sc.val .l y1] fun y2 =>
 .ret [qv1 y2]
theorem fI_Rat__num x0 x1:qft qa0 43 [qv0 x0,Sc.val .l x1] (tI_Rat__num x0 x1) :=fitK (by kernel_rfl)
def aI_RatesOk:An:=⟨[(5,[.s 21],[.o (.o (.i .i64))])],[],[]⟩
def tI_RatesOk (x0:qy2):T :=
 .qc5 45 [.string x0.1] fun y1 =>
 .bF y1 <|
 .br (decide ((↑x0.2.1.n:Int) > (12:Int))) (
  .rF) <|
 .mo (.mk 129) (.v (.o (.x))) fun y2 =>
 .lp [.o (.o (.i .i64))] [.v (.int .i64 0)] fun y3 =>
 .br (decide (y3.1<(↑x0.2.1.n:Int))) (
  .el x0.2.1.1 (x0.2.1.n) y3.1 fun y4 =>
  .ql29 (y4.add (Int.toNat y3.1*(5:Nat))) fun y5 =>
  .qc5 79 [qv4 y5] fun y6 =>
  .bF y6 <|
 .mo (.lk 129 (y2.1) (qv7 (y5.1,y5.2.1,())) false) (.v (.o (.b))) fun y7 =>
  .br y7 (
   .rF) <|
 .mo (.up 129 (y2.1) (qv7 (y5.1,y5.2.1,())) (.bool (true))) (.t []) fun _ =>
  .nx 0 [.v (.int .i64 (IntKind.i64.wrap (y3.1+(1:Int))))]) <|
 .rT
theorem fI_RatesOk x0:qft aI_RatesOk 44 [qv2 x0] (tI_RatesOk x0) :=fitK (by kernel_rfl)
def tI_CurKnown (x0:ByteArray):T :=
 .qc30 80 [.string x0] fun y1 =>
 .ret [.bool y1.2.1]
theorem fI_CurKnown x0:qft qa0 45 [.string x0] (tI_CurKnown x0) :=fitK (by kernel_rfl)
def tI_Rates__simple (x0:qy2) (x1:ByteArray) (x2:ByteArray):T :=
 .qc31 81 [qv2 x0,qv7 (x1,x2,())] fun y1 =>
 .br y1.2.1 (
  .ret [.int .i64 2]) <|
 .qc31 81 [qv2 x0,qv7 (x2,x1,())] fun y2 =>
 .br y2.2.1 (
  .ret [.int .i64 3]) <|
 .ret [.int .i64 0]
theorem fI_Rates__simple x0 x1 x2:qft qa0 46 [qv2 x0,.string x1,.string x2] (tI_Rates__simple x0 x1 x2) :=fitK (by kernel_rfl)
def aS_l08Find:An:=⟨[(2,[.s 7,.c 2 0,.c 2 1,.c 2 2,.c 2 3],[.o (.o (.i .i64)),.o (.o (.s)),.o (.o (.s)),.o (.o (.i .i64)),.o (.o (.i .i64))])],[],[]⟩
def tS_l08Find (x0:ByteArray):T :=
 .qc18 82 [] fun y1 =>
 .lp [.o (.o (.i .i64)),.o (.o (.s)),.o (.o (.s)),.o (.o (.i .i64)),.o (.o (.i .i64))] [.v (.int .i64 0),.v (.string ({ data:={ toList:=[]:Array UInt8 }:ByteArray })),.v (.string ({ data:={ toList:=[]:Array UInt8 }:ByteArray })),.v (.int .i64 0),.v (.int .i64 0)] fun y2 =>
 .br (decide (y2.1<(↑y1.n:Int))) (
  .el y1.1 (y1.n) y2.1 fun y3 =>
  .ql32 (y3.add (Int.toNat y2.1*(4:Nat))) fun y4 =>
  .br (ByteArray.toList y4.1 == x0.toList) (
   .ret [qv8 y4]) <|
 .nx 0 [.v (.int .i64 (IntKind.i64.wrap (y2.1+(1:Int)))),.v (.string y2.2.1),.v (.string y2.2.2.1),.v (.int .i64 y2.2.2.2.1),.v (.int .i64 y2.2.2.2.2.1)]) <|
 .ret [qv8 (({ data:={ toList:=[]:Array UInt8 }:ByteArray }),({ data:={ toList:=[]:Array UInt8 }:ByteArray }),(((0:Int)):Int),(((0:Int)):Int),())]
theorem fS_l08Find x0:qft aS_l08Find 47 [.string x0] (tS_l08Find x0) :=fitK (by kernel_rfl)
def tI_RateOf (x0:qy2) (x1:ByteArray) (x2:ByteArray):T :=
 .qc6 15 [qv2 x0,.string x1,.string x2] fun y1 =>
 .br (y1 == (1:Int)) (
  .qc11 38 [.int .i64 1] fun y2 =>
  .qc16 58 [qv1 y2] fun y3 =>
  .ret [qv0 y3.1,.bool y3.2.1]) <|
 .br (y1 == (2:Int)) (
  .qc31 81 [qv2 x0,qv7 (x1,x2,())] fun y2 =>
  .qc25 83 [qv5 y2.1] fun y3 =>
  .ret [qv0 y3,.bool (true)]) <|
 .br (y1 == (3:Int)) (
  .qc31 81 [qv2 x0,qv7 (x2,x1,())] fun y2 =>
  .rg <|
 .qc14 38 [.int .i64 1] fun y3 =>
  .qc19 83 [qv5 (y3.1,y3.2.1,(((0:Int)):Int),())] fun y4 =>
  .qc25 83 [qv5 y2.1] fun y5 =>
  .qc16 84 [qv0 y4,qv0 y5] fun y6 =>
  .ret [qv0 y6.1,.bool y6.2.1]) <|
 .br (y1 == (4:Int)) (
  .qc16 48 [qv2 x0,.string x1,.string x0.1] fun y2 =>
  .qc16 48 [qv2 x0,.string x0.1,.string x2] fun y3 =>
  .br y2.2.1 (
   .br y3.2.1 (
    .qc16 18 [qv0 y2.1,qv0 y3.1] fun y4 =>
    .ret [qv0 y4.1,.bool y4.2.1]) <|
 .ret [qv0 ((false),nilS,nilS,()),.bool (false)]) <|
 .ret [qv0 ((false),nilS,nilS,()),.bool (false)]) <|
 .ret [qv0 ((false),nilS,nilS,()),.bool (false)]
theorem fI_RateOf x0 x1 x2:qft qa0 48 [qv2 x0,.string x1,.string x2] (tI_RateOf x0 x1 x2) :=fitK (by kernel_rfl)
def aI_natMul:An:=⟨[(3,[.s 5,.s 21],[.a 3,.o (.o (.i .i64))]),(7,[.s 5,.s 8,.s 28],[.a 3,.o (.o (.i .i64)),.o (.o (.i .i64))]),(14,[.s 5,.s 8,.s 11],[.a 3,.o (.o (.i .i64)),.o (.o (.i .i64))])],[],[]⟩
def tI_natMul (x0:SlV) (x1:SlV):T :=
 .rq ((0:Int)≤IntKind.i64.wrap (IntKind.i64.wrap ((↑x0.n:Int)+(↑x1.n:Int))+(1:Int))∧IntKind.i64.wrap (IntKind.i64.wrap ((↑x0.n:Int)+(↑x1.n:Int))+(1:Int))≤IntKind.i64.wrap (IntKind.i64.wrap ((↑x0.n:Int)+(↑x1.n:Int))+(1:Int))∧(↑(8:Nat):Int)*IntKind.i64.wrap (IntKind.i64.wrap ((↑x0.n:Int)+(↑x1.n:Int))+(1:Int))≤(281474976710656:Int)∧IntKind.i64.wrap (IntKind.i64.wrap ((↑x0.n:Int)+(↑x1.n:Int))+(1:Int))≤(9223372036854775807:Int)) <|
 .lp [.a 3,.o (.o (.i .i64))] [.a 3 ((IntKind.i64.wrap (IntKind.i64.wrap ((↑x0.n:Int)+(↑x1.n:Int))+(1:Int))).toNat) ((madeCells { toList:=[Value.int IntKind.i64 (0:Int)]:Array Value } ((IntKind.i64.wrap (IntKind.i64.wrap ((↑x0.n:Int)+(↑x1.n:Int))+(1:Int))).toNat*(1:Nat))).toList),.v (.int .i64 0)] fun y1 =>
 .br (decide (y1.2.1<(↑x0.n:Int))) (
  .el x0.1 (x0.n) y1.2.1 fun y2 =>
  .ql10 (y2.add (Int.toNat y1.2.1*(1:Nat))) fun y3 =>
  .lp [.a 3,.o (.o (.i .i64)),.o (.o (.i .i64))] [.a 3 y1.1.1 y1.1.2,.v (.int .i64 0),.v (.int .i64 0)] fun y4 =>
  .br (decide (y4.2.2.1<(↑x1.n:Int))) (
   .el x1.1 (x1.n) y4.2.2.1 fun y5 =>
   .ql10 (y5.add (Int.toNat y4.2.2.1*(1:Nat))) fun y6 =>
   .rq ((0:Int)≤IntKind.i64.wrap (y1.2.1+y4.2.2.1)∧IntKind.i64.wrap (y1.2.1+y4.2.2.1)<(↑y4.1.1:Int)) <|
 .xs y4.1.2 ((IntKind.i64.wrap (y1.2.1+y4.2.2.1)).toNat*(1:Nat)) (.o (.i .i64)) fun y7 =>
   .rq ((1000000000:Int)≠(0:Int)) <|
 .rq ((0:Int)≤IntKind.i64.wrap (y1.2.1+y4.2.2.1)∧IntKind.i64.wrap (y1.2.1+y4.2.2.1)<(↑y4.1.1:Int)) <|
 .rq ((IntKind.i64.wrap (y1.2.1+y4.2.2.1)).toNat*(1:Nat)+[Value.int IntKind.i64 ((IntKind.i64.wrap (y4.2.1+IntKind.i64.wrap (y7+IntKind.i64.wrap (y3*y6)))).tmod (1000000000:Int))].length≤y4.1.2.length) <|
 .rq ((1000000000:Int)≠(0:Int)) <|
 .nx 1 [.a 3 y4.1.1 (setl y4.1.2 ((IntKind.i64.wrap (y1.2.1+y4.2.2.1)).toNat*(1:Nat)) [Value.int IntKind.i64 ((IntKind.i64.wrap (y4.2.1+IntKind.i64.wrap (y7+IntKind.i64.wrap (y3*y6)))).tmod (1000000000:Int))]),.v (.int .i64 (IntKind.i64.wrap ((IntKind.i64.wrap (y4.2.1+IntKind.i64.wrap (y7+IntKind.i64.wrap (y3*y6)))).tdiv (1000000000:Int)))),.v (.int .i64 (IntKind.i64.wrap (y4.2.2.1+(1:Int))))]) <|
 .lp [.a 3,.o (.o (.i .i64)),.o (.o (.i .i64))] [.a 3 y4.1.1 y4.1.2,.v (.int .i64 y4.2.1),.v (.int .i64 (IntKind.i64.wrap (y1.2.1+(↑x1.n:Int))))] fun y5 =>
  .br (decide (y5.2.1 > (0:Int))) (
   .rq ((0:Int)≤y5.2.2.1∧y5.2.2.1<(↑y5.1.1:Int)) <|
 .xs y5.1.2 (Int.toNat y5.2.2.1*(1:Nat)) (.o (.i .i64)) fun y6 =>
   .rq ((1000000000:Int)≠(0:Int)) <|
 .rq ((0:Int)≤y5.2.2.1∧y5.2.2.1<(↑y5.1.1:Int)) <|
 .rq (Int.toNat y5.2.2.1*(1:Nat)+[Value.int IntKind.i64 ((IntKind.i64.wrap (y5.2.1+y6)).tmod (1000000000:Int))].length≤y5.1.2.length) <|
 .rq ((1000000000:Int)≠(0:Int)) <|
 .nx 2 [.a 3 y5.1.1 (setl y5.1.2 (Int.toNat y5.2.2.1*(1:Nat)) [Value.int IntKind.i64 ((IntKind.i64.wrap (y5.2.1+y6)).tmod (1000000000:Int))]),.v (.int .i64 (IntKind.i64.wrap ((IntKind.i64.wrap (y5.2.1+y6)).tdiv (1000000000:Int)))),.v (.int .i64 (IntKind.i64.wrap (y5.2.2.1+(1:Int))))]) <|
 .nx 0 [.a 3 y5.1.1 y5.1.2,.v (.int .i64 (IntKind.i64.wrap (y1.2.1+(1:Int))))]) <|
 .fz y1.1.1 y1.1.2 3 fun b2 c2 =>
 .qc18 85 [.slice (some { block:=b2,off:=(0:Nat):Addr }) y1.1.1 (c2)] fun y3 =>
 .ret [Sc.val .l y3]
theorem fI_natMul x0 x1:qft aI_natMul 49 [Sc.val .l x0,Sc.val .l x1] (tI_natMul x0 x1) :=fitK (by kernel_rfl)
def aI_natTen:An:=⟨[(4,[.s 4,.s 13],[.o (.o (.i .i64)),.o (.o (.i .i64))])],[],[]⟩
def tI_natTen (x0:Int):T :=
 .rq ((9:Int)≠(0:Int)) <|
 .rq ((9:Int)≠(0:Int)) <|
 .rq ((0:Int)≤IntKind.i64.wrap (x0.tdiv (9:Int))∧IntKind.i64.wrap (x0.tdiv (9:Int))≤IntKind.i64.wrap (IntKind.i64.wrap (x0.tdiv (9:Int))+(1:Int))∧(↑(8:Nat):Int)*IntKind.i64.wrap (IntKind.i64.wrap (x0.tdiv (9:Int))+(1:Int))≤(281474976710656:Int)∧IntKind.i64.wrap (IntKind.i64.wrap (x0.tdiv (9:Int))+(1:Int))≤(9223372036854775807:Int)) <|
 .rq ((9:Int)≠(0:Int)) <|
 .lp [.o (.o (.i .i64)),.o (.o (.i .i64))] [.v (.int .i64 1),.v (.int .i64 0)] fun y1 =>
 .br (decide (y1.2.1<x0.tmod (9:Int))) (
  .nx 0 [.v (.int .i64 (IntKind.i64.wrap (y1.1*(10:Int)))),.v (.int .i64 (IntKind.i64.wrap (y1.2.1+(1:Int))))]) <|
 .rq ([Value.int IntKind.i64 y1.1].length=(1:Nat)*(1:Nat)) <|
 .rq (one [Value.int IntKind.i64 y1.1]=true∧((IntKind.i64.wrap (x0.tdiv (9:Int))).toNat+(1:Nat))*(8:Nat)≤(140737488355328:Nat)∧(IntKind.i64.wrap (x0.tdiv (9:Int))).toNat+(1:Nat)≤(9223372036854775807:Nat)) <|
 .fz ((IntKind.i64.wrap (x0.tdiv (9:Int))).toNat+(1:Nat)) ((madeCells { toList:=[Value.int IntKind.i64 (0:Int)]:Array Value } ((IntKind.i64.wrap (x0.tdiv (9:Int))).toNat*(1:Nat))).toList++[Value.int IntKind.i64 y1.1]) 3 fun b2 c2 =>
 .ret [.slice (some { block:=b2,off:=(0:Nat):Addr }) ((IntKind.i64.wrap (x0.tdiv (9:Int))).toNat+(1:Nat)) (c2)]
theorem fI_natTen x0:qft aI_natTen 50 [.int .i64 x0] (tI_natTen x0) :=fitK (by kernel_rfl)
def tI_CurPlaces (x0:ByteArray):T :=
 .qc30 80 [.string x0] fun y1 =>
 .ret [.int .i64 y1.1.2.2.1]
theorem fI_CurPlaces x0:qft qa0 51 [.string x0] (tI_CurPlaces x0) :=fitK (by kernel_rfl)
def tI_reduce (x0:qy0) (x1:SlV):T :=
 .qc18 86 [Sc.val .l x0.2.1,Sc.val .l x1] fun y1 =>
 .qc33 87 [Sc.val .l x0.2.1,Sc.val .l y1] fun y2 =>
 .qc33 87 [Sc.val .l x1,Sc.val .l y1] fun y3 =>
 .br (decide ((↑y2.1.n:Int) > (18:Int))) (
  .ret [qv0 ((false),nilS,nilS,()),.bool (false)]) <|
 .br (decide ((↑y3.1.n:Int) > (18:Int))) (
  .ret [qv0 ((false),nilS,nilS,()),.bool (false)]) <|
 .qc11 53 [.bool x0.1,Sc.val .l y2.1] fun y4 =>
 .ret [qv0 (y4.1,y4.2.1,y3.1,()),.bool (true)]
theorem fI_reduce x0 x1:qft qa0 52 [qv1 x0,Sc.val .l x1] (tI_reduce x0 x1) :=fitK (by kernel_rfl)
def tI_signed (x0:Bool) (x1:SlV):T :=
 .br x0 (
  .ret [qv1 ((decide ((↑x1.n:Int) > (0:Int))),x1,())]) <|
 .ret [qv1 ((false),x1,())]
theorem fI_signed x0 x1:qft qa0 53 [.bool x0,Sc.val .l x1] (tI_signed x0 x1) :=fitK (by kernel_rfl)
def tI_intCopy (x0:qy0):T :=
 .rg <|
 .qc17 88 [Sc.val .l x0.2.1] fun y1 =>
 .ret [qv1 (x0.1,y1,())]
theorem fI_intCopy x0:qft qa0 54 [qv1 x0] (tI_intCopy x0) :=fitK (by kernel_rfl)
def tI_intAdd (x0:qy0) (x1:qy0):T :=
 .br (x0.1 == x1.1) (
  .rg <|
 .qc17 89 [Sc.val .l x0.2.1,Sc.val .l x1.2.1] fun y1 =>
  .qc11 53 [.bool x0.1,Sc.val .l y1] fun y2 =>
  .ret [qv1 y2]) <|
 .qc6 90 [Sc.val .l x0.2.1,Sc.val .l x1.2.1] fun y1 =>
 .br (decide (y1<(0:Int))) (
  .rg <|
 .qc17 91 [Sc.val .l x1.2.1,Sc.val .l x0.2.1] fun y2 =>
  .qc11 53 [.bool x1.1,Sc.val .l y2] fun y3 =>
  .ret [qv1 y3]) <|
 .rg <|
 .qc17 91 [Sc.val .l x0.2.1,Sc.val .l x1.2.1] fun y2 =>
 .qc11 53 [.bool x0.1,Sc.val .l y2] fun y3 =>
 .ret [qv1 y3]
theorem fI_intAdd x0 x1:qft qa0 55 [qv1 x0,qv1 x1] (tI_intAdd x0 x1) :=fitK (by kernel_rfl)
def tI_RatInt (x0:qy0):T :=
 .rg <|
 .qc14 38 [.int .i64 1] fun y1 =>
 .qc16 97 [qv1 x0,qv1 y1] fun y2 =>
 .ret [qv0 y2.1,.bool y2.2.1]
theorem fI_RatInt x0:qft qa0 58 [qv1 x0] (tI_RatInt x0) :=fitK (by kernel_rfl)
def tI_RatOk (x0:qy1):T :=
 .qc5 75 [qv1 (x0.1,x0.2.1,())] fun y1 =>
 .bF y1 <|
 .qc5 103 [Sc.val .l x0.2.2.1] fun y2 =>
 .bF y2 <|
 .br ((↑x0.2.2.1.n:Int) == (0:Int)) (
  .rF) <|
 .br (decide ((↑x0.2.2.1.n:Int) > (18:Int))) (
  .rF) <|
 .br (decide ((↑x0.2.1.n:Int) > (18:Int))) (
  .rF) <|
 .qc18 86 [Sc.val .l x0.2.1,Sc.val .l x0.2.2.1] fun y3 =>
 .br ((↑y3.n:Int) == (1:Int)) (
  .el y3.1 (y3.n) ((0:Int)) fun y4 =>
  .ql10 (y4.add (Int.toNat (0:Int)*(1:Nat))) fun y5 =>
  .ret [.bool (y5 == (1:Int))]) <|
 .rF
theorem fI_RatOk x0:qft qa0 61 [qv0 x0] (tI_RatOk x0) :=fitK (by kernel_rfl)
def tI_intSign (x0:qy0):T :=
 .br ((↑x0.2.1.n:Int) == (0:Int)) (
  .ret [.int .i64 0]) <|
 .br x0.1 (
  .rM) <|
 .ret [.int .i64 1]
theorem fI_intSign x0:qft qa0 62 [qv1 x0] (tI_intSign x0) :=fitK (by kernel_rfl)
def tS_l01Str (x0:Addr) (x1:SlV):T :=
 .qc6 32 [.pointer (some x0),.int .i64 ((↑x1.n:Int))] fun y1 =>
 .el x1.1 (x1.n) y1 fun y2 =>
 .ql28 (y2.add (y1.toNat*(1:Nat))) fun y3 =>
 .ret [.string y3]
theorem fS_l01Str x0 x1:qft qa0 63 [.pointer (some x0),Sc.val .l x1] (tS_l01Str x0 x1) :=fitK (by kernel_rfl)
def aS_l10Draw:An:=⟨[(3,[.s 3,.s 4],[.o (.o (.s)),.o (.o (.s))])],[],[]⟩
def tS_l10Draw (x0:Addr):T :=
 .qc4 68 [.pointer (some x0)] fun y1 =>
 .qc4 68 [.pointer (some x0)] fun y2 =>
 .lp [.o (.o (.s)),.o (.o (.s))] [.v (.string y1),.v (.string y2)] fun y3 =>
 .br (ByteArray.toList y3.1 == ByteArray.toList y3.2.1) (
  .fz ((2:Nat)) [.string ({ data:={ toList:=[(67:UInt8),(72:UInt8),(70:UInt8)]:Array UInt8 }:ByteArray }),.string ({ data:={ toList:=[(69:UInt8),(85:UInt8),(82:UInt8)]:Array UInt8 }:ByteArray })] 9 fun b4 c4 =>
  .qc4 63 [.pointer (some x0),.slice (some { block:=b4,off:=(0:Nat):Addr }) ((2:Nat)) (c4)] fun y5 =>
  .nx 0 [.v (.string y5),.v (.string ({ data:={ toList:=[(85:UInt8),(83:UInt8),(68:UInt8)]:Array UInt8 }:ByteArray }))]) <|
 .qc6 32 [.pointer (some x0),.int .i64 3000] fun y4 =>
 .qc11 31 [.int .i64 (IntKind.i64.wrap ((1:Int)+y4))] fun y5 =>
 .rf <|
 .es [.int .i64 0,.int .i64 1,.int .i64 2,.int .i64 3,.int .i64 4] 3 fun b6 =>
 .cf 104 [.pointer (some x0),.slice (some { block:=b6,off:=(0:Nat):Addr }) ((5:Nat)) ((5:Nat))] (.v (.o (.i .i64))) fun y7 =>
 .ret [qv4 (y3.1,y3.2.1,y5.1,y5.2.1,((y7):Int),())]
theorem fS_l10Draw x0:qft aS_l10Draw 64 [.pointer (some x0)] (tS_l10Draw x0) :=fitK (by kernel_rfl)
def tS_l01Once (x0:Addr) (x1:Int):T :=
 .qc6 32 [.pointer (some x0),.int .i64 x1] fun y1 =>
 .ret [.bool (y1 == (0:Int))]
theorem fS_l01Once x0 x1:qft qa0 65 [.pointer (some x0),.int .i64 x1] (tS_l01Once x0 x1) :=fitK (by kernel_rfl)
def tS_RatePut (x0:qy2) (x1:qy4):T :=
 .qc5 105 [qv2 x0] fun y1 =>
 .bn y1 (.ret [qv2 (({ data:={ toList:=[]:Array UInt8 }:ByteArray }),nilS,()),.bool (false)]) <|
 .qc5 106 [qv4 x1] fun y2 =>
 .bn y2 (.ret [qv2 (({ data:={ toList:=[]:Array UInt8 }:ByteArray }),nilS,()),.bool (false)]) <|
 .qc8 107 [qv2 x0] fun y3 =>
 .qc6 108 [Sc.val .l x0.2.1,.string x1.1,.string x1.2.1] fun y4 =>
 .br (decide (y4≥(0:Int))) (
  .rg <|
 .qc34 109 [qv4 x1] fun y5 =>
  .el y3.2.1.1 (y3.2.1.n) y4 fun y6 =>
  .st (y6.add (y4.toNat*(5:Nat))) [.string y5.1,.string y5.2.1,.bool y5.2.2.1,Sc.val .l y5.2.2.2.1,.int .i64 y5.2.2.2.2.1] <|
 .qc5 105 [qv2 y3] fun y7 =>
  .bn y7 (.ret [qv2 (({ data:={ toList:=[]:Array UInt8 }:ByteArray }),nilS,()),.bool (false)]) <|
 .ret [qv2 y3,.bool (true)]) <|
 .rg <|
 .qc34 109 [qv4 x1] fun y5 =>
 .rq ([Value.string y5.1,Value.string y5.2.1,Value.bool y5.2.2.1,Value.slice y5.2.2.2.1.1 y5.2.2.2.1.n y5.2.2.2.1.c,Value.int IntKind.i64 y5.2.2.2.2.1].length=(1:Nat)*(5:Nat)) <|
 .rq (one [Value.string y5.1,Value.string y5.2.1,Value.bool y5.2.2.1,Value.slice y5.2.2.2.1.1 y5.2.2.2.1.n y5.2.2.2.1.c,Value.int IntKind.i64 y5.2.2.2.2.1]=true) <|
 .ap ({ a:=y3.2.1.1,n:=y3.2.1.n,c:=y3.2.1.c:SlV }) 5 72 [.string y5.1,.string y5.2.1,.bool y5.2.2.1,Sc.val .l y5.2.2.2.1,.int .i64 y5.2.2.2.2.1] ((1:Nat)) 111 fun y6 =>
 .qc5 105 [qv2 (y3.1,y6,())] fun y7 =>
 .bn y7 (.ret [qv2 (({ data:={ toList:=[]:Array UInt8 }:ByteArray }),nilS,()),.bool (false)]) <|
 .ret [qv2 (y3.1,y6,()),.bool (true)]
theorem fS_RatePut x0 x1:qft qa0 66 [qv2 x0,qv4 x1] (tS_RatePut x0 x1) :=fitK (by kernel_rfl)
def tS_l08Any (x0:Addr):T :=
 .qc5 65 [.pointer (some x0),.int .i64 8] fun y1 =>
 .br y1 (
  .fz ((5:Nat)) [.string ({ data:={ toList:=[]:Array UInt8 }:ByteArray }),.string ({ data:={ toList:=[(99:UInt8),(104:UInt8),(102:UInt8)]:Array UInt8 }:ByteArray }),.string ({ data:={ toList:=[(88:UInt8),(88:UInt8),(88:UInt8)]:Array UInt8 }:ByteArray }),.string ({ data:={ toList:=[(67:UInt8),(72:UInt8)]:Array UInt8 }:ByteArray }),.string ({ data:={ toList:=[(69:UInt8),(85:UInt8),(82:UInt8),(79:UInt8)]:Array UInt8 }:ByteArray })] 9 fun b2 c2 =>
  .qc4 63 [.pointer (some x0),.slice (some { block:=b2,off:=(0:Nat):Addr }) ((5:Nat)) (c2)] fun y3 =>
  .ret [.string y3]) <|
 .qc18 110 [] fun y2 =>
 .qc4 63 [.pointer (some x0),Sc.val .l y2] fun y3 =>
 .ret [.string y3]
theorem fS_l08Any x0:qft qa0 67 [.pointer (some x0)] (tS_l08Any x0) :=fitK (by kernel_rfl)
def tS_l08Cur (x0:Addr):T :=
 .fz ((7:Nat)) [.string ({ data:={ toList:=[(67:UInt8),(72:UInt8),(70:UInt8)]:Array UInt8 }:ByteArray }),.string ({ data:={ toList:=[(69:UInt8),(85:UInt8),(82:UInt8)]:Array UInt8 }:ByteArray }),.string ({ data:={ toList:=[(85:UInt8),(83:UInt8),(68:UInt8)]:Array UInt8 }:ByteArray }),.string ({ data:={ toList:=[(74:UInt8),(80:UInt8),(89:UInt8)]:Array UInt8 }:ByteArray }),.string ({ data:={ toList:=[(75:UInt8),(87:UInt8),(68:UInt8)]:Array UInt8 }:ByteArray }),.string ({ data:={ toList:=[(72:UInt8),(85:UInt8),(70:UInt8)]:Array UInt8 }:ByteArray }),.string ({ data:={ toList:=[(67:UInt8),(76:UInt8),(70:UInt8)]:Array UInt8 }:ByteArray })] 9 fun b1 c1 =>
 .qc4 63 [.pointer (some x0),.slice (some { block:=b1,off:=(0:Nat):Addr }) ((7:Nat)) (c1)] fun y2 =>
 .ret [.string y2]
theorem fS_l08Cur x0:qft qa0 68 [.pointer (some x0)] (tS_l08Cur x0) :=fitK (by kernel_rfl)
def tS_l04Make (x0:Bool) (x1:SlV):T :=
 .qc18 111 [Sc.val .l x1] fun y1 =>
 .br x0 (
  .rd ({ a:=y1.1,n:=y1.n,c:=y1.c:SlV }) ((1:Nat)) fun y2 =>
  .rq (one y2=true∧((0:Nat)+y1.n)*(8:Nat)≤(140737488355328:Nat)∧(0:Nat)+y1.n≤(9223372036854775807:Nat)) <|
 .fz ((0:Nat)+y1.n) ([]++y2) 3 fun b3 c3 =>
  .ret [qv1 ((decide ((↑y1.n:Int) > (0:Int))),(⟨(some { block:=b3,off:=(0:Nat):Addr }),((0:Nat)+y1.n),(c3)⟩:SlV),())]) <|
 .rd ({ a:=y1.1,n:=y1.n,c:=y1.c:SlV }) ((1:Nat)) fun y2 =>
 .rq (one y2=true∧((0:Nat)+y1.n)*(8:Nat)≤(140737488355328:Nat)∧(0:Nat)+y1.n≤(9223372036854775807:Nat)) <|
 .fz ((0:Nat)+y1.n) ([]++y2) 3 fun b3 c3 =>
 .ret [qv1 ((false),(⟨(some { block:=b3,off:=(0:Nat):Addr }),((0:Nat)+y1.n),(c3)⟩:SlV),())]
theorem fS_l04Make x0 x1:qft qa0 69 [.bool x0,Sc.val .l x1] (tS_l04Make x0 x1) :=fitK (by kernel_rfl)
def aS_NatOf:An:=⟨[(2,[.s 0,.s 3],[.o (.o (.i .i64)),.a 3])],[],[]⟩
def tS_NatOf (x0:Int):T :=
 .lp [.o (.o (.i .i64)),.a 3] [.v (.int .i64 x0),.a 3 ((0:Nat)) []] fun y1 =>
 .br (decide (y1.1 > (0:Int))) (
  .rq ((1000000000:Int)≠(0:Int)) <|
 .rq ([Value.int IntKind.i64 (Int.tmod y1.1 (1000000000:Int))].length=(1:Nat)*(1:Nat)) <|
 .rq (one [Value.int IntKind.i64 (Int.tmod y1.1 (1000000000:Int))]=true∧(y1.2.1.1+(1:Nat))*(8:Nat)≤(140737488355328:Nat)∧y1.2.1.1+(1:Nat)≤(9223372036854775807:Nat)) <|
 .rq ((1000000000:Int)≠(0:Int)) <|
 .nx 0 [.v (.int .i64 (IntKind.i64.wrap (Int.tdiv y1.1 (1000000000:Int)))),.a 3 (y1.2.1.1+(1:Nat)) (y1.2.1.2++[Value.int IntKind.i64 (Int.tmod y1.1 (1000000000:Int))])]) <|
 .fz y1.2.1.1 y1.2.1.2 3 fun b2 c2 =>
 .ret [.slice (some { block:=b2,off:=(0:Nat):Addr }) y1.2.1.1 (c2)]
theorem fS_NatOf x0:qft aS_NatOf 70 [.int .i64 x0] (tS_NatOf x0) :=fitK (by kernel_rfl)
def tS_l01Byte (x0:Addr):T :=
 .ql10 (x0.add (2:Nat)) fun y1 =>
 .st (x0.add (2:Nat)) [.int .i64 (IntKind.i64.wrap (IntKind.i64.wrap (y1*(6364136223846793005:Int))+(1442695040888963407:Int)))] <|
 .rg <|
 .ql35 (x0.add (2:Nat)) fun y2 =>
 .ql35 (x0.add (2:Nat)) fun y3 =>
 .rg <|
 .ql35 (x0.add (1:Nat)) fun y4 =>
 .ql36 (x0.add (0:Nat)) fun y5 =>
 .br (decide (y4<(↑y5.n:Int))) (
  .rg <|
 .ql36 (x0.add (0:Nat)) fun y6 =>
  .ql35 (x0.add (1:Nat)) fun y7 =>
  .el y6.1 (y6.n) y7 fun y8 =>
  .ql37 (y8.add (y7.toNat*(1:Nat))) fun y9 =>
  .ql10 (x0.add (1:Nat)) fun y10 =>
  .st (x0.add (1:Nat)) [.int .i64 (IntKind.i64.wrap (y10+(1:Int)))] <|
 .ret [.int .i64 (IntKind.i64.wrap (↑(BitVec.ofInt (64:Nat) (IntKind.i64.wrap (IntKind.i64.wrap (↑(BitVec.ofInt (64:Nat) (IntKind.i64.wrap (↑(BitVec.ofInt (64:Nat) (y2.fdiv ((2:Int) ^ min (Int.toNat (33:Int)) (64:Nat))) ^^^ BitVec.ofInt (64:Nat) (y3.fdiv ((2:Int) ^ min (Int.toNat (45:Int)) (64:Nat)))).toNat:Int)) &&& BitVec.ofInt (64:Nat) (255:Int)).toNat:Int)+IntKind.i64.wrap y9)) &&& BitVec.ofInt (64:Nat) (255:Int)).toNat:Int))]) <|
 .ret [.int .i64 (IntKind.i64.wrap (↑(BitVec.ofInt (64:Nat) (IntKind.i64.wrap (↑(BitVec.ofInt (64:Nat) (y2.fdiv ((2:Int) ^ min (Int.toNat (33:Int)) (64:Nat))) ^^^ BitVec.ofInt (64:Nat) (y3.fdiv ((2:Int) ^ min (Int.toNat (45:Int)) (64:Nat)))).toNat:Int)) &&& BitVec.ofInt (64:Nat) (255:Int)).toNat:Int))]
theorem fS_l01Byte x0:qft qa0 71 [.pointer (some x0)] (tS_l01Byte x0) :=fitK (by kernel_rfl)
def aI_checkConversion:An:=⟨[(3,[.s 9,.s 26],[.o (.o (.b)),.o (.o (.i .i64))]),(10,[.s 42],[.o (.o (.i .i64))])],[(2,[.s 9],[.o (.o (.b))])],[]⟩
def tI_checkConversion (x0:qy2) (x1:SlV) (x2:ByteArray) (x3:Int):T :=
 .jn [.o (.o (.b))] (fun y1 =>
  .lp [.o (.o (.b)),.o (.o (.i .i64))] [.v (.bool y1.1),.v (.int .i64 0)] fun y2 =>
  .br (decide (y2.2.1<(↑x1.n:Int))) (
   .el x1.1 (x1.n) y2.2.1 fun y3 =>
   .ql26 (y3.add (Int.toNat y2.2.1*(3:Nat))) fun y4 =>
   .br y2.1 (
    .qc5 35 [qv3 y4] fun y5 =>
    .nx 1 [.v (.bool y5),.v (.int .i64 (IntKind.i64.wrap (y2.2.1+(1:Int))))]) <|
 .nx 1 [.v (.bool (false)),.v (.int .i64 (IntKind.i64.wrap (y2.2.1+(1:Int))))]) <|
 .bn y2.1 (.ret [.iface 120 (qv6 ((((1:Int)):Int),()))]) <|
 .lp [.o (.o (.i .i64))] [.v (.int .i64 0)] fun y3 =>
  .br (decide (y3.1<(↑x1.n:Int))) (
   .el x1.1 (x1.n) y3.1 fun y4 =>
   .ql26 (y4.add (Int.toNat y3.1*(3:Nat))) fun y5 =>
   .qc6 15 [qv2 x0,.string y5.1,.string x2] fun y6 =>
   .br (y6 == (0:Int)) (
    .ret [.iface 120 (qv6 ((((2:Int)):Int),()))]) <|
 .nx 2 [.v (.int .i64 (IntKind.i64.wrap (y3.1+(1:Int))))]) <|
 .ret [.nilIface]) <|
 .qc5 44 [qv2 x0] fun y1 =>
 .br y1 (
  .qc5 45 [.string x2] fun y2 =>
  .br y2 (
   .qc5 112 [.int .i64 x3] fun y3 =>
   .nx 0 [.v (.bool y3)]) <|
 .nx 0 [.v (.bool (false))]) <|
 .nx 0 [.v (.bool (false))]
theorem fI_checkConversion x0 x1 x2 x3:qft aI_checkConversion 72 [qv2 x0,Sc.val .l x1,.string x2,.int .i64 x3] (tI_checkConversion x0 x1 x2 x3) :=fitK (by kernel_rfl)
def tI_RatMoney (x0:ByteArray) (x1:qy1) (x2:Int):T :=
 .qc38 113 [qv0 x1,.int .i64 x2] fun y1 =>
 .bn y1.2.2.1 (.ret [qv3 (({ data:={ toList:=[]:Array UInt8 }:ByteArray }),(false),nilS,()),qv0 ((false),nilS,nilS,()),.bool (false)]) <|
 .qc3 36 [.string x0,qv1 y1.1] fun y2 =>
 .bn y2.2.1 (.ret [qv3 (({ data:={ toList:=[]:Array UInt8 }:ByteArray }),(false),nilS,()),qv0 ((false),nilS,nilS,()),.bool (false)]) <|
 .rg <|
 .ret [qv3 y2.1,qv0 y1.2.1,.bool (true)]
theorem fI_RatMoney x0 x1 x2:qft qa0 73 [.string x0,qv0 x1,.int .i64 x2] (tI_RatMoney x0 x1 x2) :=fitK (by kernel_rfl)
def tI_IntOk (x0:qy0):T :=
 .qc5 103 [Sc.val .l x0.2.1] fun y1 =>
 .br y1 (
  .br (!x0.1) (
   .rT) <|
 .ret [.bool (decide ((↑x0.2.1.n:Int) > (0:Int)))]) <|
 .rF
theorem fI_IntOk x0:qft qa0 75 [qv1 x0] (tI_IntOk x0) :=fitK (by kernel_rfl)
def aI_natOf:An:=⟨[(2,[.s 0,.s 3],[.o (.o (.i .u64)),.a 3])],[],[]⟩
def tI_natOf (x0:Int):T :=
 .lp [.o (.o (.i .u64)),.a 3] [.v (.int .u64 x0),.a 3 ((0:Nat)) []] fun y1 =>
 .br (decide (y1.1 > (0:Int))) (
  .rq ((1000000000:Int)≠(0:Int)) <|
 .rq ([Value.int IntKind.i64 (IntKind.i64.wrap (Int.tmod y1.1 (1000000000:Int)))].length=(1:Nat)*(1:Nat)) <|
 .rq (one [Value.int IntKind.i64 (IntKind.i64.wrap (Int.tmod y1.1 (1000000000:Int)))]=true∧(y1.2.1.1+(1:Nat))*(8:Nat)≤(140737488355328:Nat)∧y1.2.1.1+(1:Nat)≤(9223372036854775807:Nat)) <|
 .rq ((1000000000:Int)≠(0:Int)) <|
 .nx 0 [.v (.int .u64 (IntKind.u64.wrap (Int.tdiv y1.1 (1000000000:Int)))),.a 3 (y1.2.1.1+(1:Nat)) (y1.2.1.2++[Value.int IntKind.i64 (IntKind.i64.wrap (Int.tmod y1.1 (1000000000:Int)))])]) <|
 .fz y1.2.1.1 y1.2.1.2 3 fun b2 c2 =>
 .ret [.slice (some { block:=b2,off:=(0:Nat):Addr }) y1.2.1.1 (c2)]
theorem fI_natOf x0:qft aI_natOf 76 [.int .u64 x0] (tI_natOf x0) :=fitK (by kernel_rfl)
def aI_sameInts:An:=⟨[(4,[.s 13],[.o (.o (.i .i64))])],[],[]⟩
def tI_sameInts (x0:SlV) (x1:SlV):T :=
 .br ((↑x0.n:Int) != (↑x1.n:Int)) (
  .rF) <|
 .lp [.o (.o (.i .i64))] [.v (.int .i64 0)] fun y1 =>
 .br (decide (y1.1<(↑x0.n:Int))) (
  .rg <|
 .el x0.1 (x0.n) y1.1 fun y2 =>
  .ql35 (y2.add (Int.toNat y1.1*(1:Nat))) fun y3 =>
  .el x1.1 (x1.n) y1.1 fun y4 =>
  .ql35 (y4.add (Int.toNat y1.1*(1:Nat))) fun y5 =>
  .br (y3 != y5) (
   .rF) <|
 .nx 0 [.v (.int .i64 (IntKind.i64.wrap (y1.1+(1:Int))))]) <|
 .rT
theorem fI_sameInts x0 x1:qft aI_sameInts 77 [Sc.val .l x0,Sc.val .l x1] (tI_sameInts x0 x1) :=fitK (by kernel_rfl)
def tI_intNeg (x0:qy0):T :=
 .rg <|
 .qc17 88 [Sc.val .l x0.2.1] fun y1 =>
 .qc11 53 [.bool (!x0.1),Sc.val .l y1] fun y2 =>
 .ret [qv1 y2]
theorem fI_intNeg x0:qft qa0 78 [qv1 x0] (tI_intNeg x0) :=fitK (by kernel_rfl)
def tI_RateOk (x0:qy4):T :=
 .qc5 45 [.string x0.1] fun y1 =>
 .br y1 (
  .qc5 45 [.string x0.2.1] fun y2 =>
  .br y2 (
   .br (!ByteArray.toList x0.1 == ByteArray.toList x0.2.1) (
    .qc5 118 [qv5 x0.2.2] fun y3 =>
    .br y3 (
     .qc6 62 [qv1 (x0.2.2.1,x0.2.2.2.1,())] fun y4 =>
     .br (decide (y4 > (0:Int))) (
      .ret [.bool (decide ((↑x0.2.2.2.1.n:Int)≤(2:Int)))]) <|
 .rF) <|
 .rF) <|
 .rF) <|
 .rF) <|
 .rF
theorem fI_RateOk x0:qft qa0 79 [qv4 x0] (tI_RateOk x0) :=fitK (by kernel_rfl)
def aI_currencyOf:An:=⟨[(2,[.s 7,.c 2 0,.c 2 1,.c 2 2,.c 2 3],[.o (.o (.i .i64)),.o (.o (.s)),.o (.o (.s)),.o (.o (.i .i64)),.o (.o (.i .i64))])],[],[]⟩
def tI_currencyOf (x0:ByteArray):T :=
 .ql39 ({ block:=(1:Nat),off:=(0:Nat):Addr }) fun y1 =>
 .lp [.o (.o (.i .i64)),.o (.o (.s)),.o (.o (.s)),.o (.o (.i .i64)),.o (.o (.i .i64))] [.v (.int .i64 0),.v (.string ({ data:={ toList:=[]:Array UInt8 }:ByteArray })),.v (.string ({ data:={ toList:=[]:Array UInt8 }:ByteArray })),.v (.int .i64 0),.v (.int .i64 0)] fun y2 =>
 .br (decide (y2.1<(20:Int))) (
  .rq ((0:Int)≤y2.1∧y2.1<(↑(20:Nat):Int)) <|
 .xs [.string y1.1,.string y1.2.1,.int .i64 y1.2.2.1,.int .i64 y1.2.2.2.1,.string y1.2.2.2.2.1,.string y1.2.2.2.2.2.1,.int .i64 y1.2.2.2.2.2.2.1,.int .i64 y1.2.2.2.2.2.2.2.1,.string y1.2.2.2.2.2.2.2.2.1,.string y1.2.2.2.2.2.2.2.2.2.1,.int .i64 y1.2.2.2.2.2.2.2.2.2.2.1,.int .i64 y1.2.2.2.2.2.2.2.2.2.2.2.1,.string y1.2.2.2.2.2.2.2.2.2.2.2.2.1,.string y1.2.2.2.2.2.2.2.2.2.2.2.2.2.1,.int .i64 y1.2.2.2.2.2.2.2.2.2.2.2.2.2.2.1,.int .i64 y1.2.2.2.2.2.2.2.2.2.2.2.2.2.2.2.1,.string y1.2.2.2.2.2.2.2.2.2.2.2.2.2.2.2.2.1,.string y1.2.2.2.2.2.2.2.2.2.2.2.2.2.2.2.2.2.1,.int .i64 y1.2.2.2.2.2.2.2.2.2.2.2.2.2.2.2.2.2.2.1,.int .i64 y1.2.2.2.2.2.2.2.2.2.2.2.2.2.2.2.2.2.2.2.1,.string y1.2.2.2.2.2.2.2.2.2.2.2.2.2.2.2.2.2.2.2.2.1,.string y1.2.2.2.2.2.2.2.2.2.2.2.2.2.2.2.2.2.2.2.2.2.1,.int .i64 y1.2.2.2.2.2.2.2.2.2.2.2.2.2.2.2.2.2.2.2.2.2.2.1,.int .i64 y1.2.2.2.2.2.2.2.2.2.2.2.2.2.2.2.2.2.2.2.2.2.2.2.1,.string y1.2.2.2.2.2.2.2.2.2.2.2.2.2.2.2.2.2.2.2.2.2.2.2.2.1,.string y1.2.2.2.2.2.2.2.2.2.2.2.2.2.2.2.2.2.2.2.2.2.2.2.2.2.1,.int .i64 y1.2.2.2.2.2.2.2.2.2.2.2.2.2.2.2.2.2.2.2.2.2.2.2.2.2.2.1,.int .i64 y1.2.2.2.2.2.2.2.2.2.2.2.2.2.2.2.2.2.2.2.2.2.2.2.2.2.2.2.1,.string y1.2.2.2.2.2.2.2.2.2.2.2.2.2.2.2.2.2.2.2.2.2.2.2.2.2.2.2.2.1,.string y1.2.2.2.2.2.2.2.2.2.2.2.2.2.2.2.2.2.2.2.2.2.2.2.2.2.2.2.2.2.1,.int .i64 y1.2.2.2.2.2.2.2.2.2.2.2.2.2.2.2.2.2.2.2.2.2.2.2.2.2.2.2.2.2.2.1,.int .i64 y1.2.2.2.2.2.2.2.2.2.2.2.2.2.2.2.2.2.2.2.2.2.2.2.2.2.2.2.2.2.2.2.1,.string y1.2.2.2.2.2.2.2.2.2.2.2.2.2.2.2.2.2.2.2.2.2.2.2.2.2.2.2.2.2.2.2.2.1,.string y1.2.2.2.2.2.2.2.2.2.2.2.2.2.2.2.2.2.2.2.2.2.2.2.2.2.2.2.2.2.2.2.2.2.1,.int .i64 y1.2.2.2.2.2.2.2.2.2.2.2.2.2.2.2.2.2.2.2.2.2.2.2.2.2.2.2.2.2.2.2.2.2.2.1,.int .i64 y1.2.2.2.2.2.2.2.2.2.2.2.2.2.2.2.2.2.2.2.2.2.2.2.2.2.2.2.2.2.2.2.2.2.2.2.1,.string y1.2.2.2.2.2.2.2.2.2.2.2.2.2.2.2.2.2.2.2.2.2.2.2.2.2.2.2.2.2.2.2.2.2.2.2.2.1,.string y1.2.2.2.2.2.2.2.2.2.2.2.2.2.2.2.2.2.2.2.2.2.2.2.2.2.2.2.2.2.2.2.2.2.2.2.2.2.1,.int .i64 y1.2.2.2.2.2.2.2.2.2.2.2.2.2.2.2.2.2.2.2.2.2.2.2.2.2.2.2.2.2.2.2.2.2.2.2.2.2.2.1,.int .i64 y1.2.2.2.2.2.2.2.2.2.2.2.2.2.2.2.2.2.2.2.2.2.2.2.2.2.2.2.2.2.2.2.2.2.2.2.2.2.2.2.1,.string y1.2.2.2.2.2.2.2.2.2.2.2.2.2.2.2.2.2.2.2.2.2.2.2.2.2.2.2.2.2.2.2.2.2.2.2.2.2.2.2.2.1,.string y1.2.2.2.2.2.2.2.2.2.2.2.2.2.2.2.2.2.2.2.2.2.2.2.2.2.2.2.2.2.2.2.2.2.2.2.2.2.2.2.2.2.1,.int .i64 y1.2.2.2.2.2.2.2.2.2.2.2.2.2.2.2.2.2.2.2.2.2.2.2.2.2.2.2.2.2.2.2.2.2.2.2.2.2.2.2.2.2.2.1,.int .i64 y1.2.2.2.2.2.2.2.2.2.2.2.2.2.2.2.2.2.2.2.2.2.2.2.2.2.2.2.2.2.2.2.2.2.2.2.2.2.2.2.2.2.2.2.1,.string y1.2.2.2.2.2.2.2.2.2.2.2.2.2.2.2.2.2.2.2.2.2.2.2.2.2.2.2.2.2.2.2.2.2.2.2.2.2.2.2.2.2.2.2.2.1,.string y1.2.2.2.2.2.2.2.2.2.2.2.2.2.2.2.2.2.2.2.2.2.2.2.2.2.2.2.2.2.2.2.2.2.2.2.2.2.2.2.2.2.2.2.2.2.1,.int .i64 y1.2.2.2.2.2.2.2.2.2.2.2.2.2.2.2.2.2.2.2.2.2.2.2.2.2.2.2.2.2.2.2.2.2.2.2.2.2.2.2.2.2.2.2.2.2.2.1,.int .i64 y1.2.2.2.2.2.2.2.2.2.2.2.2.2.2.2.2.2.2.2.2.2.2.2.2.2.2.2.2.2.2.2.2.2.2.2.2.2.2.2.2.2.2.2.2.2.2.2.1,.string y1.2.2.2.2.2.2.2.2.2.2.2.2.2.2.2.2.2.2.2.2.2.2.2.2.2.2.2.2.2.2.2.2.2.2.2.2.2.2.2.2.2.2.2.2.2.2.2.2.1,.string y1.2.2.2.2.2.2.2.2.2.2.2.2.2.2.2.2.2.2.2.2.2.2.2.2.2.2.2.2.2.2.2.2.2.2.2.2.2.2.2.2.2.2.2.2.2.2.2.2.2.1,.int .i64 y1.2.2.2.2.2.2.2.2.2.2.2.2.2.2.2.2.2.2.2.2.2.2.2.2.2.2.2.2.2.2.2.2.2.2.2.2.2.2.2.2.2.2.2.2.2.2.2.2.2.2.1,.int .i64 y1.2.2.2.2.2.2.2.2.2.2.2.2.2.2.2.2.2.2.2.2.2.2.2.2.2.2.2.2.2.2.2.2.2.2.2.2.2.2.2.2.2.2.2.2.2.2.2.2.2.2.2.1,.string y1.2.2.2.2.2.2.2.2.2.2.2.2.2.2.2.2.2.2.2.2.2.2.2.2.2.2.2.2.2.2.2.2.2.2.2.2.2.2.2.2.2.2.2.2.2.2.2.2.2.2.2.2.1,.string y1.2.2.2.2.2.2.2.2.2.2.2.2.2.2.2.2.2.2.2.2.2.2.2.2.2.2.2.2.2.2.2.2.2.2.2.2.2.2.2.2.2.2.2.2.2.2.2.2.2.2.2.2.2.1,.int .i64 y1.2.2.2.2.2.2.2.2.2.2.2.2.2.2.2.2.2.2.2.2.2.2.2.2.2.2.2.2.2.2.2.2.2.2.2.2.2.2.2.2.2.2.2.2.2.2.2.2.2.2.2.2.2.2.1,.int .i64 y1.2.2.2.2.2.2.2.2.2.2.2.2.2.2.2.2.2.2.2.2.2.2.2.2.2.2.2.2.2.2.2.2.2.2.2.2.2.2.2.2.2.2.2.2.2.2.2.2.2.2.2.2.2.2.2.1,.string y1.2.2.2.2.2.2.2.2.2.2.2.2.2.2.2.2.2.2.2.2.2.2.2.2.2.2.2.2.2.2.2.2.2.2.2.2.2.2.2.2.2.2.2.2.2.2.2.2.2.2.2.2.2.2.2.2.1,.string y1.2.2.2.2.2.2.2.2.2.2.2.2.2.2.2.2.2.2.2.2.2.2.2.2.2.2.2.2.2.2.2.2.2.2.2.2.2.2.2.2.2.2.2.2.2.2.2.2.2.2.2.2.2.2.2.2.2.1,.int .i64 y1.2.2.2.2.2.2.2.2.2.2.2.2.2.2.2.2.2.2.2.2.2.2.2.2.2.2.2.2.2.2.2.2.2.2.2.2.2.2.2.2.2.2.2.2.2.2.2.2.2.2.2.2.2.2.2.2.2.2.1,.int .i64 y1.2.2.2.2.2.2.2.2.2.2.2.2.2.2.2.2.2.2.2.2.2.2.2.2.2.2.2.2.2.2.2.2.2.2.2.2.2.2.2.2.2.2.2.2.2.2.2.2.2.2.2.2.2.2.2.2.2.2.2.1,.string y1.2.2.2.2.2.2.2.2.2.2.2.2.2.2.2.2.2.2.2.2.2.2.2.2.2.2.2.2.2.2.2.2.2.2.2.2.2.2.2.2.2.2.2.2.2.2.2.2.2.2.2.2.2.2.2.2.2.2.2.2.1,.string y1.2.2.2.2.2.2.2.2.2.2.2.2.2.2.2.2.2.2.2.2.2.2.2.2.2.2.2.2.2.2.2.2.2.2.2.2.2.2.2.2.2.2.2.2.2.2.2.2.2.2.2.2.2.2.2.2.2.2.2.2.2.1,.int .i64 y1.2.2.2.2.2.2.2.2.2.2.2.2.2.2.2.2.2.2.2.2.2.2.2.2.2.2.2.2.2.2.2.2.2.2.2.2.2.2.2.2.2.2.2.2.2.2.2.2.2.2.2.2.2.2.2.2.2.2.2.2.2.2.1,.int .i64 y1.2.2.2.2.2.2.2.2.2.2.2.2.2.2.2.2.2.2.2.2.2.2.2.2.2.2.2.2.2.2.2.2.2.2.2.2.2.2.2.2.2.2.2.2.2.2.2.2.2.2.2.2.2.2.2.2.2.2.2.2.2.2.2.1,.string y1.2.2.2.2.2.2.2.2.2.2.2.2.2.2.2.2.2.2.2.2.2.2.2.2.2.2.2.2.2.2.2.2.2.2.2.2.2.2.2.2.2.2.2.2.2.2.2.2.2.2.2.2.2.2.2.2.2.2.2.2.2.2.2.2.1,.string y1.2.2.2.2.2.2.2.2.2.2.2.2.2.2.2.2.2.2.2.2.2.2.2.2.2.2.2.2.2.2.2.2.2.2.2.2.2.2.2.2.2.2.2.2.2.2.2.2.2.2.2.2.2.2.2.2.2.2.2.2.2.2.2.2.2.1,.int .i64 y1.2.2.2.2.2.2.2.2.2.2.2.2.2.2.2.2.2.2.2.2.2.2.2.2.2.2.2.2.2.2.2.2.2.2.2.2.2.2.2.2.2.2.2.2.2.2.2.2.2.2.2.2.2.2.2.2.2.2.2.2.2.2.2.2.2.2.1,.int .i64 y1.2.2.2.2.2.2.2.2.2.2.2.2.2.2.2.2.2.2.2.2.2.2.2.2.2.2.2.2.2.2.2.2.2.2.2.2.2.2.2.2.2.2.2.2.2.2.2.2.2.2.2.2.2.2.2.2.2.2.2.2.2.2.2.2.2.2.2.1,.string y1.2.2.2.2.2.2.2.2.2.2.2.2.2.2.2.2.2.2.2.2.2.2.2.2.2.2.2.2.2.2.2.2.2.2.2.2.2.2.2.2.2.2.2.2.2.2.2.2.2.2.2.2.2.2.2.2.2.2.2.2.2.2.2.2.2.2.2.2.1,.string y1.2.2.2.2.2.2.2.2.2.2.2.2.2.2.2.2.2.2.2.2.2.2.2.2.2.2.2.2.2.2.2.2.2.2.2.2.2.2.2.2.2.2.2.2.2.2.2.2.2.2.2.2.2.2.2.2.2.2.2.2.2.2.2.2.2.2.2.2.2.1,.int .i64 y1.2.2.2.2.2.2.2.2.2.2.2.2.2.2.2.2.2.2.2.2.2.2.2.2.2.2.2.2.2.2.2.2.2.2.2.2.2.2.2.2.2.2.2.2.2.2.2.2.2.2.2.2.2.2.2.2.2.2.2.2.2.2.2.2.2.2.2.2.2.2.1,.int .i64 y1.2.2.2.2.2.2.2.2.2.2.2.2.2.2.2.2.2.2.2.2.2.2.2.2.2.2.2.2.2.2.2.2.2.2.2.2.2.2.2.2.2.2.2.2.2.2.2.2.2.2.2.2.2.2.2.2.2.2.2.2.2.2.2.2.2.2.2.2.2.2.2.1,.string y1.2.2.2.2.2.2.2.2.2.2.2.2.2.2.2.2.2.2.2.2.2.2.2.2.2.2.2.2.2.2.2.2.2.2.2.2.2.2.2.2.2.2.2.2.2.2.2.2.2.2.2.2.2.2.2.2.2.2.2.2.2.2.2.2.2.2.2.2.2.2.2.2.1,.string y1.2.2.2.2.2.2.2.2.2.2.2.2.2.2.2.2.2.2.2.2.2.2.2.2.2.2.2.2.2.2.2.2.2.2.2.2.2.2.2.2.2.2.2.2.2.2.2.2.2.2.2.2.2.2.2.2.2.2.2.2.2.2.2.2.2.2.2.2.2.2.2.2.2.1,.int .i64 y1.2.2.2.2.2.2.2.2.2.2.2.2.2.2.2.2.2.2.2.2.2.2.2.2.2.2.2.2.2.2.2.2.2.2.2.2.2.2.2.2.2.2.2.2.2.2.2.2.2.2.2.2.2.2.2.2.2.2.2.2.2.2.2.2.2.2.2.2.2.2.2.2.2.2.1,.int .i64 y1.2.2.2.2.2.2.2.2.2.2.2.2.2.2.2.2.2.2.2.2.2.2.2.2.2.2.2.2.2.2.2.2.2.2.2.2.2.2.2.2.2.2.2.2.2.2.2.2.2.2.2.2.2.2.2.2.2.2.2.2.2.2.2.2.2.2.2.2.2.2.2.2.2.2.2.1,.string y1.2.2.2.2.2.2.2.2.2.2.2.2.2.2.2.2.2.2.2.2.2.2.2.2.2.2.2.2.2.2.2.2.2.2.2.2.2.2.2.2.2.2.2.2.2.2.2.2.2.2.2.2.2.2.2.2.2.2.2.2.2.2.2.2.2.2.2.2.2.2.2.2.2.2.2.2.1,.string y1.2.2.2.2.2.2.2.2.2.2.2.2.2.2.2.2.2.2.2.2.2.2.2.2.2.2.2.2.2.2.2.2.2.2.2.2.2.2.2.2.2.2.2.2.2.2.2.2.2.2.2.2.2.2.2.2.2.2.2.2.2.2.2.2.2.2.2.2.2.2.2.2.2.2.2.2.2.1,.int .i64 y1.2.2.2.2.2.2.2.2.2.2.2.2.2.2.2.2.2.2.2.2.2.2.2.2.2.2.2.2.2.2.2.2.2.2.2.2.2.2.2.2.2.2.2.2.2.2.2.2.2.2.2.2.2.2.2.2.2.2.2.2.2.2.2.2.2.2.2.2.2.2.2.2.2.2.2.2.2.2.1,.int .i64 y1.2.2.2.2.2.2.2.2.2.2.2.2.2.2.2.2.2.2.2.2.2.2.2.2.2.2.2.2.2.2.2.2.2.2.2.2.2.2.2.2.2.2.2.2.2.2.2.2.2.2.2.2.2.2.2.2.2.2.2.2.2.2.2.2.2.2.2.2.2.2.2.2.2.2.2.2.2.2.2.1] (Int.toNat y2.1*(4:Nat)) (.g [.s,.s,.i .i64,.i .i64]) fun y3 =>
  .br (ByteArray.toList y3.1 == x0.toList) (
   .ret [qv8 y3,.bool (true)]) <|
 .nx 0 [.v (.int .i64 (IntKind.i64.wrap (y2.1+(1:Int)))),.v (.string y2.2.1),.v (.string y2.2.2.1),.v (.int .i64 y2.2.2.2.1),.v (.int .i64 y2.2.2.2.2.1)]) <|
 .ret [qv8 (({ data:={ toList:=[]:Array UInt8 }:ByteArray }),({ data:={ toList:=[]:Array UInt8 }:ByteArray }),(((0:Int)):Int),(((0:Int)):Int),()),.bool (false)]
theorem fI_currencyOf x0:qft aI_currencyOf 80 [.string x0] (tI_currencyOf x0) :=fitK (by kernel_rfl)
def aI_Rates__listed:An:=⟨[(2,[.s 11],[.o (.o (.i .i64))])],[],[]⟩
def tI_Rates__listed (x0:qy2) (x1:ByteArray × ByteArray × PUnit):T :=
 .lp [.o (.o (.i .i64))] [.v (.int .i64 0)] fun y1 =>
 .br (decide (y1.1<(↑x0.2.1.n:Int))) (
  .el x0.2.1.1 (x0.2.1.n) y1.1 fun y2 =>
  .ql29 (y2.add (Int.toNat y1.1*(5:Nat))) fun y3 =>
  .br (y3.1 == x1.1 && y3.2.1 == x1.2.1) (
   .ret [qv5 y3.2.2,.bool (true)]) <|
 .nx 0 [.v (.int .i64 (IntKind.i64.wrap (y1.1+(1:Int))))]) <|
 .ret [qv5 ((false),nilS,(((0:Int)):Int),()),.bool (false)]
theorem fI_Rates__listed x0 x1:qft aI_Rates__listed 81 [qv2 x0,qv7 x1] (tI_Rates__listed x0 x1) :=fitK (by kernel_rfl)
def tS_l08Table :T :=
 .fz ((20:Nat)) [.string ({ data:={ toList:=[(65:UInt8),(85:UInt8),(68:UInt8)]:Array UInt8 }:ByteArray }),.string ({ data:={ toList:=[(48:UInt8),(51:UInt8),(54:UInt8)]:Array UInt8 }:ByteArray }),.int .i64 2,.int .i64 5,.string ({ data:={ toList:=[(66:UInt8),(72:UInt8),(68:UInt8)]:Array UInt8 }:ByteArray }),.string ({ data:={ toList:=[(48:UInt8),(52:UInt8),(56:UInt8)]:Array UInt8 }:ByteArray }),.int .i64 3,.int .i64 5,.string ({ data:={ toList:=[(67:UInt8),(65:UInt8),(68:UInt8)]:Array UInt8 }:ByteArray }),.string ({ data:={ toList:=[(49:UInt8),(50:UInt8),(52:UInt8)]:Array UInt8 }:ByteArray }),.int .i64 2,.int .i64 5,.string ({ data:={ toList:=[(67:UInt8),(72:UInt8),(70:UInt8)]:Array UInt8 }:ByteArray }),.string ({ data:={ toList:=[(55:UInt8),(53:UInt8),(54:UInt8)]:Array UInt8 }:ByteArray }),.int .i64 2,.int .i64 5,.string ({ data:={ toList:=[(67:UInt8),(76:UInt8),(70:UInt8)]:Array UInt8 }:ByteArray }),.string ({ data:={ toList:=[(57:UInt8),(57:UInt8),(48:UInt8)]:Array UInt8 }:ByteArray }),.int .i64 4,.int .i64 1,.string ({ data:={ toList:=[(67:UInt8),(90:UInt8),(75:UInt8)]:Array UInt8 }:ByteArray }),.string ({ data:={ toList:=[(50:UInt8),(48:UInt8),(51:UInt8)]:Array UInt8 }:ByteArray }),.int .i64 2,.int .i64 100,.string ({ data:={ toList:=[(68:UInt8),(75:UInt8),(75:UInt8)]:Array UInt8 }:ByteArray }),.string ({ data:={ toList:=[(50:UInt8),(48:UInt8),(56:UInt8)]:Array UInt8 }:ByteArray }),.int .i64 2,.int .i64 50,.string ({ data:={ toList:=[(69:UInt8),(85:UInt8),(82:UInt8)]:Array UInt8 }:ByteArray }),.string ({ data:={ toList:=[(57:UInt8),(55:UInt8),(56:UInt8)]:Array UInt8 }:ByteArray }),.int .i64 2,.int .i64 1,.string ({ data:={ toList:=[(71:UInt8),(66:UInt8),(80:UInt8)]:Array UInt8 }:ByteArray }),.string ({ data:={ toList:=[(56:UInt8),(50:UInt8),(54:UInt8)]:Array UInt8 }:ByteArray }),.int .i64 2,.int .i64 1,.string ({ data:={ toList:=[(72:UInt8),(85:UInt8),(70:UInt8)]:Array UInt8 }:ByteArray }),.string ({ data:={ toList:=[(51:UInt8),(52:UInt8),(56:UInt8)]:Array UInt8 }:ByteArray }),.int .i64 2,.int .i64 500,.string ({ data:={ toList:=[(73:UInt8),(83:UInt8),(75:UInt8)]:Array UInt8 }:ByteArray }),.string ({ data:={ toList:=[(51:UInt8),(53:UInt8),(50:UInt8)]:Array UInt8 }:ByteArray }),.int .i64 0,.int .i64 1,.string ({ data:={ toList:=[(74:UInt8),(80:UInt8),(89:UInt8)]:Array UInt8 }:ByteArray }),.string ({ data:={ toList:=[(51:UInt8),(57:UInt8),(50:UInt8)]:Array UInt8 }:ByteArray }),.int .i64 0,.int .i64 1,.string ({ data:={ toList:=[(75:UInt8),(82:UInt8),(87:UInt8)]:Array UInt8 }:ByteArray }),.string ({ data:={ toList:=[(52:UInt8),(49:UInt8),(48:UInt8)]:Array UInt8 }:ByteArray }),.int .i64 0,.int .i64 10,.string ({ data:={ toList:=[(75:UInt8),(87:UInt8),(68:UInt8)]:Array UInt8 }:ByteArray }),.string ({ data:={ toList:=[(52:UInt8),(49:UInt8),(52:UInt8)]:Array UInt8 }:ByteArray }),.int .i64 3,.int .i64 5,.string ({ data:={ toList:=[(78:UInt8),(79:UInt8),(75:UInt8)]:Array UInt8 }:ByteArray }),.string ({ data:={ toList:=[(53:UInt8),(55:UInt8),(56:UInt8)]:Array UInt8 }:ByteArray }),.int .i64 2,.int .i64 100,.string ({ data:={ toList:=[(78:UInt8),(90:UInt8),(68:UInt8)]:Array UInt8 }:ByteArray }),.string ({ data:={ toList:=[(53:UInt8),(53:UInt8),(52:UInt8)]:Array UInt8 }:ByteArray }),.int .i64 2,.int .i64 10,.string ({ data:={ toList:=[(80:UInt8),(76:UInt8),(78:UInt8)]:Array UInt8 }:ByteArray }),.string ({ data:={ toList:=[(57:UInt8),(56:UInt8),(53:UInt8)]:Array UInt8 }:ByteArray }),.int .i64 2,.int .i64 1,.string ({ data:={ toList:=[(83:UInt8),(69:UInt8),(75:UInt8)]:Array UInt8 }:ByteArray }),.string ({ data:={ toList:=[(55:UInt8),(53:UInt8),(50:UInt8)]:Array UInt8 }:ByteArray }),.int .i64 2,.int .i64 100,.string ({ data:={ toList:=[(84:UInt8),(78:UInt8),(68:UInt8)]:Array UInt8 }:ByteArray }),.string ({ data:={ toList:=[(55:UInt8),(56:UInt8),(56:UInt8)]:Array UInt8 }:ByteArray }),.int .i64 3,.int .i64 10,.string ({ data:={ toList:=[(85:UInt8),(83:UInt8),(68:UInt8)]:Array UInt8 }:ByteArray }),.string ({ data:={ toList:=[(56:UInt8),(52:UInt8),(48:UInt8)]:Array UInt8 }:ByteArray }),.int .i64 2,.int .i64 1] 93 fun b1 c1 =>
 .ret [.slice (some { block:=b1,off:=(0:Nat):Addr }) ((20:Nat)) (c1)]
theorem fS_l08Table :qft qa0 82 [] (tS_l08Table ) :=fitK (by kernel_rfl)
def tI_DecRat (x0:qy5):T :=
 .qc5 118 [qv5 x0] fun y1 =>
 .bn y1 (.ret [qv0 ((false),nilS,nilS,())]) <|
 .rg <|
 .qc17 50 [.int .i64 x0.2.2.1] fun y2 =>
 .qc16 52 [qv1 (x0.1,x0.2.1,()),Sc.val .l y2] fun y3 =>
 .ret [qv0 y3.1]
theorem fI_DecRat x0:qft qa0 83 [qv5 x0] (tI_DecRat x0) :=fitK (by kernel_rfl)
def tI_RatDiv (x0:qy1) (x1:qy1):T :=
 .qc5 41 [qv0 x0,qv0 x1] fun y1 =>
 .bn y1 (.ret [qv0 ((false),nilS,nilS,()),.bool (false)]) <|
 .br ((↑x1.2.1.n:Int) == (0:Int)) (
  .ret [qv0 ((false),nilS,nilS,()),.bool (false)]) <|
 .rg <|
 .qc17 49 [Sc.val .l x0.2.1,Sc.val .l x1.2.2.1] fun y2 =>
 .qc14 53 [.bool (!x0.1 == x1.1),Sc.val .l y2] fun y3 =>
 .qc18 49 [Sc.val .l x0.2.2.1,Sc.val .l x1.2.1] fun y4 =>
 .qc16 52 [qv1 y3,Sc.val .l y4] fun y5 =>
 .ret [qv0 y5.1,.bool y5.2.1]
theorem fI_RatDiv x0 x1:qft qa0 84 [qv0 x0,qv0 x1] (tI_RatDiv x0 x1) :=fitK (by kernel_rfl)
def aI_trim:An:=⟨[(1,[.s 0],[.o (.o (.l))])],[],[]⟩
def tI_trim (x0:SlV):T :=
 .lp [.o (.o (.l))] [.v (Sc.val .l x0)] fun y1 =>
 .br (decide ((↑y1.1.n:Int) > (0:Int))) (
  .el y1.1.1 (y1.1.n) (IntKind.i64.wrap ((↑y1.1.n:Int)-(1:Int))) fun y2 =>
  .ql10 (y2.add ((IntKind.i64.wrap ((↑y1.1.n:Int)-(1:Int))).toNat*(1:Nat))) fun y3 =>
  .br (y3 == (0:Int)) (
   .rq ((0:Int)≤(0:Int)∧(0:Int)≤IntKind.i64.wrap ((↑y1.1.n:Int)-(1:Int))∧IntKind.i64.wrap ((↑y1.1.n:Int)-(1:Int))≤(↑y1.1.c:Int)∧(↑y1.1.c:Int)≤(↑y1.1.c:Int)) <|
 .nx 0 [.v (.slice (if (↑y1.1.c:Int).toNat=Int.toNat (0:Int) then y1.1.1 else Option.map (fun x=>x.add (Int.toNat (0:Int)*Go.Proofs.Tryz.prog.types[(3:Nat)].size)) y1.1.1) ((IntKind.i64.wrap ((↑y1.1.n:Int)-(1:Int))).toNat-Int.toNat (0:Int)) ((↑y1.1.c:Int).toNat-Int.toNat (0:Int)))]) <|
 .ret [Sc.val .l y1.1]) <|
 .ret [Sc.val .l y1.1]
theorem fI_trim x0:qft aI_trim 85 [Sc.val .l x0] (tI_trim x0) :=fitK (by kernel_rfl)
def aI_natGcd:An:=⟨[(1,[.s 0,.s 1],[.o (.o (.l)),.o (.o (.l))])],[],[]⟩
def tI_natGcd (x0:SlV) (x1:SlV):T :=
 .lp [.o (.o (.l)),.o (.o (.l))] [.v (Sc.val .l x0),.v (Sc.val .l x1)] fun y1 =>
 .br (decide ((↑y1.2.1.n:Int) > (0:Int))) (
  .qc33 87 [Sc.val .l y1.1,Sc.val .l y1.2.1] fun y2 =>
  .nx 0 [.v (Sc.val .l y1.2.1),.v (Sc.val .l y2.2.1)]) <|
 .qc18 88 [Sc.val .l y1.1] fun y2 =>
 .ret [Sc.val .l y2]
theorem fI_natGcd x0 x1:qft aI_natGcd 86 [Sc.val .l x0,Sc.val .l x1] (tI_natGcd x0 x1) :=fitK (by kernel_rfl)
def aI_natDiv:An:=⟨[(9,[.s 9],[.o (.o (.l))]),(14,[.s 12,.s 13],[.a 3,.o (.o (.i .i64))])],[],[]⟩
def tI_natDiv (x0:SlV) (x1:SlV):T :=
 .qc6 90 [Sc.val .l x0,Sc.val .l x1] fun y1 =>
 .br (decide (y1<(0:Int))) (
  .qc18 88 [Sc.val .l x0] fun y2 =>
  .fz ((0:Nat)) [] 3 fun b3 c3 =>
  .ret [.slice (some { block:=b3,off:=(0:Nat):Addr }) ((0:Nat)) (c3),Sc.val .l y2]) <|
 .br ((↑x1.n:Int) == (1:Int)) (
  .el x1.1 (x1.n) ((0:Int)) fun y2 =>
  .ql10 (y2.add (Int.toNat (0:Int)*(1:Nat))) fun y3 =>
  .qc40 119 [Sc.val .l x0,.int .i64 y3] fun y4 =>
  .qc18 120 [.int .i64 y4.2.1] fun y5 =>
  .ret [Sc.val .l y4.1,Sc.val .l y5]) <|
 .el x1.1 (x1.n) (IntKind.i64.wrap ((↑x1.n:Int)-(1:Int))) fun y2 =>
 .ql10 (y2.add ((IntKind.i64.wrap ((↑x1.n:Int)-(1:Int))).toNat*(1:Nat))) fun y3 =>
 .rq (IntKind.i64.wrap (y3+(1:Int))≠(0:Int)) <|
 .fz ((1:Nat)) [.int .i64 (IntKind.i64.wrap (Int.tdiv (1000000000:Int) (IntKind.i64.wrap (y3+(1:Int)))))] 3 fun b4 c4 =>
 .qc18 49 [Sc.val .l x0,.slice (some { block:=b4,off:=(0:Nat):Addr }) ((1:Nat)) (c4)] fun y5 =>
 .fz ((1:Nat)) [.int .i64 (IntKind.i64.wrap (Int.tdiv (1000000000:Int) (IntKind.i64.wrap (y3+(1:Int)))))] 3 fun b6 c6 =>
 .qc18 49 [Sc.val .l x1,.slice (some { block:=b6,off:=(0:Nat):Addr }) ((1:Nat)) (c6)] fun y7 =>
 .lp [.o (.o (.l))] [.v (Sc.val .l y5)] fun y8 =>
 .br (decide ((↑y8.1.n:Int)≤(↑x0.n:Int))) (
  .rq ([Value.int IntKind.i64 (0:Int)].length=(1:Nat)*(1:Nat)) <|
 .rq (one [Value.int IntKind.i64 (0:Int)]=true) <|
 .ap ({ a:=y8.1.1,n:=y8.1.n,c:=y8.1.c:SlV }) 1 8 [.int .i64 0] ((1:Nat)) 3 fun y9 =>
  .nx 0 [.v (Sc.val .l y9)]) <|
 .rq ((0:Int)≤IntKind.i64.wrap ((↑y8.1.n:Int)-(↑y7.n:Int))∧IntKind.i64.wrap ((↑y8.1.n:Int)-(↑y7.n:Int))≤IntKind.i64.wrap ((↑y8.1.n:Int)-(↑y7.n:Int))∧(↑(8:Nat):Int)*IntKind.i64.wrap ((↑y8.1.n:Int)-(↑y7.n:Int))≤(281474976710656:Int)∧IntKind.i64.wrap ((↑y8.1.n:Int)-(↑y7.n:Int))≤(9223372036854775807:Int)) <|
 .lp [.a 3,.o (.o (.i .i64))] [.a 3 ((IntKind.i64.wrap ((↑y8.1.n:Int)-(↑y7.n:Int))).toNat) ((madeCells { toList:=[Value.int IntKind.i64 (0:Int)]:Array Value } ((IntKind.i64.wrap ((↑y8.1.n:Int)-(↑y7.n:Int))).toNat*(1:Nat))).toList),.v (.int .i64 (IntKind.i64.wrap ((↑(IntKind.i64.wrap ((↑y8.1.n:Int)-(↑y7.n:Int))).toNat:Int)-(1:Int))))] fun y9 =>
 .br (decide (y9.2.1≥(0:Int))) (
  .rq ((0:Int)≤y9.2.1∧y9.2.1≤IntKind.i64.wrap (IntKind.i64.wrap (y9.2.1+(↑y7.n:Int))+(1:Int))∧IntKind.i64.wrap (IntKind.i64.wrap (y9.2.1+(↑y7.n:Int))+(1:Int))≤(↑y8.1.c:Int)∧(↑y8.1.c:Int)≤(↑y8.1.c:Int)) <|
 .qc6 121 [.slice (if (↑y8.1.c:Int).toNat=Int.toNat y9.2.1 then y8.1.1 else Option.map (fun x=>x.add (Int.toNat y9.2.1*Go.Proofs.Tryz.prog.types[(3:Nat)].size)) y8.1.1) ((IntKind.i64.wrap (IntKind.i64.wrap (y9.2.1+(↑y7.n:Int))+(1:Int))).toNat-Int.toNat y9.2.1) ((↑y8.1.c:Int).toNat-Int.toNat y9.2.1),Sc.val .l y7] fun y10 =>
  .rq ((0:Int)≤y9.2.1∧y9.2.1<(↑y9.1.1:Int)) <|
 .rq (Int.toNat y9.2.1*(1:Nat)+[Value.int IntKind.i64 y10].length≤y9.1.2.length) <|
 .nx 1 [.a 3 y9.1.1 (setl y9.1.2 (Int.toNat y9.2.1*(1:Nat)) [Value.int IntKind.i64 y10]),.v (.int .i64 (IntKind.i64.wrap (y9.2.1-(1:Int))))]) <|
 .qc18 85 [Sc.val .l y8.1] fun y10 =>
 .qc40 119 [Sc.val .l y10,.int .i64 (IntKind.i64.wrap (Int.tdiv (1000000000:Int) (IntKind.i64.wrap (y3+(1:Int)))))] fun y11 =>
 .fz y9.1.1 y9.1.2 3 fun b12 c12 =>
 .qc18 85 [.slice (some { block:=b12,off:=(0:Nat):Addr }) y9.1.1 (c12)] fun y13 =>
 .ret [Sc.val .l y13,Sc.val .l y11.1]
theorem fI_natDiv x0 x1:qft aI_natDiv 87 [Sc.val .l x0,Sc.val .l x1] (tI_natDiv x0 x1) :=fitK (by kernel_rfl)
def tI_natCopy (x0:SlV):T :=
 .rd ({ a:=x0.1,n:=x0.n,c:=x0.c:SlV }) ((1:Nat)) fun y1 =>
 .rq (one y1=true∧((0:Nat)+x0.n)*(8:Nat)≤(140737488355328:Nat)∧(0:Nat)+x0.n≤(9223372036854775807:Nat)) <|
 .fz ((0:Nat)+x0.n) ([]++y1) 3 fun b2 c2 =>
 .ret [.slice (some { block:=b2,off:=(0:Nat):Addr }) ((0:Nat)+x0.n) (c2)]
theorem fI_natCopy x0:qft qa0 88 [Sc.val .l x0] (tI_natCopy x0) :=fitK (by kernel_rfl)
def aI_natAdd:An:=⟨[(4,[.s 5,.s 6,.s 7],[.a 3,.o (.o (.i .i64)),.o (.o (.i .i64))])],[],[]⟩
def tI_natAdd (x0:SlV) (x1:SlV):T :=
 .rq ((0:Int)≤(0:Int)∧(0:Int)≤IntKind.i64.wrap ((if (↑x1.n:Int) > (↑x0.n:Int) then (↑x1.n:Int) else (↑x0.n:Int))+(1:Int))∧(↑(8:Nat):Int)*IntKind.i64.wrap ((if (↑x1.n:Int) > (↑x0.n:Int) then (↑x1.n:Int) else (↑x0.n:Int))+(1:Int))≤(281474976710656:Int)∧IntKind.i64.wrap ((if (↑x1.n:Int) > (↑x0.n:Int) then (↑x1.n:Int) else (↑x0.n:Int))+(1:Int))≤(9223372036854775807:Int)) <|
 .lp [.a 3,.o (.o (.i .i64)),.o (.o (.i .i64))] [.a 3 (Int.toNat (0:Int)) [],.v (.int .i64 0),.v (.int .i64 0)] fun y1 =>
 .br (decide (y1.2.2.1<if (↑x1.n:Int) > (↑x0.n:Int) then (↑x1.n:Int) else (↑x0.n:Int))) (
  .br (decide (y1.2.2.1<(↑x0.n:Int))) (
   .el x0.1 (x0.n) y1.2.2.1 fun y2 =>
   .ql10 (y2.add (Int.toNat y1.2.2.1*(1:Nat))) fun y3 =>
   .br (decide (y1.2.2.1<(↑x1.n:Int))) (
    .el x1.1 (x1.n) y1.2.2.1 fun y4 =>
    .ql10 (y4.add (Int.toNat y1.2.2.1*(1:Nat))) fun y5 =>
    .rq ((1000000000:Int)≠(0:Int)) <|
 .rq ([Value.int IntKind.i64 ((IntKind.i64.wrap (IntKind.i64.wrap (y1.2.1+y3)+y5)).tmod (1000000000:Int))].length=(1:Nat)*(1:Nat)) <|
 .rq (one [Value.int IntKind.i64 ((IntKind.i64.wrap (IntKind.i64.wrap (y1.2.1+y3)+y5)).tmod (1000000000:Int))]=true∧(y1.1.1+(1:Nat))*(8:Nat)≤(140737488355328:Nat)∧y1.1.1+(1:Nat)≤(9223372036854775807:Nat)) <|
 .rq ((1000000000:Int)≠(0:Int)) <|
 .nx 0 [.a 3 (y1.1.1+(1:Nat)) (y1.1.2++[Value.int IntKind.i64 ((IntKind.i64.wrap (IntKind.i64.wrap (y1.2.1+y3)+y5)).tmod (1000000000:Int))]),.v (.int .i64 (IntKind.i64.wrap ((IntKind.i64.wrap (IntKind.i64.wrap (y1.2.1+y3)+y5)).tdiv (1000000000:Int)))),.v (.int .i64 (IntKind.i64.wrap (y1.2.2.1+(1:Int))))]) <|
 .rq ((1000000000:Int)≠(0:Int)) <|
 .rq ([Value.int IntKind.i64 ((IntKind.i64.wrap (y1.2.1+y3)).tmod (1000000000:Int))].length=(1:Nat)*(1:Nat)) <|
 .rq (one [Value.int IntKind.i64 ((IntKind.i64.wrap (y1.2.1+y3)).tmod (1000000000:Int))]=true∧(y1.1.1+(1:Nat))*(8:Nat)≤(140737488355328:Nat)∧y1.1.1+(1:Nat)≤(9223372036854775807:Nat)) <|
 .rq ((1000000000:Int)≠(0:Int)) <|
 .nx 0 [.a 3 (y1.1.1+(1:Nat)) (y1.1.2++[Value.int IntKind.i64 ((IntKind.i64.wrap (y1.2.1+y3)).tmod (1000000000:Int))]),.v (.int .i64 (IntKind.i64.wrap ((IntKind.i64.wrap (y1.2.1+y3)).tdiv (1000000000:Int)))),.v (.int .i64 (IntKind.i64.wrap (y1.2.2.1+(1:Int))))]) <|
 .br (decide (y1.2.2.1<(↑x1.n:Int))) (
   .el x1.1 (x1.n) y1.2.2.1 fun y2 =>
   .ql10 (y2.add (Int.toNat y1.2.2.1*(1:Nat))) fun y3 =>
   .rq ((1000000000:Int)≠(0:Int)) <|
 .rq ([Value.int IntKind.i64 ((IntKind.i64.wrap (y1.2.1+y3)).tmod (1000000000:Int))].length=(1:Nat)*(1:Nat)) <|
 .rq (one [Value.int IntKind.i64 ((IntKind.i64.wrap (y1.2.1+y3)).tmod (1000000000:Int))]=true∧(y1.1.1+(1:Nat))*(8:Nat)≤(140737488355328:Nat)∧y1.1.1+(1:Nat)≤(9223372036854775807:Nat)) <|
 .rq ((1000000000:Int)≠(0:Int)) <|
 .nx 0 [.a 3 (y1.1.1+(1:Nat)) (y1.1.2++[Value.int IntKind.i64 ((IntKind.i64.wrap (y1.2.1+y3)).tmod (1000000000:Int))]),.v (.int .i64 (IntKind.i64.wrap ((IntKind.i64.wrap (y1.2.1+y3)).tdiv (1000000000:Int)))),.v (.int .i64 (IntKind.i64.wrap (y1.2.2.1+(1:Int))))]) <|
 .rq ((1000000000:Int)≠(0:Int)) <|
 .rq ([Value.int IntKind.i64 (Int.tmod y1.2.1 (1000000000:Int))].length=(1:Nat)*(1:Nat)) <|
 .rq (one [Value.int IntKind.i64 (Int.tmod y1.2.1 (1000000000:Int))]=true∧(y1.1.1+(1:Nat))*(8:Nat)≤(140737488355328:Nat)∧y1.1.1+(1:Nat)≤(9223372036854775807:Nat)) <|
 .rq ((1000000000:Int)≠(0:Int)) <|
 .nx 0 [.a 3 (y1.1.1+(1:Nat)) (y1.1.2++[Value.int IntKind.i64 (Int.tmod y1.2.1 (1000000000:Int))]),.v (.int .i64 (IntKind.i64.wrap (Int.tdiv y1.2.1 (1000000000:Int)))),.v (.int .i64 (IntKind.i64.wrap (y1.2.2.1+(1:Int))))]) <|
 .rq ([Value.int IntKind.i64 y1.2.1].length=(1:Nat)*(1:Nat)) <|
 .rq (one [Value.int IntKind.i64 y1.2.1]=true∧(y1.1.1+(1:Nat))*(8:Nat)≤(140737488355328:Nat)∧y1.1.1+(1:Nat)≤(9223372036854775807:Nat)) <|
 .fz (y1.1.1+(1:Nat)) (y1.1.2++[Value.int IntKind.i64 y1.2.1]) 3 fun b2 c2 =>
 .qc18 85 [.slice (some { block:=b2,off:=(0:Nat):Addr }) (y1.1.1+(1:Nat)) (c2)] fun y3 =>
 .ret [Sc.val .l y3]
theorem fI_natAdd x0 x1:qft aI_natAdd 89 [Sc.val .l x0,Sc.val .l x1] (tI_natAdd x0 x1) :=fitK (by kernel_rfl)
def aI_natCmp:An:=⟨[(6,[.s 5],[.o (.o (.i .i64))])],[],[]⟩
def tI_natCmp (x0:SlV) (x1:SlV):T :=
 .br ((↑x0.n:Int) != (↑x1.n:Int)) (
  .br (decide ((↑x0.n:Int)<(↑x1.n:Int))) (
   .rM) <|
 .ret [.int .i64 1]) <|
 .lp [.o (.o (.i .i64))] [.v (.int .i64 (IntKind.i64.wrap ((↑x0.n:Int)-(1:Int))))] fun y1 =>
 .br (decide (y1.1≥(0:Int))) (
  .rg <|
 .el x0.1 (x0.n) y1.1 fun y2 =>
  .ql35 (y2.add (Int.toNat y1.1*(1:Nat))) fun y3 =>
  .el x1.1 (x1.n) y1.1 fun y4 =>
  .ql35 (y4.add (Int.toNat y1.1*(1:Nat))) fun y5 =>
  .br (y3 != y5) (
   .rg <|
 .el x0.1 (x0.n) y1.1 fun y6 =>
   .ql35 (y6.add (Int.toNat y1.1*(1:Nat))) fun y7 =>
   .el x1.1 (x1.n) y1.1 fun y8 =>
   .ql35 (y8.add (Int.toNat y1.1*(1:Nat))) fun y9 =>
   .br (decide (y7<y9)) (
    .rM) <|
 .ret [.int .i64 1]) <|
 .nx 0 [.v (.int .i64 (IntKind.i64.wrap (y1.1-(1:Int))))]) <|
 .ret [.int .i64 0]
theorem fI_natCmp x0 x1:qft aI_natCmp 90 [Sc.val .l x0,Sc.val .l x1] (tI_natCmp x0 x1) :=fitK (by kernel_rfl)
def aI_natSub:An:=⟨[(4,[.s 5,.s 6,.s 14],[.a 3,.o (.o (.i .i64)),.o (.o (.i .i64))])],[],[]⟩
def tI_natSub (x0:SlV) (x1:SlV):T :=
 .rq ((0:Int)≤(↑x0.n:Int)∧(↑x0.n:Int)≤(↑x0.n:Int)∧(↑(8:Nat):Int)*(↑x0.n:Int)≤(281474976710656:Int)∧(↑x0.n:Int)≤(9223372036854775807:Int)) <|
 .lp [.a 3,.o (.o (.i .i64)),.o (.o (.i .i64))] [.a 3 ((↑x0.n:Int).toNat) ((madeCells { toList:=[Value.int IntKind.i64 (0:Int)]:Array Value } ((↑x0.n:Int).toNat*(1:Nat))).toList),.v (.int .i64 0),.v (.int .i64 0)] fun y1 =>
 .br (decide (y1.2.2.1<(↑x0.n:Int))) (
  .el x0.1 (x0.n) y1.2.2.1 fun y2 =>
  .ql10 (y2.add (Int.toNat y1.2.2.1*(1:Nat))) fun y3 =>
  .br (decide (y1.2.2.1<(↑x1.n:Int))) (
   .el x1.1 (x1.n) y1.2.2.1 fun y4 =>
   .ql10 (y4.add (Int.toNat y1.2.2.1*(1:Nat))) fun y5 =>
   .br (decide (IntKind.i64.wrap (IntKind.i64.wrap (y3-y1.2.1)-y5)<(0:Int))) (
    .rq ((0:Int)≤y1.2.2.1∧y1.2.2.1<(↑y1.1.1:Int)) <|
 .rq (Int.toNat y1.2.2.1*(1:Nat)+[Value.int IntKind.i64 (IntKind.i64.wrap (IntKind.i64.wrap (IntKind.i64.wrap (y3-y1.2.1)-y5)+(1000000000:Int)))].length≤y1.1.2.length) <|
 .nx 0 [.a 3 y1.1.1 (setl y1.1.2 (Int.toNat y1.2.2.1*(1:Nat)) [Value.int IntKind.i64 (IntKind.i64.wrap (IntKind.i64.wrap (IntKind.i64.wrap (y3-y1.2.1)-y5)+(1000000000:Int)))]),.v (.int .i64 1),.v (.int .i64 (IntKind.i64.wrap (y1.2.2.1+(1:Int))))]) <|
 .rq ((0:Int)≤y1.2.2.1∧y1.2.2.1<(↑y1.1.1:Int)) <|
 .rq (Int.toNat y1.2.2.1*(1:Nat)+[Value.int IntKind.i64 (IntKind.i64.wrap (IntKind.i64.wrap (y3-y1.2.1)-y5))].length≤y1.1.2.length) <|
 .nx 0 [.a 3 y1.1.1 (setl y1.1.2 (Int.toNat y1.2.2.1*(1:Nat)) [Value.int IntKind.i64 (IntKind.i64.wrap (IntKind.i64.wrap (y3-y1.2.1)-y5))]),.v (.int .i64 0),.v (.int .i64 (IntKind.i64.wrap (y1.2.2.1+(1:Int))))]) <|
 .br (decide (IntKind.i64.wrap (y3-y1.2.1)<(0:Int))) (
   .rq ((0:Int)≤y1.2.2.1∧y1.2.2.1<(↑y1.1.1:Int)) <|
 .rq (Int.toNat y1.2.2.1*(1:Nat)+[Value.int IntKind.i64 (IntKind.i64.wrap (IntKind.i64.wrap (y3-y1.2.1)+(1000000000:Int)))].length≤y1.1.2.length) <|
 .nx 0 [.a 3 y1.1.1 (setl y1.1.2 (Int.toNat y1.2.2.1*(1:Nat)) [Value.int IntKind.i64 (IntKind.i64.wrap (IntKind.i64.wrap (y3-y1.2.1)+(1000000000:Int)))]),.v (.int .i64 1),.v (.int .i64 (IntKind.i64.wrap (y1.2.2.1+(1:Int))))]) <|
 .rq ((0:Int)≤y1.2.2.1∧y1.2.2.1<(↑y1.1.1:Int)) <|
 .rq (Int.toNat y1.2.2.1*(1:Nat)+[Value.int IntKind.i64 (IntKind.i64.wrap (y3-y1.2.1))].length≤y1.1.2.length) <|
 .nx 0 [.a 3 y1.1.1 (setl y1.1.2 (Int.toNat y1.2.2.1*(1:Nat)) [Value.int IntKind.i64 (IntKind.i64.wrap (y3-y1.2.1))]),.v (.int .i64 0),.v (.int .i64 (IntKind.i64.wrap (y1.2.2.1+(1:Int))))]) <|
 .fz y1.1.1 y1.1.2 3 fun b2 c2 =>
 .qc18 85 [.slice (some { block:=b2,off:=(0:Nat):Addr }) y1.1.1 (c2)] fun y3 =>
 .ret [Sc.val .l y3]
theorem fI_natSub x0 x1:qft aI_natSub 91 [Sc.val .l x0,Sc.val .l x1] (tI_natSub x0 x1) :=fitK (by kernel_rfl)
def tS_IntOk (x0:qy0):T :=
 .qc5 93 [Sc.val .l x0.2.1] fun y1 =>
 .br y1 (
  .br (!x0.1) (
   .rT) <|
 .ret [.bool (decide ((↑x0.2.1.n:Int) > (0:Int)))]) <|
 .rF
theorem fS_IntOk x0:qft qa0 92 [qv1 x0] (tS_IntOk x0) :=fitK (by kernel_rfl)
def aS_NatOk:An:=⟨[(2,[.s 7],[.o (.o (.i .i64))])],[],[]⟩
def tS_NatOk (x0:SlV):T :=
 .lp [.o (.o (.i .i64))] [.v (.int .i64 0)] fun y1 =>
 .br (decide (y1.1<(↑x0.n:Int))) (
  .el x0.1 (x0.n) y1.1 fun y2 =>
  .ql10 (y2.add (Int.toNat y1.1*(1:Nat))) fun y3 =>
  .qc5 122 [.int .i64 y3,.int .i64 0,.int .i64 999999999] fun y4 =>
  .bF y4 <|
 .nx 0 [.v (.int .i64 (IntKind.i64.wrap (y1.1+(1:Int))))]) <|
 .br (decide ((↑x0.n:Int)≤(50:Int))) (
  .br ((↑x0.n:Int) == (0:Int)) (
   .rT) <|
 .el x0.1 (x0.n) (IntKind.i64.wrap ((↑x0.n:Int)-(1:Int))) fun y2 =>
  .ql10 (y2.add ((IntKind.i64.wrap ((↑x0.n:Int)-(1:Int))).toNat*(1:Nat))) fun y3 =>
  .ret [.bool (y3 != (0:Int))]) <|
 .rF
theorem fS_NatOk x0:qft aS_NatOk 93 [Sc.val .l x0] (tS_NatOk x0) :=fitK (by kernel_rfl)
def aS_l02Cmp:An:=⟨[(6,[.s 5],[.o (.o (.i .i64))])],[],[]⟩
def tS_l02Cmp (x0:SlV) (x1:SlV):T :=
 .br ((↑x0.n:Int) != (↑x1.n:Int)) (
  .br (decide ((↑x0.n:Int)<(↑x1.n:Int))) (
   .rM) <|
 .ret [.int .i64 1]) <|
 .lp [.o (.o (.i .i64))] [.v (.int .i64 (IntKind.i64.wrap ((↑x0.n:Int)-(1:Int))))] fun y1 =>
 .br (decide (y1.1≥(0:Int))) (
  .rg <|
 .el x0.1 (x0.n) y1.1 fun y2 =>
  .ql35 (y2.add (Int.toNat y1.1*(1:Nat))) fun y3 =>
  .el x1.1 (x1.n) y1.1 fun y4 =>
  .ql35 (y4.add (Int.toNat y1.1*(1:Nat))) fun y5 =>
  .br (decide (y3<y5)) (
   .rM) <|
 .rg <|
 .el x0.1 (x0.n) y1.1 fun y6 =>
  .ql35 (y6.add (Int.toNat y1.1*(1:Nat))) fun y7 =>
  .el x1.1 (x1.n) y1.1 fun y8 =>
  .ql35 (y8.add (Int.toNat y1.1*(1:Nat))) fun y9 =>
  .br (decide (y7 > y9)) (
   .ret [.int .i64 1]) <|
 .nx 0 [.v (.int .i64 (IntKind.i64.wrap (y1.1-(1:Int))))]) <|
 .ret [.int .i64 0]
theorem fS_l02Cmp x0 x1:qft aS_l02Cmp 94 [Sc.val .l x0,Sc.val .l x1] (tS_l02Cmp x0 x1) :=fitK (by kernel_rfl)
def tI_RatMake (x0:qy0) (x1:qy0):T :=
 .qc5 125 [qv1 x0,qv1 x1] fun y1 =>
 .bn y1 (.ret [qv0 ((false),nilS,nilS,()),.bool (false)]) <|
 .br ((↑x1.2.1.n:Int) == (0:Int)) (
  .ret [qv0 ((false),nilS,nilS,()),.bool (false)]) <|
 .rg <|
 .qc14 53 [.bool (!x0.1 == x1.1),Sc.val .l x0.2.1] fun y2 =>
 .qc16 52 [qv1 y2,Sc.val .l x1.2.1] fun y3 =>
 .ret [qv0 y3.1,.bool y3.2.1]
theorem fI_RatMake x0 x1:qft qa0 97 [qv1 x0,qv1 x1] (tI_RatMake x0 x1) :=fitK (by kernel_rfl)
def aI_NatOk:An:=⟨[(4,[.s 24],[.o (.o (.i .i64))])],[],[]⟩
def tI_NatOk (x0:SlV):T :=
 .br (decide ((↑x0.n:Int) > (50:Int))) (
  .rF) <|
 .br (decide ((↑x0.n:Int) > (0:Int))) (
  .el x0.1 (x0.n) (IntKind.i64.wrap ((↑x0.n:Int)-(1:Int))) fun y1 =>
  .ql10 (y1.add ((IntKind.i64.wrap ((↑x0.n:Int)-(1:Int))).toNat*(1:Nat))) fun y2 =>
  .br (y2 == (0:Int)) (
   .rF) <|
 .lp [.o (.o (.i .i64))] [.v (.int .i64 0)] fun y3 =>
  .br (decide (y3.1<(↑x0.n:Int))) (
   .el x0.1 (x0.n) y3.1 fun y4 =>
   .ql10 (y4.add (Int.toNat y3.1*(1:Nat))) fun y5 =>
   .br (decide (y5<(0:Int))) (
    .rF) <|
 .br (decide (y5≥(1000000000:Int))) (
    .rF) <|
 .nx 0 [.v (.int .i64 (IntKind.i64.wrap (y3.1+(1:Int))))]) <|
 .rT) <|
 .lp [.o (.o (.i .i64))] [.v (.int .i64 0)] fun y1 =>
 .br (decide (y1.1<(↑x0.n:Int))) (
  .el x0.1 (x0.n) y1.1 fun y2 =>
  .ql10 (y2.add (Int.toNat y1.1*(1:Nat))) fun y3 =>
  .br (decide (y3<(0:Int))) (
   .rF) <|
 .br (decide (y3≥(1000000000:Int))) (
   .rF) <|
 .nx 0 [.v (.int .i64 (IntKind.i64.wrap (y1.1+(1:Int))))]) <|
 .rT
theorem fI_NatOk x0:qft aI_NatOk 103 [Sc.val .l x0] (tI_NatOk x0) :=fitK (by kernel_rfl)
def tS_l01Pick (x0:Addr) (x1:SlV):T :=
 .qc6 32 [.pointer (some x0),.int .i64 ((↑x1.n:Int))] fun y1 =>
 .el x1.1 (x1.n) y1 fun y2 =>
 .ql10 (y2.add (y1.toNat*(1:Nat))) fun y3 =>
 .ret [.int .i64 y3]
theorem fS_l01Pick x0 x1:qft qa0 104 [.pointer (some x0),Sc.val .l x1] (tS_l01Pick x0 x1) :=fitK (by kernel_rfl)
def aS_RatesOk:An:=⟨[(4,[.s 18],[.o (.o (.i .i64))])],[],[]⟩
def tS_RatesOk (x0:qy2):T :=
 .qc5 16 [.string x0.1] fun y1 =>
 .bF y1 <|
 .br (decide ((↑x0.2.1.n:Int) > (12:Int))) (
  .rF) <|
 .lp [.o (.o (.i .i64))] [.v (.int .i64 0)] fun y2 =>
 .br (decide (y2.1<(↑x0.2.1.n:Int))) (
  .el x0.2.1.1 (x0.2.1.n) y2.1 fun y3 =>
  .ql29 (y3.add (Int.toNat y2.1*(5:Nat))) fun y4 =>
  .qc5 106 [qv4 y4] fun y5 =>
  .bF y5 <|
 .qc6 108 [Sc.val .l x0.2.1,.string y4.1,.string y4.2.1] fun y6 =>
  .br (y6 != y2.1) (
   .rF) <|
 .nx 0 [.v (.int .i64 (IntKind.i64.wrap (y2.1+(1:Int))))]) <|
 .rT
theorem fS_RatesOk x0:qft aS_RatesOk 105 [qv2 x0] (tS_RatesOk x0) :=fitK (by kernel_rfl)
def tS_RateOk (x0:qy4):T :=
 .qc5 16 [.string x0.1] fun y1 =>
 .br y1 (
  .qc5 16 [.string x0.2.1] fun y2 =>
  .br y2 (
   .br (!ByteArray.toList x0.1 == ByteArray.toList x0.2.1) (
    .qc5 138 [qv5 x0.2.2] fun y3 =>
    .br y3 (
     .qc6 139 [qv1 (x0.2.2.1,x0.2.2.2.1,())] fun y4 =>
     .br (decide (y4 > (0:Int))) (
      .ret [.bool (decide ((↑x0.2.2.2.1.n:Int)≤(2:Int)))]) <|
 .rF) <|
 .rF) <|
 .rF) <|
 .rF) <|
 .rF
theorem fS_RateOk x0:qft qa0 106 [qv4 x0] (tS_RateOk x0) :=fitK (by kernel_rfl)
def aS_l10Copy:An:=⟨[(3,[.s 12,.c 3 0,.c 3 1],[.o (.o (.i .i64)),.o (.o (.s)),.o (.o (.l))])],[],[]⟩
def tS_l10Copy (x0:qy2):T :=
 .lp [.o (.o (.i .i64)),.o (.o (.s)),.o (.o (.l))] [.v (.int .i64 0),.v (.string x0.1),.v (.slice none 0 0)] fun y1 =>
 .br (decide (y1.1<(↑x0.2.1.n:Int))) (
  .el x0.2.1.1 (x0.2.1.n) y1.1 fun y2 =>
  .ql29 (y2.add (Int.toNat y1.1*(5:Nat))) fun y3 =>
  .rg <|
 .qc34 109 [qv4 y3] fun y4 =>
  .rq ([Value.string y4.1,Value.string y4.2.1,Value.bool y4.2.2.1,Value.slice y4.2.2.2.1.1 y4.2.2.2.1.n y4.2.2.2.1.c,Value.int IntKind.i64 y4.2.2.2.2.1].length=(1:Nat)*(5:Nat)) <|
 .rq (one [Value.string y4.1,Value.string y4.2.1,Value.bool y4.2.2.1,Value.slice y4.2.2.2.1.1 y4.2.2.2.1.n y4.2.2.2.1.c,Value.int IntKind.i64 y4.2.2.2.2.1]=true) <|
 .ap ({ a:=y1.2.2.1.1,n:=y1.2.2.1.n,c:=y1.2.2.1.c:SlV }) 5 72 [.string y4.1,.string y4.2.1,.bool y4.2.2.1,Sc.val .l y4.2.2.2.1,.int .i64 y4.2.2.2.2.1] ((1:Nat)) 111 fun y5 =>
  .nx 0 [.v (.int .i64 (IntKind.i64.wrap (y1.1+(1:Int)))),.v (.string y1.2.1),.v (Sc.val .l y5)]) <|
 .ret [qv2 y1.2]
theorem fS_l10Copy x0:qft aS_l10Copy 107 [qv2 x0] (tS_l10Copy x0) :=fitK (by kernel_rfl)
def aS_l10At:An:=⟨[(2,[.s 11],[.o (.o (.i .i64))])],[],[]⟩
def tS_l10At (x0:SlV) (x1:ByteArray) (x2:ByteArray):T :=
 .lp [.o (.o (.i .i64))] [.v (.int .i64 0)] fun y1 =>
 .br (decide (y1.1<(↑x0.n:Int))) (
  .el x0.1 (x0.n) y1.1 fun y2 =>
  .ql29 (y2.add (Int.toNat y1.1*(5:Nat))) fun y3 =>
  .br (ByteArray.toList y3.1 == x1.toList) (
   .br (ByteArray.toList y3.2.1 == x2.toList) (
    .ret [.int .i64 y1.1]) <|
 .nx 0 [.v (.int .i64 (IntKind.i64.wrap (y1.1+(1:Int))))]) <|
 .nx 0 [.v (.int .i64 (IntKind.i64.wrap (y1.1+(1:Int))))]) <|
 .rM
theorem fS_l10At x0 x1 x2:qft aS_l10At 108 [Sc.val .l x0,.string x1,.string x2] (tS_l10At x0 x1 x2) :=fitK (by kernel_rfl)
def tS_l10Rate (x0:qy4):T :=
 .rg <|
 .qc14 69 [.bool x0.2.2.1,Sc.val .l x0.2.2.2.1] fun y1 =>
 .ret [qv4 (x0.1,x0.2.1,y1.1,y1.2.1,((x0.2.2.2.2.1):Int),())]
theorem fS_l10Rate x0:qft qa0 109 [qv4 x0] (tS_l10Rate x0) :=fitK (by kernel_rfl)
def aS_Curs:An:=⟨[(3,[.s 1,.s 7],[.a 9,.o (.o (.i .i64))])],[],[]⟩
def tS_Curs :T :=
 .qc18 82 [] fun y1 =>
 .lp [.a 9,.o (.o (.i .i64))] [.a 9 ((0:Nat)) [],.v (.int .i64 0)] fun y2 =>
 .br (decide (y2.2.1<(↑y1.n:Int))) (
  .el y1.1 (y1.n) y2.2.1 fun y3 =>
  .ql32 (y3.add (Int.toNat y2.2.1*(4:Nat))) fun y4 =>
  .rq ([Value.string y4.1].length=(1:Nat)*(1:Nat)) <|
 .rq (one [Value.string y4.1]=true∧(y2.1.1+(1:Nat))*(16:Nat)≤(140737488355328:Nat)∧y2.1.1+(1:Nat)≤(9223372036854775807:Nat)) <|
 .nx 0 [.a 9 (y2.1.1+(1:Nat)) (y2.1.2++[Value.string y4.1]),.v (.int .i64 (IntKind.i64.wrap (y2.2.1+(1:Int))))]) <|
 .fz y2.1.1 y2.1.2 9 fun b3 c3 =>
 .ret [.slice (some { block:=b3,off:=(0:Nat):Addr }) y2.1.1 (c3)]
theorem fS_Curs :qft aS_Curs 110 [] (tS_Curs ) :=fitK (by kernel_rfl)
def tS_l02Cap (x0:SlV):T :=
 .qc18 140 [Sc.val .l x0] fun y1 =>
 .br (decide ((↑y1.n:Int) > (50:Int))) (
  .ret [.slice none 0 0]) <|
 .ret [Sc.val .l y1]
theorem fS_l02Cap x0:qft qa0 111 [Sc.val .l x0] (tS_l02Cap x0) :=fitK (by kernel_rfl)
def tI_isMode (x0:Int):T :=
 .br (decide (x0≥(0:Int))) (
  .ret [.bool (decide (x0≤(6:Int)))]) <|
 .rF
theorem fI_isMode x0:qft qa0 112 [.int .i64 x0] (tI_isMode x0) :=fitK (by kernel_rfl)
def tI_RatRest (x0:qy1) (x1:Int):T :=
 .qc41 141 [qv0 x0,.int .i64 x1] fun y1 =>
 .bn y1.2.1 (.ret [qv1 ((false),nilS,()),qv0 ((false),nilS,nilS,()),.bool (false)]) <|
 .qc16 58 [qv1 y1.1] fun y2 =>
 .qc16 142 [qv0 x0,qv0 y2.1] fun y3 =>
 .bn y2.2.1 (.ret [qv1 ((false),nilS,()),qv0 ((false),nilS,nilS,()),.bool (false)]) <|
 .bn y3.2.1 (.ret [qv1 ((false),nilS,()),qv0 ((false),nilS,nilS,()),.bool (false)]) <|
 .rg <|
 .ret [qv1 y1.1,qv0 y3.1,.bool (true)]
theorem fI_RatRest x0 x1:qft qa0 113 [qv0 x0,.int .i64 x1] (tI_RatRest x0 x1) :=fitK (by kernel_rfl)
def tI_DecOk (x0:qy5):T :=
 .qc5 75 [qv1 (x0.1,x0.2.1,())] fun y1 =>
 .br y1 (
  .br (decide ((↑x0.2.1.n:Int)≤(6:Int))) (
   .qc5 146 [.int .i64 x0.2.2.1] fun y2 =>
   .ret [.bool y2]) <|
 .rF) <|
 .rF
theorem fI_DecOk x0:qft qa0 118 [qv5 x0] (tI_DecOk x0) :=fitK (by kernel_rfl)
def aI_natSmall:An:=⟨[(4,[.s 6,.s 7,.s 8],[.a 3,.o (.o (.i .i64)),.o (.o (.i .i64))])],[],[]⟩
def tI_natSmall (x0:SlV) (x1:Int):T :=
 .rq ((0:Int)≤(↑x0.n:Int)∧(↑x0.n:Int)≤(↑x0.n:Int)∧(↑(8:Nat):Int)*(↑x0.n:Int)≤(281474976710656:Int)∧(↑x0.n:Int)≤(9223372036854775807:Int)) <|
 .lp [.a 3,.o (.o (.i .i64)),.o (.o (.i .i64))] [.a 3 ((↑x0.n:Int).toNat) ((madeCells { toList:=[Value.int IntKind.i64 (0:Int)]:Array Value } ((↑x0.n:Int).toNat*(1:Nat))).toList),.v (.int .i64 0),.v (.int .i64 (IntKind.i64.wrap ((↑x0.n:Int)-(1:Int))))] fun y1 =>
 .br (decide (y1.2.2.1≥(0:Int))) (
  .el x0.1 (x0.n) y1.2.2.1 fun y2 =>
  .ql10 (y2.add (Int.toNat y1.2.2.1*(1:Nat))) fun y3 =>
  .rq (x1≠(0:Int)) <|
 .rq ((0:Int)≤y1.2.2.1∧y1.2.2.1<(↑y1.1.1:Int)) <|
 .rq (Int.toNat y1.2.2.1*(1:Nat)+[Value.int IntKind.i64 (IntKind.i64.wrap ((IntKind.i64.wrap (IntKind.i64.wrap (y1.2.1*(1000000000:Int))+y3)).tdiv x1))].length≤y1.1.2.length) <|
 .rq (x1≠(0:Int)) <|
 .nx 0 [.a 3 y1.1.1 (setl y1.1.2 (Int.toNat y1.2.2.1*(1:Nat)) [Value.int IntKind.i64 (IntKind.i64.wrap ((IntKind.i64.wrap (IntKind.i64.wrap (y1.2.1*(1000000000:Int))+y3)).tdiv x1))]),.v (.int .i64 ((IntKind.i64.wrap (IntKind.i64.wrap (y1.2.1*(1000000000:Int))+y3)).tmod x1)),.v (.int .i64 (IntKind.i64.wrap (y1.2.2.1-(1:Int))))]) <|
 .fz y1.1.1 y1.1.2 3 fun b2 c2 =>
 .qc18 85 [.slice (some { block:=b2,off:=(0:Nat):Addr }) y1.1.1 (c2)] fun y3 =>
 .ret [Sc.val .l y3,.int .i64 y1.2.1]
theorem fI_natSmall x0 x1:qft aI_natSmall 119 [Sc.val .l x0,.int .i64 x1] (tI_natSmall x0 x1) :=fitK (by kernel_rfl)
def tI_NatOf (x0:Int):T :=
 .br (decide (x0<(0:Int))) (
  .ret [.slice none 0 0]) <|
 .qc18 76 [.int .u64 (IntKind.u64.wrap x0)] fun y1 =>
 .ret [Sc.val .l y1]
theorem fI_NatOf x0:qft qa0 120 [.int .i64 x0] (tI_NatOf x0) :=fitK (by kernel_rfl)
def aI_divStep:An:=⟨[(4,[.s 7],[.o (.o (.i .i64))])],[],[]⟩
def tI_divStep (x0:SlV) (x1:SlV):T :=
 .rg <|
 .el x0.1 (x0.n) ((↑x1.n:Int)) fun y1 =>
 .ql35 (y1.add ((↑x1.n:Int).toNat*(1:Nat))) fun y2 =>
 .el x0.1 (x0.n) (IntKind.i64.wrap ((↑x1.n:Int)-(1:Int))) fun y3 =>
 .ql35 (y3.add ((IntKind.i64.wrap ((↑x1.n:Int)-(1:Int))).toNat*(1:Nat))) fun y4 =>
 .el x1.1 (x1.n) (IntKind.i64.wrap ((↑x1.n:Int)-(1:Int))) fun y5 =>
 .ql10 (y5.add ((IntKind.i64.wrap ((↑x1.n:Int)-(1:Int))).toNat*(1:Nat))) fun y6 =>
 .rq (y6≠(0:Int)) <|
 .lp [.o (.o (.i .i64))] [.v (.int .i64 (if (999999999:Int)<IntKind.i64.wrap ((IntKind.i64.wrap (IntKind.i64.wrap (y2*(1000000000:Int))+y4)).tdiv y6) then (999999999:Int) else IntKind.i64.wrap ((IntKind.i64.wrap (IntKind.i64.wrap (y2*(1000000000:Int))+y4)).tdiv y6)))] fun y7 =>
 .rg <|
 .br (decide (y7.1 > (0:Int))) (
  .el x1.1 (x1.n) (IntKind.i64.wrap ((↑x1.n:Int)-(1:Int))) fun y8 =>
  .ql35 (y8.add ((IntKind.i64.wrap ((↑x1.n:Int)-(1:Int))).toNat*(1:Nat))) fun y9 =>
  .br (decide (IntKind.i64.wrap (IntKind.i64.wrap (IntKind.i64.wrap (y2*(1000000000:Int))+y4)-IntKind.i64.wrap (y7.1*y9))<(1000000000:Int))) (
   .el x1.1 (x1.n) (IntKind.i64.wrap ((↑x1.n:Int)-(2:Int))) fun y10 =>
   .ql35 (y10.add ((IntKind.i64.wrap ((↑x1.n:Int)-(2:Int))).toNat*(1:Nat))) fun y11 =>
   .el x1.1 (x1.n) (IntKind.i64.wrap ((↑x1.n:Int)-(1:Int))) fun y12 =>
   .ql35 (y12.add ((IntKind.i64.wrap ((↑x1.n:Int)-(1:Int))).toNat*(1:Nat))) fun y13 =>
   .el x0.1 (x0.n) (IntKind.i64.wrap ((↑x1.n:Int)-(2:Int))) fun y14 =>
   .ql35 (y14.add ((IntKind.i64.wrap ((↑x1.n:Int)-(2:Int))).toNat*(1:Nat))) fun y15 =>
   .br (decide (IntKind.i64.wrap (y7.1*y11) > IntKind.i64.wrap (IntKind.i64.wrap (IntKind.i64.wrap (IntKind.i64.wrap (IntKind.i64.wrap (y2*(1000000000:Int))+y4)-IntKind.i64.wrap (y7.1*y13))*(1000000000:Int))+y15))) (
    .nx 0 [.v (.int .i64 (IntKind.i64.wrap (y7.1-(1:Int))))]) <|
 .qc5 147 [Sc.val .l x0,Sc.val .l x1,.int .i64 y7.1] fun y16 =>
   .br y16 (
    .qc42 148 [Sc.val .l x0,Sc.val .l x1] fun _ =>
    .ret [.int .i64 (IntKind.i64.wrap (y7.1-(1:Int)))]) <|
 .ret [.int .i64 y7.1]) <|
 .qc5 147 [Sc.val .l x0,Sc.val .l x1,.int .i64 y7.1] fun y10 =>
  .br y10 (
   .qc42 148 [Sc.val .l x0,Sc.val .l x1] fun _ =>
   .ret [.int .i64 (IntKind.i64.wrap (y7.1-(1:Int)))]) <|
 .ret [.int .i64 y7.1]) <|
 .qc5 147 [Sc.val .l x0,Sc.val .l x1,.int .i64 y7.1] fun y8 =>
 .br y8 (
  .qc42 148 [Sc.val .l x0,Sc.val .l x1] fun _ =>
  .ret [.int .i64 (IntKind.i64.wrap (y7.1-(1:Int)))]) <|
 .ret [.int .i64 y7.1]
theorem fI_divStep x0 x1:qft aI_divStep 121 [Sc.val .l x0,Sc.val .l x1] (tI_divStep x0 x1) :=fitK (by kernel_rfl)
def tS_l01In (x0:Int) (x1:Int) (x2:Int):T :=
 .br (decide (x0≥x1)) (
  .ret [.bool (decide (x0≤x2))]) <|
 .rF
theorem fS_l01In x0 x1 x2:qft qa0 122 [.int .i64 x0,.int .i64 x1,.int .i64 x2] (tS_l01In x0 x1 x2) :=fitK (by kernel_rfl)
def tI_ratNeg (x0:qy1):T :=
 .rg <|
 .qc14 78 [qv1 (x0.1,x0.2.1,())] fun y1 =>
 .qc18 88 [Sc.val .l x0.2.2.1] fun y2 =>
 .ret [qv0 (y1.1,y1.2.1,y2,())]
theorem fI_ratNeg x0:qft qa0 124 [qv0 x0] (tI_ratNeg x0) :=fitK (by kernel_rfl)
def tI_intsOk (x0:qy0) (x1:qy0):T :=
 .qc5 75 [qv1 x0] fun y1 =>
 .br y1 (
  .qc5 75 [qv1 x1] fun y2 =>
  .ret [.bool y2]) <|
 .rF
theorem fI_intsOk x0 x1:qft qa0 125 [qv1 x0,qv1 x1] (tI_intsOk x0 x1) :=fitK (by kernel_rfl)
end
end Go.Proofs.YtmogkainbglpnaaGreatDoor
