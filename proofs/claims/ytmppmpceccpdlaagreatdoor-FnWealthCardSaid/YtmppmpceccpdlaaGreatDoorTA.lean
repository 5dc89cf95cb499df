/-
  What each function of the seat comes to, as a tree; each tree is checked against the code.
-/
import Derived.Test.YtmppmpceccpdlaaGreatDoorEngD
import Derived.Test.YtmppmpceccpdlaaGreatDoorChecked
import Derived.KernelRfl
namespace Go.Proofs.YtmppmpceccpdlaaGreatDoor
open Sx
set_option maxRecDepth 100000
noncomputable section
abbrev qft:=@fits Tryz.prog
abbrev qa0:An:=⟨[],[],[]⟩
abbrev _root_.Sx.T.rF:T:=.ret [.bool false]
abbrev _root_.Sx.T.rT:T:=.ret [.bool true]
abbrev _root_.Sx.T.rM:T:=.ret [.int .i64 (-1)]
abbrev _root_.Sx.T.bF (b:Bool) (y:T):T:=.br (!b) (.ret [.bool false]) y
abbrev _root_.Sx.T.bn (b:Bool) (x:T) (y:T):T:=.br (!b) x y
abbrev _root_.Sx.T.qc0 (g:Nat) (l:List Value) (k:Sh.ty (.v (.g [.l,.l,.s,.l]))→T):T:=.call false g l (.v (.g [.l,.l,.s,.l])) k
abbrev _root_.Sx.T.qc1 (g:Nat) (l:List Value) (k:Sh.ty (.t [(.g [.s,.b,.l]),(.g [.b,.l,.l]),(.o (.i .i64))])→T):T:=.call false g l (.t [(.g [.s,.b,.l]),(.g [.b,.l,.l]),(.o (.i .i64))]) k
abbrev _root_.Sx.T.qc2 (g:Nat) (l:List Value) (k:Sh.ty (.v (.o (.s)))→T):T:=.call false g l (.v (.o (.s))) k
abbrev _root_.Sx.T.qc3 (g:Nat) (l:List Value) (k:Sh.ty (.v (.g [.b,.l,.l]))→T):T:=.call false g l (.v (.g [.b,.l,.l])) k
abbrev _root_.Sx.T.ql4 (a:Addr) (k:Sh1.ty (.g [.s,.s,.b,.l])→T):T:=.ld false a (.g [.s,.s,.b,.l]) k
abbrev _root_.Sx.T.qc5 (g:Nat) (l:List Value) (k:Sh.ty (.t [(.g [.b,.l,.l]),(.o (.b))])→T):T:=.call false g l (.t [(.g [.b,.l,.l]),(.o (.b))]) k
abbrev _root_.Sx.T.qc6 (g:Nat) (l:List Value) (k:Sh.ty (.v (.g [.b,.l,.l]))→T):T:=.call true g l (.v (.g [.b,.l,.l])) k
abbrev _root_.Sx.T.qc7 (g:Nat) (l:List Value) (k:Sh.ty (.t [(.g [.b,.l,.l]),(.o (.b))])→T):T:=.call true g l (.t [(.g [.b,.l,.l]),(.o (.b))]) k
abbrev _root_.Sx.T.qc8 (g:Nat) (l:List Value) (k:Sh.ty (.v (.o (.i .i64)))→T):T:=.call true g l (.v (.o (.i .i64))) k
abbrev _root_.Sx.T.qc9 (g:Nat) (l:List Value) (k:Sh.ty (.v (.o (.b)))→T):T:=.call false g l (.v (.o (.b))) k
abbrev _root_.Sx.T.qc10 (g:Nat) (l:List Value) (k:Sh.ty (.v (.o (.i .i64)))→T):T:=.call false g l (.v (.o (.i .i64))) k
abbrev _root_.Sx.T.qc11 (g:Nat) (l:List Value) (k:Sh.ty (.v (.g [.s,.s,.i .i64,.i .i64]))→T):T:=.call false g l (.v (.g [.s,.s,.i .i64,.i .i64])) k
abbrev _root_.Sx.T.qc12 (g:Nat) (l:List Value) (k:Sh.ty (.v (.o (.l)))→T):T:=.call true g l (.v (.o (.l))) k
abbrev _root_.Sx.T.qc13 (g:Nat) (l:List Value) (k:Sh.ty (.v (.o (.l)))→T):T:=.call false g l (.v (.o (.l))) k
abbrev _root_.Sx.T.qc14 (g:Nat) (l:List Value) (k:Sh.ty (.v (.g [.b,.l]))→T):T:=.call true g l (.v (.g [.b,.l])) k
abbrev _root_.Sx.T.qc15 (g:Nat) (l:List Value) (k:Sh.ty (.v (.g [.b,.l]))→T):T:=.call false g l (.v (.g [.b,.l])) k
abbrev _root_.Sx.T.qc16 (g:Nat) (l:List Value) (k:Sh.ty (.t [(.g [.s,.b,.l]),(.g [.b,.l,.l]),(.o (.e))])→T):T:=.call false g l (.t [(.g [.s,.b,.l]),(.g [.b,.l,.l]),(.o (.e))]) k
abbrev _root_.Sx.T.qc17 (g:Nat) (l:List Value) (k:Sh.ty (.v (.o (.p)))→T):T:=.call false g l (.v (.o (.p))) k
abbrev _root_.Sx.T.ql18 (a:Addr) (k:Sh1.ty (.o (.i .u8))→T):T:=.ld false a (.o (.i .u8)) k
abbrev _root_.Sx.T.qc19 (g:Nat) (l:List Value) (k:Sh.ty (.v (.g [.s,.s,.b,.l,.i .i64]))→T):T:=.call false g l (.v (.g [.s,.s,.b,.l,.i .i64])) k
abbrev _root_.Sx.T.qc20 (g:Nat) (l:List Value) (k:Sh.ty (.t [(.g [.s,.l]),(.o (.b))])→T):T:=.call false g l (.t [(.g [.s,.l]),(.o (.b))]) k
abbrev _root_.Sx.T.ql21 (a:Addr) (k:Sh1.ty (.g [.s,.s,.b,.l,.i .i64])→T):T:=.ld false a (.g [.s,.s,.b,.l,.i .i64]) k
abbrev _root_.Sx.T.qc22 (g:Nat) (l:List Value) (k:Sh.ty (.t [(.g [.s,.s,.i .i64,.i .i64]),(.o (.b))])→T):T:=.call false g l (.t [(.g [.s,.s,.i .i64,.i .i64]),(.o (.b))]) k
abbrev _root_.Sx.T.qc23 (g:Nat) (l:List Value) (k:Sh.ty (.t [(.g [.b,.l,.i .i64]),(.o (.b))])→T):T:=.call false g l (.t [(.g [.b,.l,.i .i64]),(.o (.b))]) k
abbrev _root_.Sx.T.ql24 (a:Addr) (k:Sh1.ty (.g [.s,.s,.i .i64,.i .i64])→T):T:=.ld false a (.g [.s,.s,.i .i64,.i .i64]) k
abbrev _root_.Sx.T.ql25 (a:Addr) (k:Sh1.ty (.o (.i .i64))→T):T:=.ld false a (.o (.i .i64)) k
abbrev _root_.Sx.T.qc26 (g:Nat) (l:List Value) (k:Sh.ty (.t [(.o (.l)),(.o (.l))])→T):T:=.call false g l (.t [(.o (.l)),(.o (.l))]) k
abbrev _root_.Sx.T.qc27 (g:Nat) (l:List Value) (k:Sh.ty (.v (.o (.e)))→T):T:=.call false g l (.v (.o (.e))) k
abbrev _root_.Sx.T.ql28 (a:Addr) (k:Sh1.ty (.g [.s,.b,.l])→T):T:=.ld false a (.g [.s,.b,.l]) k
abbrev _root_.Sx.T.qc29 (g:Nat) (l:List Value) (k:Sh.ty (.t [(.g [.s,.b,.l]),(.g [.b,.l,.l]),(.o (.b))])→T):T:=.call false g l (.t [(.g [.s,.b,.l]),(.g [.b,.l,.l]),(.o (.b))]) k
abbrev _root_.Sx.T.ql30 (a:Addr) (k:Sh1.ty (.o (.s))→T):T:=.ld false a (.o (.s)) k
abbrev _root_.Sx.T.qc31 (g:Nat) (l:List Value) (k:Sh.ty (.v (.g [.l]))→T):T:=.call false g l (.v (.g [.l])) k
abbrev _root_.Sx.T.qc32 (g:Nat) (l:List Value) (k:Sh.ty (.v (.g [.s,.l]))→T):T:=.call false g l (.v (.g [.s,.l])) k
abbrev _root_.Sx.T.qc33 (g:Nat) (l:List Value) (k:Sh.ty (.t [(.o (.l)),(.o (.b))])→T):T:=.call false g l (.t [(.o (.l)),(.o (.b))]) k
abbrev _root_.Sx.T.qc34 (g:Nat) (l:List Value) (k:Sh.ty (.v (.g [.s,.s,.b,.l,.i .i64]))→T):T:=.call true g l (.v (.g [.s,.s,.b,.l,.i .i64])) k
abbrev _root_.Sx.T.ql35 (a:Addr) (k:Sh1.ty (.o (.i .i64))→T):T:=.ld true a (.o (.i .i64)) k
abbrev _root_.Sx.T.ql36 (a:Addr) (k:Sh1.ty (.o (.l))→T):T:=.ld true a (.o (.l)) k
abbrev _root_.Sx.T.ql37 (a:Addr) (k:Sh1.ty (.o (.i .u8))→T):T:=.ld true a (.o (.i .u8)) k
abbrev _root_.Sx.T.ql38 (a:Addr) (k:Sh1.ty (.g [.s,.s,.i .i64,.i .i64,.s,.s,.i .i64,.i .i64,.s,.s,.i .i64,.i .i64,.s,.s,.i .i64,.i .i64,.s,.s,.i .i64,.i .i64,.s,.s,.i .i64,.i .i64,.s,.s,.i .i64,.i .i64,.s,.s,.i .i64,.i .i64,.s,.s,.i .i64,.i .i64,.s,.s,.i .i64,.i .i64,.s,.s,.i .i64,.i .i64,.s,.s,.i .i64,.i .i64,.s,.s,.i .i64,.i .i64,.s,.s,.i .i64,.i .i64,.s,.s,.i .i64,.i .i64,.s,.s,.i .i64,.i .i64,.s,.s,.i .i64,.i .i64,.s,.s,.i .i64,.i .i64,.s,.s,.i .i64,.i .i64,.s,.s,.i .i64,.i .i64])→T):T:=.ld false a (.g [.s,.s,.i .i64,.i .i64,.s,.s,.i .i64,.i .i64,.s,.s,.i .i64,.i .i64,.s,.s,.i .i64,.i .i64,.s,.s,.i .i64,.i .i64,.s,.s,.i .i64,.i .i64,.s,.s,.i .i64,.i .i64,.s,.s,.i .i64,.i .i64,.s,.s,.i .i64,.i .i64,.s,.s,.i .i64,.i .i64,.s,.s,.i .i64,.i .i64,.s,.s,.i .i64,.i .i64,.s,.s,.i .i64,.i .i64,.s,.s,.i .i64,.i .i64,.s,.s,.i .i64,.i .i64,.s,.s,.i .i64,.i .i64,.s,.s,.i .i64,.i .i64,.s,.s,.i .i64,.i .i64,.s,.s,.i .i64,.i .i64,.s,.s,.i .i64,.i .i64]) k
abbrev _root_.Sx.T.qc39 (g:Nat) (l:List Value) (k:Sh.ty (.t [(.o (.l)),(.o (.i .i64))])→T):T:=.call false g l (.t [(.o (.l)),(.o (.i .i64))]) k
abbrev _root_.Sx.T.qc40 (g:Nat) (l:List Value) (k:Sh.ty (.t [(.g [.b,.l]),(.g [.b,.l,.l]),(.o (.b))])→T):T:=.call false g l (.t [(.g [.b,.l]),(.g [.b,.l,.l]),(.o (.b))]) k
abbrev _root_.Sx.T.qc41 (g:Nat) (l:List Value) (k:Sh.ty (.t [(.g [.s,.b,.l]),(.o (.b))])→T):T:=.call false g l (.t [(.g [.s,.b,.l]),(.o (.b))]) k
abbrev _root_.Sx.T.qc42 (g:Nat) (l:List Value) (k:Sh.ty (.t [(.g [.l]),(.o (.b))])→T):T:=.call false g l (.t [(.g [.l]),(.o (.b))]) k
abbrev _root_.Sx.T.ql43 (a:Addr) (k:Sh1.ty (.g [.s,.b,.l,.l])→T):T:=.ld false a (.g [.s,.b,.l,.l]) k
abbrev _root_.Sx.T.qc44 (g:Nat) (l:List Value) (k:Sh.ty (.v (.o (.b)))→T):T:=.call true g l (.v (.o (.b))) k
abbrev _root_.Sx.T.ql45 (a:Addr) (k:Sh1.ty (.o (.s))→T):T:=.ld true a (.o (.s)) k
abbrev _root_.Sx.T.qc46 (g:Nat) (l:List Value) (k:Sh.ty (.t [])→T):T:=.call false g l (.t []) k
abbrev _root_.Sx.T.qc47 (g:Nat) (l:List Value) (k:Sh.ty (.t [(.g [.b,.l]),(.o (.b))])→T):T:=.call false g l (.t [(.g [.b,.l]),(.o (.b))]) k
abbrev _root_.Sx.T.ql48 (a:Addr) (k:Sh1.ty (.g [.s,.b,.l])→T):T:=.ld true a (.g [.s,.b,.l]) k
abbrev _root_.Sx.T.qc49 (g:Nat) (l:List Value) (k:Sh.ty (.v (.g [.s,.b,.l]))→T):T:=.call true g l (.v (.g [.s,.b,.l])) k
abbrev _root_.Sx.T.qc50 (g:Nat) (l:List Value) (k:Sh.ty (.v (.g [.s,.f,.s,.f,.s,.f,.s,.f,.s,.f,.s,.f,.s,.f]))→T):T:=.call true g l (.v (.g [.s,.f,.s,.f,.s,.f,.s,.f,.s,.f,.s,.f,.s,.f])) k
def aL_FnWealth:An:=⟨[(10,[.s 38,.c 8 0,.c 8 1,.c 8 2],[.o (.o (.i .i64)),.o (.o (.b)),.o (.o (.l)),.o (.o (.l))])],[],[]⟩
def tL_FnWealth (x0:SlV):T :=
 .br (decide ((↑x0.n:Int) > (1048576:Int))) (
  .rT) <|
 .qc0 23 [Sc.val .l x0] fun y1 =>
 .qc1 24 [qv7 y1,.string y1.2.2.1,.int .i64 2] fun y2 =>
 .br (y2.2.2.1 != (0:Int)) (
  .qc2 21 [.int .i64 y2.2.2.1] fun y3 =>
  .ret [.bool (!y3.toList == { data:={ toList:=[]:Array UInt8 }:ByteArray }.toList)]) <|
 .qc3 25 [] fun y3 =>
 .lp [.o (.o (.i .i64)),.o (.o (.b)),.o (.o (.l)),.o (.o (.l))] [.v (.int .i64 0),.v (.bool y3.1),.v (Sc.val .l y3.2.1),.v (Sc.val .l y3.2.2.1)] fun y4 =>
 .br (decide (y4.1<(↑y1.1.n:Int))) (
  .el y1.1.1 (y1.1.n) y4.1 fun y5 =>
  .ql4 (y5.add (Int.toNat y4.1*(4:Nat))) fun y6 =>
  .qc5 16 [qv3 y1.2.2,qv2 y6.2,.string y1.2.2.1] fun y7 =>
  .bF y7.2.1 <|
 .qc5 15 [qv0 y4.2,qv0 y7.1] fun y8 =>
  .qc3 26 [qv0 y8.1,.bool y8.2.1] fun y9 =>
  .nx 0 [.v (.int .i64 (IntKind.i64.wrap (y4.1+(1:Int)))),.v (.bool y9.1),.v (Sc.val .l y9.2.1),.v (Sc.val .l y9.2.2.1)]) <|
 .rg <|
 .qc6 14 [qv2 y2.1] fun y5 =>
 .qc7 15 [qv0 y5,qv0 y2.2.1] fun y6 =>
 .qc6 26 [qv0 y6.1,.bool y6.2.1] fun y7 =>
 .qc8 17 [qv0 y7,qv0 y4.2] fun y8 =>
 .br (y8 == (0:Int)) (
  .qc8 27 [qv0 y2.2.1] fun y9 =>
  .br (decide (y9≥(0:Int))) (
   .qc9 18 [qv0 y2.2.1] fun y10 =>
   .ret [.bool y10]) <|
 .rF) <|
 .rF
theorem fL_FnWealth x0:qft aL_FnWealth 5 [Sc.val .l x0] (tL_FnWealth x0) :=fitK (by kernel_rfl)
def tI_RateHow (x0:qy2) (x1:ByteArray) (x2:ByteArray):T :=
 .qc9 33 [qv3 x0] fun y1 =>
 .bn y1 (.ret [.int .i64 0]) <|
 .qc9 34 [.string x1] fun y2 =>
 .bn y2 (.ret [.int .i64 0]) <|
 .qc9 34 [.string x2] fun y3 =>
 .bn y3 (.ret [.int .i64 0]) <|
 .br (x1.toList == x2.toList) (
  .ret [.int .i64 1]) <|
 .qc10 35 [qv3 x0,.string x1,.string x2] fun y4 =>
 .br (y4 != (0:Int)) (
  .qc10 35 [qv3 x0,.string x1,.string x2] fun y5 =>
  .ret [.int .i64 y5]) <|
 .br (!x1.toList == ByteArray.toList x0.1) (
  .br (!x2.toList == ByteArray.toList x0.1) (
   .qc10 35 [qv3 x0,.string x1,.string x0.1] fun y5 =>
   .br (y5 != (0:Int)) (
    .qc10 35 [qv3 x0,.string x0.1,.string x2] fun y6 =>
    .br (y6 != (0:Int)) (
     .ret [.int .i64 4]) <|
 .ret [.int .i64 0]) <|
 .ret [.int .i64 0]) <|
 .ret [.int .i64 0]) <|
 .ret [.int .i64 0]
theorem fI_RateHow x0 x1 x2:qft qa0 10 [qv3 x0,.string x1,.string x2] (tI_RateHow x0 x1 x2) :=fitK (by kernel_rfl)
def tS_CurKnown (x0:ByteArray):T :=
 .qc11 36 [.string x0] fun y1 =>
 .ret [.bool (!ByteArray.toList y1.1 == { data:={ toList:=[]:Array UInt8 }:ByteArray }.toList)]
theorem fS_CurKnown x0:qft qa0 11 [.string x0] (tS_CurKnown x0) :=fitK (by kernel_rfl)
def tI_UnitRate (x0:qy2) (x1:ByteArray) (x2:ByteArray):T :=
 .qc5 37 [qv3 x0,.string x1,.string x2] fun y1 =>
 .bn y1.2.1 (.ret [qv0 ((false),nilS,nilS,()),.bool (false)]) <|
 .rg <|
 .qc8 40 [.string x2] fun y2 =>
 .qc12 39 [.int .i64 y2] fun y3 =>
 .qc13 38 [Sc.val .l y1.1.2.1,Sc.val .l y3] fun y4 =>
 .rg <|
 .qc14 42 [.bool y1.1.1,Sc.val .l y4] fun y5 =>
 .qc8 40 [.string x1] fun y6 =>
 .qc12 39 [.int .i64 y6] fun y7 =>
 .qc13 38 [Sc.val .l y1.1.2.2.1,Sc.val .l y7] fun y8 =>
 .qc5 41 [qv1 y5,Sc.val .l y8] fun y9 =>
 .ret [qv0 y9.1,.bool y9.2.1]
theorem fI_UnitRate x0 x1 x2:qft qa0 12 [qv3 x0,.string x1,.string x2] (tI_UnitRate x0 x1 x2) :=fitK (by kernel_rfl)
def tI_RatMul (x0:qy0) (x1:qy0):T :=
 .qc9 43 [qv0 x0,qv0 x1] fun y1 =>
 .bn y1 (.ret [qv0 ((false),nilS,nilS,()),.bool (false)]) <|
 .rg <|
 .qc14 44 [qv1 (x0.1,x0.2.1,()),qv1 (x1.1,x1.2.1,())] fun y2 =>
 .qc13 38 [Sc.val .l x0.2.2.1,Sc.val .l x1.2.2.1] fun y3 =>
 .qc5 41 [qv1 y2,Sc.val .l y3] fun y4 =>
 .ret [qv0 y4.1,.bool y4.2.1]
theorem fI_RatMul x0 x1:qft qa0 13 [qv0 x0,qv0 x1] (tI_RatMul x0 x1) :=fitK (by kernel_rfl)
def tI_MoneyRat (x0:qy3):T :=
 .qc9 45 [qv2 x0] fun y1 =>
 .bn y1 (.ret [qv0 ((false),nilS,nilS,())]) <|
 .qc15 46 [qv1 x0.2] fun y2 =>
 .fz ((1:Nat)) [.int .i64 1] 3 fun b3 c3 =>
 .ret [qv0 (y2.1,y2.2.1,(⟨(some { block:=b3,off:=(0:Nat):Addr }),((1:Nat)),(c3)⟩:SlV),())]
theorem fI_MoneyRat x0:qft qa0 14 [qv2 x0] (tI_MoneyRat x0) :=fitK (by kernel_rfl)
def tI_RatAdd (x0:qy0) (x1:qy0):T :=
 .qc9 43 [qv0 x0,qv0 x1] fun y1 =>
 .bn y1 (.ret [qv0 ((false),nilS,nilS,()),.bool (false)]) <|
 .rg <|
 .rg <|
 .qc14 47 [qv0 x0,Sc.val .l x1.2.2.1] fun y2 =>
 .qc14 47 [qv0 x1,Sc.val .l x0.2.2.1] fun y3 =>
 .qc14 48 [qv1 y2,qv1 y3] fun y4 =>
 .qc13 38 [Sc.val .l x0.2.2.1,Sc.val .l x1.2.2.1] fun y5 =>
 .qc5 41 [qv1 y4,Sc.val .l y5] fun y6 =>
 .ret [qv0 y6.1,.bool y6.2.1]
theorem fI_RatAdd x0 x1:qft qa0 15 [qv0 x0,qv0 x1] (tI_RatAdd x0 x1) :=fitK (by kernel_rfl)
def tI_Exact (x0:qy2) (x1:qy3) (x2:ByteArray):T :=
 .qc9 45 [qv2 x1] fun y1 =>
 .bn y1 (.ret [qv0 ((false),nilS,nilS,()),.bool (false)]) <|
 .qc5 12 [qv3 x0,.string x1.1,.string x2] fun y2 =>
 .bn y2.2.1 (.ret [qv0 ((false),nilS,nilS,()),.bool (false)]) <|
 .rg <|
 .qc6 14 [qv2 x1] fun y3 =>
 .qc5 13 [qv0 y3,qv0 y2.1] fun y4 =>
 .ret [qv0 y4.1,.bool y4.2.1]
theorem fI_Exact x0 x1 x2:qft qa0 16 [qv3 x0,qv2 x1,.string x2] (tI_Exact x0 x1 x2) :=fitK (by kernel_rfl)
def tI_RatCmp (x0:qy0) (x1:qy0):T :=
 .qc9 43 [qv0 x0,qv0 x1] fun y1 =>
 .bn y1 (.ret [.int .i64 0]) <|
 .rg <|
 .qc14 47 [qv0 x0,Sc.val .l x1.2.2.1] fun y2 =>
 .qc15 47 [qv0 x1,Sc.val .l x0.2.2.1] fun y3 =>
 .qc10 49 [qv1 y2,qv1 y3] fun y4 =>
 .ret [.int .i64 y4]
theorem fI_RatCmp x0 x1:qft qa0 17 [qv0 x0,qv0 x1] (tI_RatCmp x0 x1) :=fitK (by kernel_rfl)
def tL_small (x0:qy0):T :=
 .qc9 50 [qv0 x0] fun y1 =>
 .br y1 (
  .qc3 51 [qv0 x0] fun y2 =>
  .qc15 53 [.int .i64 1] fun y3 =>
  .qc5 52 [qv1 y3] fun y4 =>
  .qc3 26 [qv0 y4.1,.bool y4.2.1] fun y5 =>
  .qc10 17 [qv0 y2,qv0 y5] fun y6 =>
  .ret [.bool (decide (y6<(0:Int)))]) <|
 .rF
theorem fL_small x0:qft qa0 18 [qv0 x0] (tL_small x0) :=fitK (by kernel_rfl)
def tI_ConvertSum (x0:qy2) (x1:SlV) (x2:ByteArray) (x3:Int):T :=
 .qc16 54 [qv3 x0,Sc.val .l x1,.string x2,.int .i64 x3] fun y1 =>
 .spl y1.2.2.1 (
  .rg <|
 .qc8 55 [.nilIface] fun y2 =>
  .ret [qv2 y1.1,qv0 y1.2.1,.int .i64 y2]) fun y2 =>
 .rg <|
 .qc8 55 [.iface y2.1 (qv8 (((y2.2):Int),()))] fun y3 =>
 .ret [qv2 y1.1,qv0 y1.2.1,.int .i64 y3]
theorem fI_ConvertSum x0 x1 x2 x3:qft qa0 19 [qv3 x0,Sc.val .l x1,.string x2,.int .i64 x3] (tI_ConvertSum x0 x1 x2 x3) :=fitK (by kernel_rfl)
def tI_CvName (x0:Int):T :=
 .fz ((4:Nat)) [.string ({ data:={ toList:=[(111:UInt8),(107:UInt8)]:Array UInt8 }:ByteArray }),.string ({ data:={ toList:=[(109:UInt8),(111:UInt8),(110:UInt8),(101:UInt8),(121:UInt8)]:Array UInt8 }:ByteArray }),.string ({ data:={ toList:=[(114:UInt8),(97:UInt8),(116:UInt8),(101:UInt8)]:Array UInt8 }:ByteArray }),.string ({ data:={ toList:=[(108:UInt8),(97:UInt8),(114:UInt8),(103:UInt8),(101:UInt8)]:Array UInt8 }:ByteArray })] 9 fun b1 c1 =>
 .qc2 57 [.int .i64 x0,.slice (some { block:=b1,off:=(0:Nat):Addr }) ((4:Nat)) (c1)] fun y2 =>
 .ret [.string y2]
theorem fI_CvName x0:qft qa0 21 [.int .i64 x0] (tI_CvName x0) :=fitK (by kernel_rfl)
def tS_MakeLedger (x0:SlV):T :=
 .qc17 28 [Sc.val .l x0] fun y1 =>
 .qc0 59 [.pointer (some y1)] fun y2 =>
 .ret [qv7 y2]
theorem fS_MakeLedger x0:qft qa0 23 [Sc.val .l x0] (tS_MakeLedger x0) :=fitK (by kernel_rfl)
def aI_Wealth:An:=⟨[(5,[.s 9,.s 22],[.a 32,.o (.o (.i .i64))])],[],[]⟩
def tI_Wealth (x0:SlV × SlV × ByteArray × SlV × PUnit) (x1:ByteArray) (x2:Int):T :=
 .qc9 60 [qv7 x0] fun y1 =>
 .bn y1 (.ret [qv2 (({ data:={ toList:=[]:Array UInt8 }:ByteArray }),(false),nilS,()),qv0 ((false),nilS,nilS,()),.int .i64 1]) <|
 .lp [.a 32,.o (.o (.i .i64))] [.a 32 ((0:Nat)) [],.v (.int .i64 0)] fun y2 =>
 .br (decide (y2.2.1<(↑x0.1.n:Int))) (
  .el x0.1.1 (x0.1.n) y2.2.1 fun y3 =>
  .ql4 (y3.add (Int.toNat y2.2.1*(4:Nat))) fun y4 =>
  .rq ([Value.string y4.2.1,Value.bool y4.2.2.1,Value.slice y4.2.2.2.1.1 y4.2.2.2.1.n y4.2.2.2.1.c].length=(1:Nat)*(3:Nat)) <|
 .rq (one [Value.string y4.2.1,Value.bool y4.2.2.1,Value.slice y4.2.2.2.1.1 y4.2.2.2.1.n y4.2.2.2.1.c]=true∧(y2.1.1+(1:Nat))*(48:Nat)≤(140737488355328:Nat)∧y2.1.1+(1:Nat)≤(9223372036854775807:Nat)) <|
 .nx 0 [.a 32 (y2.1.1+(1:Nat)) (y2.1.2++[Value.string y4.2.1,Value.bool y4.2.2.1,Value.slice y4.2.2.2.1.1 y4.2.2.2.1.n y4.2.2.2.1.c]),.v (.int .i64 (IntKind.i64.wrap (y2.2.1+(1:Int))))]) <|
 .fz y2.1.1 y2.1.2 32 fun b3 c3 =>
 .qc1 19 [qv3 x0.2.2,.slice (some { block:=b3,off:=(0:Nat):Addr }) y2.1.1 (c3),.string x1,.int .i64 x2] fun y4 =>
 .ret [qv2 y4.1,qv0 y4.2.1,.int .i64 y4.2.2.1]
theorem fI_Wealth x0 x1 x2:qft aI_Wealth 24 [qv7 x0,.string x1,.int .i64 x2] (tI_Wealth x0 x1 x2) :=fitK (by kernel_rfl)
def tI_RatZero :T :=
 .fz ((1:Nat)) [.int .i64 1] 3 fun b1 c1 =>
 .ret [qv0 ((false),nilS,(⟨(some { block:=b1,off:=(0:Nat):Addr }),((1:Nat)),(c1)⟩:SlV),())]
theorem fI_RatZero :qft qa0 25 [] (tI_RatZero ) :=fitK (by kernel_rfl)
def tL_must (x0:qy0) (x1:Bool):T :=
 .br (!x1) (
  .ret [qv0 ((false),nilS,nilS,())]) <|
 .ret [qv0 x0]
theorem fL_must x0 x1:qft qa0 26 [qv0 x0,.bool x1] (tL_must x0 x1) :=fitK (by kernel_rfl)
def tI_RatSign (x0:qy0):T :=
 .qc9 61 [qv0 x0] fun y1 =>
 .bn y1 (.ret [.int .i64 0]) <|
 .qc10 62 [qv1 (x0.1,x0.2.1,())] fun y2 =>
 .ret [.int .i64 y2]
theorem fI_RatSign x0:qft qa0 27 [qv0 x0] (tI_RatSign x0) :=fitK (by kernel_rfl)
def aS_l01New:An:=⟨[(3,[.s 3,.s 4],[.o (.o (.i .i64)),.o (.o (.i .i64))])],[],[]⟩
def tS_l01New (x0:SlV):T :=
 .lp [.o (.o (.i .i64)),.o (.o (.i .i64))] [.v (.int .i64 (IntKind.i64.wrap ((1616:Int)+(↑x0.n:Int)))),.v (.int .i64 0)] fun y1 =>
 .br (decide (y1.2.1<(↑x0.n:Int))) (
  .br (decide (y1.2.1<(4000:Int))) (
   .el x0.1 (x0.n) y1.2.1 fun y2 =>
   .ql18 (y2.add (Int.toNat y1.2.1*(1:Nat))) fun y3 =>
   .nx 0 [.v (.int .i64 (IntKind.i64.wrap (↑(BitVec.ofInt (64:Nat) (IntKind.i64.wrap (IntKind.i64.wrap (IntKind.i64.wrap (y1.1*(41:Int))+IntKind.i64.wrap y3)+(7:Int))) &&& BitVec.ofInt (64:Nat) (1073741823:Int)).toNat:Int))),.v (.int .i64 (IntKind.i64.wrap (y1.2.1+(1:Int))))]) <|
 .es [Sc.val .l x0,.int .i64 0,.int .i64 y1.1] 74 fun b2 =>
  .ret [.pointer (some { block:=b2,off:=(0:Nat):Addr })]) <|
 .es [Sc.val .l x0,.int .i64 0,.int .i64 y1.1] 74 fun b2 =>
 .ret [.pointer (some { block:=b2,off:=(0:Nat):Addr })]
theorem fS_l01New x0:qft aS_l01New 28 [Sc.val .l x0] (tS_l01New x0) :=fitK (by kernel_rfl)
def aS_l10Table:An:=⟨[(3,[.s 4,.c 3 0,.c 3 1],[.o (.o (.i .i64)),.o (.o (.s)),.o (.o (.l))])],[],[]⟩
def tS_l10Table (x0:Addr):T :=
 .fz ((3:Nat)) [.string ({ data:={ toList:=[(69:UInt8),(85:UInt8),(82:UInt8)]:Array UInt8 }:ByteArray }),.string ({ data:={ toList:=[(69:UInt8),(85:UInt8),(82:UInt8)]:Array UInt8 }:ByteArray }),.string ({ data:={ toList:=[(85:UInt8),(83:UInt8),(68:UInt8)]:Array UInt8 }:ByteArray })] 9 fun b1 c1 =>
 .qc2 63 [.pointer (some x0),.slice (some { block:=b1,off:=(0:Nat):Addr }) ((3:Nat)) (c1)] fun y2 =>
 .qc10 32 [.pointer (some x0),.int .i64 7] fun y3 =>
 .lp [.o (.o (.i .i64)),.o (.o (.s)),.o (.o (.l))] [.v (.int .i64 y3),.v (.string y2),.v (.slice none 0 0)] fun y4 =>
 .br (decide (y4.1 > (0:Int))) (
  .qc19 64 [.pointer (some x0)] fun y5 =>
  .qc9 65 [.pointer (some x0),.int .i64 2] fun y6 =>
  .br y6 (
   .br (!ByteArray.toList y5.1 == ByteArray.toList y4.2.1) (
    .qc20 66 [qv3 y4.2,qv5 (y5.1,y4.2.1,y5.2.2.1,y5.2.2.2.1,((y5.2.2.2.2.1):Int),())] fun y7 =>
    .br y7.2.1 (
     .nx 0 [.v (.int .i64 (IntKind.i64.wrap (y4.1-(1:Int)))),.v (.string y7.1.1),.v (Sc.val .l y7.1.2.1)]) <|
 .nx 0 [.v (.int .i64 (IntKind.i64.wrap (y4.1-(1:Int)))),.v (.string y4.2.1),.v (Sc.val .l y4.2.2.1)]) <|
 .qc20 66 [qv3 y4.2,qv5 y5] fun y7 =>
   .br y7.2.1 (
    .nx 0 [.v (.int .i64 (IntKind.i64.wrap (y4.1-(1:Int)))),.v (.string y7.1.1),.v (Sc.val .l y7.1.2.1)]) <|
 .nx 0 [.v (.int .i64 (IntKind.i64.wrap (y4.1-(1:Int)))),.v (.string y4.2.1),.v (Sc.val .l y4.2.2.1)]) <|
 .qc20 66 [qv3 y4.2,qv5 y5] fun y7 =>
  .br y7.2.1 (
   .nx 0 [.v (.int .i64 (IntKind.i64.wrap (y4.1-(1:Int)))),.v (.string y7.1.1),.v (Sc.val .l y7.1.2.1)]) <|
 .nx 0 [.v (.int .i64 (IntKind.i64.wrap (y4.1-(1:Int)))),.v (.string y4.2.1),.v (Sc.val .l y4.2.2.1)]) <|
 .ret [qv3 y4.2]
theorem fS_l10Table x0:qft aS_l10Table 29 [.pointer (some x0)] (tS_l10Table x0) :=fitK (by kernel_rfl)
def tS_IntOf (x0:Int):T :=
 .br (x0 == (-9223372036854775808:Int)) (
  .fz ((3:Nat)) [.int .i64 854775808,.int .i64 223372036,.int .i64 9] 3 fun b1 c1 =>
  .qc15 69 [.bool (true),.slice (some { block:=b1,off:=(0:Nat):Addr }) ((3:Nat)) (c1)] fun y2 =>
  .ret [qv1 y2]) <|
 .br (decide (x0<(0:Int))) (
  .qc13 70 [.int .i64 (IntKind.i64.wrap ((0:Int)-x0))] fun y1 =>
  .qc15 69 [.bool (true),Sc.val .l y1] fun y2 =>
  .ret [qv1 y2]) <|
 .qc13 70 [.int .i64 x0] fun y1 =>
 .qc15 69 [.bool (false),Sc.val .l y1] fun y2 =>
 .ret [qv1 y2]
theorem fS_IntOf x0:qft qa0 31 [.int .i64 x0] (tS_IntOf x0) :=fitK (by kernel_rfl)
def tS_l01Below (x0:Addr) (x1:Int):T :=
 .br (decide (x1≤(0:Int))) (
  .ret [.int .i64 0]) <|
 .br (decide (x1≤(256:Int))) (
  .qc10 71 [.pointer (some x0)] fun y1 =>
  .rq (x1≠(0:Int)) <|
 .ret [.int .i64 (y1.tmod x1)]) <|
 .qc10 71 [.pointer (some x0)] fun y1 =>
 .qc10 71 [.pointer (some x0)] fun y2 =>
 .qc10 71 [.pointer (some x0)] fun y3 =>
 .qc10 71 [.pointer (some x0)] fun y4 =>
 .rq (x1≠(0:Int)) <|
 .ret [.int .i64 ((IntKind.i64.wrap (IntKind.i64.wrap (IntKind.i64.wrap (IntKind.i64.wrap (y1*(16777216:Int))+IntKind.i64.wrap (y2*(65536:Int)))+IntKind.i64.wrap (y3*(256:Int)))+y4)).tmod x1)]
theorem fS_l01Below x0 x1:qft qa0 32 [.pointer (some x0),.int .i64 x1] (tS_l01Below x0 x1) :=fitK (by kernel_rfl)
def aI_RatesOk:An:=⟨[(5,[.s 21],[.o (.o (.i .i64))])],[],[]⟩
def tI_RatesOk (x0:qy2):T :=
 .qc9 34 [.string x0.1] fun y1 =>
 .bF y1 <|
 .br (decide ((↑x0.2.1.n:Int) > (12:Int))) (
  .rF) <|
 .mo (.mk 118) (.v (.o (.x))) fun y2 =>
 .lp [.o (.o (.i .i64))] [.v (.int .i64 0)] fun y3 =>
 .br (decide (y3.1<(↑x0.2.1.n:Int))) (
  .el x0.2.1.1 (x0.2.1.n) y3.1 fun y4 =>
  .ql21 (y4.add (Int.toNat y3.1*(5:Nat))) fun y5 =>
  .qc9 72 [qv5 y5] fun y6 =>
  .bF y6 <|
 .mo (.lk 118 (y2.1) (qv9 (y5.1,y5.2.1,())) false) (.v (.o (.b))) fun y7 =>
  .br y7 (
   .rF) <|
 .mo (.up 118 (y2.1) (qv9 (y5.1,y5.2.1,())) (.bool (true))) (.t []) fun _ =>
  .nx 0 [.v (.int .i64 (IntKind.i64.wrap (y3.1+(1:Int))))]) <|
 .rT
theorem fI_RatesOk x0:qft aI_RatesOk 33 [qv3 x0] (tI_RatesOk x0) :=fitK (by kernel_rfl)
def tI_CurKnown (x0:ByteArray):T :=
 .qc22 73 [.string x0] fun y1 =>
 .ret [.bool y1.2.1]
theorem fI_CurKnown x0:qft qa0 34 [.string x0] (tI_CurKnown x0) :=fitK (by kernel_rfl)
def tI_Rates__simple (x0:qy2) (x1:ByteArray) (x2:ByteArray):T :=
 .qc23 74 [qv3 x0,qv9 (x1,x2,())] fun y1 =>
 .br y1.2.1 (
  .ret [.int .i64 2]) <|
 .qc23 74 [qv3 x0,qv9 (x2,x1,())] fun y2 =>
 .br y2.2.1 (
  .ret [.int .i64 3]) <|
 .ret [.int .i64 0]
theorem fI_Rates__simple x0 x1 x2:qft qa0 35 [qv3 x0,.string x1,.string x2] (tI_Rates__simple x0 x1 x2) :=fitK (by kernel_rfl)
def aS_l08Find:An:=⟨[(2,[.s 7,.c 2 0,.c 2 1,.c 2 2,.c 2 3],[.o (.o (.i .i64)),.o (.o (.s)),.o (.o (.s)),.o (.o (.i .i64)),.o (.o (.i .i64))])],[],[]⟩
def tS_l08Find (x0:ByteArray):T :=
 .qc13 75 [] fun y1 =>
 .lp [.o (.o (.i .i64)),.o (.o (.s)),.o (.o (.s)),.o (.o (.i .i64)),.o (.o (.i .i64))] [.v (.int .i64 0),.v (.string ({ data:={ toList:=[]:Array UInt8 }:ByteArray })),.v (.string ({ data:={ toList:=[]:Array UInt8 }:ByteArray })),.v (.int .i64 0),.v (.int .i64 0)] fun y2 =>
 .br (decide (y2.1<(↑y1.n:Int))) (
  .el y1.1 (y1.n) y2.1 fun y3 =>
  .ql24 (y3.add (Int.toNat y2.1*(4:Nat))) fun y4 =>
  .br (ByteArray.toList y4.1 == x0.toList) (
   .ret [qv10 y4]) <|
 .nx 0 [.v (.int .i64 (IntKind.i64.wrap (y2.1+(1:Int)))),.v (.string y2.2.1),.v (.string y2.2.2.1),.v (.int .i64 y2.2.2.2.1),.v (.int .i64 y2.2.2.2.2.1)]) <|
 .ret [qv10 (({ data:={ toList:=[]:Array UInt8 }:ByteArray }),({ data:={ toList:=[]:Array UInt8 }:ByteArray }),(((0:Int)):Int),(((0:Int)):Int),())]
theorem fS_l08Find x0:qft aS_l08Find 36 [.string x0] (tS_l08Find x0) :=fitK (by kernel_rfl)
def tI_RateOf (x0:qy2) (x1:ByteArray) (x2:ByteArray):T :=
 .qc10 10 [qv3 x0,.string x1,.string x2] fun y1 =>
 .br (y1 == (1:Int)) (
  .qc15 53 [.int .i64 1] fun y2 =>
  .qc5 52 [qv1 y2] fun y3 =>
  .ret [qv0 y3.1,.bool y3.2.1]) <|
 .br (y1 == (2:Int)) (
  .qc23 74 [qv3 x0,qv9 (x1,x2,())] fun y2 =>
  .qc3 76 [qv6 y2.1] fun y3 =>
  .ret [qv0 y3,.bool (true)]) <|
 .br (y1 == (3:Int)) (
  .qc23 74 [qv3 x0,qv9 (x2,x1,())] fun y2 =>
  .rg <|
 .qc14 53 [.int .i64 1] fun y3 =>
  .qc6 76 [qv6 (y3.1,y3.2.1,(((0:Int)):Int),())] fun y4 =>
  .qc3 76 [qv6 y2.1] fun y5 =>
  .qc5 77 [qv0 y4,qv0 y5] fun y6 =>
  .ret [qv0 y6.1,.bool y6.2.1]) <|
 .br (y1 == (4:Int)) (
  .qc5 37 [qv3 x0,.string x1,.string x0.1] fun y2 =>
  .qc5 37 [qv3 x0,.string x0.1,.string x2] fun y3 =>
  .br y2.2.1 (
   .br y3.2.1 (
    .qc5 13 [qv0 y2.1,qv0 y3.1] fun y4 =>
    .ret [qv0 y4.1,.bool y4.2.1]) <|
 .ret [qv0 ((false),nilS,nilS,()),.bool (false)]) <|
 .ret [qv0 ((false),nilS,nilS,()),.bool (false)]) <|
 .ret [qv0 ((false),nilS,nilS,()),.bool (false)]
theorem fI_RateOf x0 x1 x2:qft qa0 37 [qv3 x0,.string x1,.string x2] (tI_RateOf x0 x1 x2) :=fitK (by kernel_rfl)
def aI_natMul:An:=⟨[(3,[.s 5,.s 21],[.a 3,.o (.o (.i .i64))]),(7,[.s 5,.s 8,.s 28],[.a 3,.o (.o (.i .i64)),.o (.o (.i .i64))]),(14,[.s 5,.s 8,.s 11],[.a 3,.o (.o (.i .i64)),.o (.o (.i .i64))])],[],[]⟩
def tI_natMul (x0:SlV) (x1:SlV):T :=
 .rq ((0:Int)≤IntKind.i64.wrap (IntKind.i64.wrap ((↑x0.n:Int)+(↑x1.n:Int))+(1:Int))∧IntKind.i64.wrap (IntKind.i64.wrap ((↑x0.n:Int)+(↑x1.n:Int))+(1:Int))≤IntKind.i64.wrap (IntKind.i64.wrap ((↑x0.n:Int)+(↑x1.n:Int))+(1:Int))∧(↑(8:Nat):Int)*IntKind.i64.wrap (IntKind.i64.wrap ((↑x0.n:Int)+(↑x1.n:Int))+(1:Int))≤(281474976710656:Int)∧IntKind.i64.wrap (IntKind.i64.wrap ((↑x0.n:Int)+(↑x1.n:Int))+(1:Int))≤(9223372036854775807:Int)) <|
 .lp [.a 3,.o (.o (.i .i64))] [.a 3 ((IntKind.i64.wrap (IntKind.i64.wrap ((↑x0.n:Int)+(↑x1.n:Int))+(1:Int))).toNat) ((madeCells { toList:=[Value.int IntKind.i64 (0:Int)]:Array Value } ((IntKind.i64.wrap (IntKind.i64.wrap ((↑x0.n:Int)+(↑x1.n:Int))+(1:Int))).toNat*(1:Nat))).toList),.v (.int .i64 0)] fun y1 =>
 .br (decide (y1.2.1<(↑x0.n:Int))) (
  .el x0.1 (x0.n) y1.2.1 fun y2 =>
  .ql25 (y2.add (Int.toNat y1.2.1*(1:Nat))) fun y3 =>
  .lp [.a 3,.o (.o (.i .i64)),.o (.o (.i .i64))] [.a 3 y1.1.1 y1.1.2,.v (.int .i64 0),.v (.int .i64 0)] fun y4 =>
  .br (decide (y4.2.2.1<(↑x1.n:Int))) (
   .el x1.1 (x1.n) y4.2.2.1 fun y5 =>
   .ql25 (y5.add (Int.toNat y4.2.2.1*(1:Nat))) fun y6 =>
   .rq ((0:Int)≤IntKind.i64.wrap (y1.2.1+y4.2.2.1)∧IntKind.i64.wrap (y1.2.1+y4.2.2.1)<(↑y4.1.1:Int)) <|
 .xs y4.1.2 ((IntKind.i64.wrap (y1.2.1+y4.2.2.1)).toNat*(1:Nat)) (.o (.i .i64)) fun y7 =>
   .rq ((1000000000:Int)≠(0:Int)) <|
 .rq ((0:Int)≤IntKind.i64.wrap (y1.2.1+y4.2.2.1)∧IntKind.i64.wrap (y1.2.1+y4.2.2.1)<(↑y4.1.1:Int)) <|
 .rq ((IntKind.i64.wrap (y1.2.1+y4.2.2.1)).toNat*(1:Nat)+[Value.int IntKind.i64 ((IntKind.i64.wrap (y4.2.1+IntKind.i64.wrap (y7+IntKind.i64.wrap (y3*y6)))).tmod (1000000000:Int))].length≤y4.1.2.length) <|
 .rq ((1000000000:Int)≠(0:Int)) <|
 .nx 1 [.a 3 y4.1.1 (setl y4.1.2 ((IntKind.i64.wrap (y1.2.1+y4.2.2.1)).toNat*(1:Nat)) [Value.int IntKind.i64 ((IntKind.i64.wrap (y4.2.1+IntKind.i64.wrap (y7+IntKind.i64.wrap (y3*y6)))).tmod (1000000000:Int))]),.v (.int .i64 (IntKind.i64.wrap ((IntKind.i64.wrap (y4.2.1+IntKind.i64.wrap (y7+IntKind.i64.wrap (y3*y6)))).tdiv (1000000000:Int)))),.v (.int .i64 (IntKind.i64.wrap (y4.2.2.1+(1:Int))))]) <|
 .lp [.a 3,.o (.o (.i .i64)),.o (.o (.i .i64))] [.a 3 y4.1.1 y4.1.2,.v (.int .i64 y4.2.1),.v (.int .i64 (IntKind.i64.wrap (y1.2.1+(↑x1.n:Int))))] fun y5 =>
  .br (decide (y5.2.1 > (0:Int))) (
   .rq ((0:Int)≤y5.2.2.1∧y5.2.2.1<(↑y5.1.1:Int)) <|
 .xs y5.1.2 (Int.toNat y5.2.2.1*(1:Nat)) (.o (.i .i64)) fun y6 =>
   .rq ((1000000000:Int)≠(0:Int)) <|
 .rq ((0:Int)≤y5.2.2.1∧y5.2.2.1<(↑y5.1.1:Int)) <|
 .rq (Int.toNat y5.2.2.1*(1:Nat)+[Value.int IntKind.i64 ((IntKind.i64.wrap (y5.2.1+y6)).tmod (1000000000:Int))].length≤y5.1.2.length) <|
 .rq ((1000000000:Int)≠(0:Int)) <|
 .nx 2 [.a 3 y5.1.1 (setl y5.1.2 (Int.toNat y5.2.2.1*(1:Nat)) [Value.int IntKind.i64 ((IntKind.i64.wrap (y5.2.1+y6)).tmod (1000000000:Int))]),.v (.int .i64 (IntKind.i64.wrap ((IntKind.i64.wrap (y5.2.1+y6)).tdiv (1000000000:Int)))),.v (.int .i64 (IntKind.i64.wrap (y5.2.2.1+(1:Int))))]) <|
 .nx 0 [.a 3 y5.1.1 y5.1.2,.v (.int .i64 (IntKind.i64.wrap (y1.2.1+(1:Int))))]) <|
 .fz y1.1.1 y1.1.2 3 fun b2 c2 =>
 .qc13 78 [.slice (some { block:=b2,off:=(0:Nat):Addr }) y1.1.1 (c2)] fun y3 =>
 .ret [Sc.val .l y3]
theorem fI_natMul x0 x1:qft aI_natMul 38 [Sc.val .l x0,Sc.val .l x1] (tI_natMul x0 x1) :=fitK (by kernel_rfl)
def aI_natTen:An:=⟨[(4,[.s 4,.s 13],[.o (.o (.i .i64)),.o (.o (.i .i64))])],[],[]⟩
def tI_natTen (x0:Int):T :=
 .rq ((9:Int)≠(0:Int)) <|
 .rq ((9:Int)≠(0:Int)) <|
 .rq ((0:Int)≤IntKind.i64.wrap (x0.tdiv (9:Int))∧IntKind.i64.wrap (x0.tdiv (9:Int))≤IntKind.i64.wrap (IntKind.i64.wrap (x0.tdiv (9:Int))+(1:Int))∧(↑(8:Nat):Int)*IntKind.i64.wrap (IntKind.i64.wrap (x0.tdiv (9:Int))+(1:Int))≤(281474976710656:Int)∧IntKind.i64.wrap (IntKind.i64.wrap (x0.tdiv (9:Int))+(1:Int))≤(9223372036854775807:Int)) <|
 .rq ((9:Int)≠(0:Int)) <|
 .lp [.o (.o (.i .i64)),.o (.o (.i .i64))] [.v (.int .i64 1),.v (.int .i64 0)] fun y1 =>
 .br (decide (y1.2.1<x0.tmod (9:Int))) (
  .nx 0 [.v (.int .i64 (IntKind.i64.wrap (y1.1*(10:Int)))),.v (.int .i64 (IntKind.i64.wrap (y1.2.1+(1:Int))))]) <|
 .rq ([Value.int IntKind.i64 y1.1].length=(1:Nat)*(1:Nat)) <|
 .rq (one [Value.int IntKind.i64 y1.1]=true∧((IntKind.i64.wrap (x0.tdiv (9:Int))).toNat+(1:Nat))*(8:Nat)≤(140737488355328:Nat)∧(IntKind.i64.wrap (x0.tdiv (9:Int))).toNat+(1:Nat)≤(9223372036854775807:Nat)) <|
 .fz ((IntKind.i64.wrap (x0.tdiv (9:Int))).toNat+(1:Nat)) ((madeCells { toList:=[Value.int IntKind.i64 (0:Int)]:Array Value } ((IntKind.i64.wrap (x0.tdiv (9:Int))).toNat*(1:Nat))).toList++[Value.int IntKind.i64 y1.1]) 3 fun b2 c2 =>
 .ret [.slice (some { block:=b2,off:=(0:Nat):Addr }) ((IntKind.i64.wrap (x0.tdiv (9:Int))).toNat+(1:Nat)) (c2)]
theorem fI_natTen x0:qft aI_natTen 39 [.int .i64 x0] (tI_natTen x0) :=fitK (by kernel_rfl)
def tI_CurPlaces (x0:ByteArray):T :=
 .qc22 73 [.string x0] fun y1 =>
 .ret [.int .i64 y1.1.2.2.1]
theorem fI_CurPlaces x0:qft qa0 40 [.string x0] (tI_CurPlaces x0) :=fitK (by kernel_rfl)
def tI_reduce (x0:qy1) (x1:SlV):T :=
 .qc13 79 [Sc.val .l x0.2.1,Sc.val .l x1] fun y1 =>
 .qc26 80 [Sc.val .l x0.2.1,Sc.val .l y1] fun y2 =>
 .qc26 80 [Sc.val .l x1,Sc.val .l y1] fun y3 =>
 .br (decide ((↑y2.1.n:Int) > (18:Int))) (
  .ret [qv0 ((false),nilS,nilS,()),.bool (false)]) <|
 .br (decide ((↑y3.1.n:Int) > (18:Int))) (
  .ret [qv0 ((false),nilS,nilS,()),.bool (false)]) <|
 .qc15 42 [.bool x0.1,Sc.val .l y2.1] fun y4 =>
 .ret [qv0 (y4.1,y4.2.1,y3.1,()),.bool (true)]
theorem fI_reduce x0 x1:qft qa0 41 [qv1 x0,Sc.val .l x1] (tI_reduce x0 x1) :=fitK (by kernel_rfl)
def tI_signed (x0:Bool) (x1:SlV):T :=
 .br x0 (
  .ret [qv1 ((decide ((↑x1.n:Int) > (0:Int))),x1,())]) <|
 .ret [qv1 ((false),x1,())]
theorem fI_signed x0 x1:qft qa0 42 [.bool x0,Sc.val .l x1] (tI_signed x0 x1) :=fitK (by kernel_rfl)
def tI_ratsOk (x0:qy0) (x1:qy0):T :=
 .qc9 61 [qv0 x0] fun y1 =>
 .br y1 (
  .qc9 61 [qv0 x1] fun y2 =>
  .ret [.bool y2]) <|
 .rF
theorem fI_ratsOk x0 x1:qft qa0 43 [qv0 x0,qv0 x1] (tI_ratsOk x0 x1) :=fitK (by kernel_rfl)
def tI_intMul (x0:qy1) (x1:qy1):T :=
 .rg <|
 .qc12 38 [Sc.val .l x0.2.1,Sc.val .l x1.2.1] fun y1 =>
 .qc15 42 [.bool (!x0.1 == x1.1),Sc.val .l y1] fun y2 =>
 .ret [qv1 y2]
theorem fI_intMul x0 x1:qft qa0 44 [qv1 x0,qv1 x1] (tI_intMul x0 x1) :=fitK (by kernel_rfl)
def tI_MoneyOk (x0:qy3):T :=
 .qc9 34 [.string x0.1] fun y1 =>
 .br y1 (
  .qc9 81 [qv1 x0.2] fun y2 =>
  .br y2 (
   .ret [.bool (decide ((↑x0.2.2.1.n:Int)≤(4:Int)))]) <|
 .rF) <|
 .rF
theorem fI_MoneyOk x0:qft qa0 45 [qv2 x0] (tI_MoneyOk x0) :=fitK (by kernel_rfl)
def tI_intCopy (x0:qy1):T :=
 .rg <|
 .qc12 82 [Sc.val .l x0.2.1] fun y1 =>
 .ret [qv1 (x0.1,y1,())]
theorem fI_intCopy x0:qft qa0 46 [qv1 x0] (tI_intCopy x0) :=fitK (by kernel_rfl)
def tI_Rat__num (x0:qy0) (x1:SlV):T :=
 .rg <|
 .qc12 38 [Sc.val .l x0.2.1,Sc.val .l x1] fun y1 =>
 .qc15 42 [.bool x0.1,Sc.val .l y1] fun y2 =>
 .ret [qv1 y2]
theorem fI_Rat__num x0 x1:qft qa0 47 [qv0 x0,Sc.val .l x1] (tI_Rat__num x0 x1) :=fitK (by kernel_rfl)
def tI_intAdd (x0:qy1) (x1:qy1):T :=
 .br (x0.1 == x1.1) (
  .rg <|
 .qc12 83 [Sc.val .l x0.2.1,Sc.val .l x1.2.1] fun y1 =>
  .qc15 42 [.bool x0.1,Sc.val .l y1] fun y2 =>
  .ret [qv1 y2]) <|
 .qc10 84 [Sc.val .l x0.2.1,Sc.val .l x1.2.1] fun y1 =>
 .br (decide (y1<(0:Int))) (
  .rg <|
 .qc12 85 [Sc.val .l x1.2.1,Sc.val .l x0.2.1] fun y2 =>
  .qc15 42 [.bool x1.1,Sc.val .l y2] fun y3 =>
  .ret [qv1 y3]) <|
 .rg <|
 .qc12 85 [Sc.val .l x0.2.1,Sc.val .l x1.2.1] fun y2 =>
 .qc15 42 [.bool x0.1,Sc.val .l y2] fun y3 =>
 .ret [qv1 y3]
theorem fI_intAdd x0 x1:qft qa0 48 [qv1 x0,qv1 x1] (tI_intAdd x0 x1) :=fitK (by kernel_rfl)
def tI_intCmp (x0:qy1) (x1:qy1):T :=
 .rg <|
 .qc14 86 [qv1 x1] fun y1 =>
 .qc15 48 [qv1 x0,qv1 y1] fun y2 =>
 .qc10 62 [qv1 y2] fun y3 =>
 .ret [.int .i64 y3]
theorem fI_intCmp x0 x1:qft qa0 49 [qv1 x0,qv1 x1] (tI_intCmp x0 x1) :=fitK (by kernel_rfl)
def tS_RatOk (x0:qy0):T :=
 .qc9 87 [qv1 (x0.1,x0.2.1,())] fun y1 =>
 .bF y1 <|
 .qc9 88 [Sc.val .l x0.2.2.1] fun y2 =>
 .bF y2 <|
 .br ((↑x0.2.2.1.n:Int) == (0:Int)) (
  .rF) <|
 .br (decide ((↑x0.2.2.1.n:Int) > (18:Int))) (
  .rF) <|
 .br (decide ((↑x0.2.1.n:Int) > (18:Int))) (
  .rF) <|
 .qc13 90 [Sc.val .l x0.2.1,Sc.val .l x0.2.2.1] fun y3 =>
 .fz ((1:Nat)) [.int .i64 1] 3 fun b4 c4 =>
 .qc10 89 [Sc.val .l y3,.slice (some { block:=b4,off:=(0:Nat):Addr }) ((1:Nat)) (c4)] fun y5 =>
 .ret [.bool (y5 == (0:Int))]
theorem fS_RatOk x0:qft qa0 50 [qv0 x0] (tS_RatOk x0) :=fitK (by kernel_rfl)
def tL_size (x0:qy0):T :=
 .qc10 27 [qv0 x0] fun y1 =>
 .br (decide (y1<(0:Int))) (
  .qc5 91 [qv0 x0] fun y2 =>
  .qc3 26 [qv0 y2.1,.bool y2.2.1] fun y3 =>
  .ret [qv0 y3]) <|
 .ret [qv0 x0]
theorem fL_size x0:qft qa0 51 [qv0 x0] (tL_size x0) :=fitK (by kernel_rfl)
def tI_RatInt (x0:qy1):T :=
 .rg <|
 .qc14 53 [.int .i64 1] fun y1 =>
 .qc5 92 [qv1 x0,qv1 y1] fun y2 =>
 .ret [qv0 y2.1,.bool y2.2.1]
theorem fI_RatInt x0:qft qa0 52 [qv1 x0] (tI_RatInt x0) :=fitK (by kernel_rfl)
def tI_IntOf (x0:Int):T :=
 .br (decide (x0<(0:Int))) (
  .qc13 93 [.int .u64 (IntKind.u64.wrap ((0:Int)-IntKind.u64.wrap x0))] fun y1 =>
  .ret [qv1 ((true),y1,())]) <|
 .qc13 93 [.int .u64 (IntKind.u64.wrap x0)] fun y1 =>
 .ret [qv1 ((false),y1,())]
theorem fI_IntOf x0:qft qa0 53 [.int .i64 x0] (tI_IntOf x0) :=fitK (by kernel_rfl)
def aI_convert:An:=⟨[(6,[.s 33,.c 12 0,.c 12 1,.c 12 2],[.o (.o (.i .i64)),.o (.o (.b)),.o (.o (.l)),.o (.o (.l))])],[],[]⟩
def tI_convert (x0:qy2) (x1:SlV) (x2:ByteArray) (x3:Int):T :=
 .qc27 94 [qv3 x0,Sc.val .l x1,.string x2,.int .i64 x3] fun y1 =>
 .spl y1 (
  .br (!true) (
   .ret [qv2 (({ data:={ toList:=[]:Array UInt8 }:ByteArray }),(false),nilS,()),qv0 ((false),nilS,nilS,()),.nilIface]) <|
 .qc3 25 [] fun y2 =>
  .lp [.o (.o (.i .i64)),.o (.o (.b)),.o (.o (.l)),.o (.o (.l))] [.v (.int .i64 0),.v (.bool y2.1),.v (Sc.val .l y2.2.1),.v (Sc.val .l y2.2.2.1)] fun y3 =>
  .br (decide (y3.1<(↑x1.n:Int))) (
   .el x1.1 (x1.n) y3.1 fun y4 =>
   .ql28 (y4.add (Int.toNat y3.1*(3:Nat))) fun y5 =>
   .qc5 16 [qv3 x0,qv2 y5,.string x2] fun y6 =>
   .br y6.2.1 (
    .qc5 15 [qv0 y3.2,qv0 y6.1] fun y7 =>
    .bn y7.2.1 (.ret [qv2 (({ data:={ toList:=[]:Array UInt8 }:ByteArray }),(false),nilS,()),qv0 ((false),nilS,nilS,()),.iface 143 (qv8 ((((3:Int)):Int),()))]) <|
 .nx 0 [.v (.int .i64 (IntKind.i64.wrap (y3.1+(1:Int)))),.v (.bool y7.1.1),.v (Sc.val .l y7.1.2.1),.v (Sc.val .l y7.1.2.2.1)]) <|
 .bn y6.2.1 (.ret [qv2 (({ data:={ toList:=[]:Array UInt8 }:ByteArray }),(false),nilS,()),qv0 ((false),nilS,nilS,()),.iface 143 (qv8 ((((3:Int)):Int),()))]) <|
 .nx 0 [.v (.int .i64 (IntKind.i64.wrap (y3.1+(1:Int)))),.v (.bool y3.2.1),.v (Sc.val .l y3.2.2.1),.v (Sc.val .l y3.2.2.2.1)]) <|
 .qc29 95 [.string x2,qv0 y3.2,.int .i64 x3] fun y4 =>
  .bn y4.2.2.1 (.ret [qv2 (({ data:={ toList:=[]:Array UInt8 }:ByteArray }),(false),nilS,()),qv0 ((false),nilS,nilS,()),.iface 143 (qv8 ((((3:Int)):Int),()))]) <|
 .rg <|
 .ret [qv2 y4.1,qv0 y4.2.1,.nilIface]) fun y2 =>
 .br (!false) (
  .ret [qv2 (({ data:={ toList:=[]:Array UInt8 }:ByteArray }),(false),nilS,()),qv0 ((false),nilS,nilS,()),.iface y2.1 (qv8 (((y2.2):Int),()))]) <|
 .qc3 25 [] fun y3 =>
 .lp [.o (.o (.i .i64)),.o (.o (.b)),.o (.o (.l)),.o (.o (.l))] [.v (.int .i64 0),.v (.bool y3.1),.v (Sc.val .l y3.2.1),.v (Sc.val .l y3.2.2.1)] fun y4 =>
 .br (decide (y4.1<(↑x1.n:Int))) (
  .el x1.1 (x1.n) y4.1 fun y5 =>
  .ql28 (y5.add (Int.toNat y4.1*(3:Nat))) fun y6 =>
  .qc5 16 [qv3 x0,qv2 y6,.string x2] fun y7 =>
  .br y7.2.1 (
   .qc5 15 [qv0 y4.2,qv0 y7.1] fun y8 =>
   .bn y8.2.1 (.ret [qv2 (({ data:={ toList:=[]:Array UInt8 }:ByteArray }),(false),nilS,()),qv0 ((false),nilS,nilS,()),.iface 143 (qv8 ((((3:Int)):Int),()))]) <|
 .nx 0 [.v (.int .i64 (IntKind.i64.wrap (y4.1+(1:Int)))),.v (.bool y8.1.1),.v (Sc.val .l y8.1.2.1),.v (Sc.val .l y8.1.2.2.1)]) <|
 .bn y7.2.1 (.ret [qv2 (({ data:={ toList:=[]:Array UInt8 }:ByteArray }),(false),nilS,()),qv0 ((false),nilS,nilS,()),.iface 143 (qv8 ((((3:Int)):Int),()))]) <|
 .nx 0 [.v (.int .i64 (IntKind.i64.wrap (y4.1+(1:Int)))),.v (.bool y4.2.1),.v (Sc.val .l y4.2.2.1),.v (Sc.val .l y4.2.2.2.1)]) <|
 .qc29 95 [.string x2,qv0 y4.2,.int .i64 x3] fun y5 =>
 .bn y5.2.2.1 (.ret [qv2 (({ data:={ toList:=[]:Array UInt8 }:ByteArray }),(false),nilS,()),qv0 ((false),nilS,nilS,()),.iface 143 (qv8 ((((3:Int)):Int),()))]) <|
 .rg <|
 .ret [qv2 y5.1,qv0 y5.2.1,.nilIface]
theorem fI_convert x0 x1 x2 x3:qft aI_convert 54 [qv3 x0,Sc.val .l x1,.string x2,.int .i64 x3] (tI_convert x0 x1 x2 x3) :=fitK (by kernel_rfl)
def tI_codeOf (x0:Option (Nat × Int)):T :=
 .es [.int .i64 0] 143 fun b1 =>
 .call false 96 ([]++[(Sh1.o Sc.e).val x0,Value.iface (147:Nat) (Value.pointer (some { block:=b1,off:=(0:Nat):Addr }))]++[]) (.v (.o (.b))) fun y2 =>
 .br y2 (
  .ql25 ({ block:=b1,off:=(0:Nat):Addr }.add (0:Nat)) fun y3 =>
  .ret [.int .i64 y3]) <|
 .ret [.int .i64 0]
theorem fI_codeOf x0:qft qa0 55 ([(Sh1.o Sc.e).val x0]) (tI_codeOf x0) :=fitK (by kernel_rfl)
def tI_moneyOf (x0:ByteArray) (x1:qy1):T :=
 .qc9 45 [qv2 (x0,x1.1,x1.2.1,())] fun y1 =>
 .br y1 (
  .ret [qv2 (x0,x1.1,x1.2.1,()),.bool (true)]) <|
 .ret [qv2 (({ data:={ toList:=[]:Array UInt8 }:ByteArray }),(false),nilS,()),.bool (false)]
theorem fI_moneyOf x0 x1:qft qa0 56 [.string x0,qv1 x1] (tI_moneyOf x0 x1) :=fitK (by kernel_rfl)
def tI_nameAt (x0:Int) (x1:SlV):T :=
 .br (decide (x0<(0:Int))) (
  .ret [.string ({ data:={ toList:=[]:Array UInt8 }:ByteArray })]) <|
 .br (decide (x0≥(↑x1.n:Int))) (
  .ret [.string ({ data:={ toList:=[]:Array UInt8 }:ByteArray })]) <|
 .el x1.1 (x1.n) x0 fun y1 =>
 .ql30 (y1.add (x0.toNat*(1:Nat))) fun y2 =>
 .ret [.string y2]
theorem fI_nameAt x0 x1:qft qa0 57 [.int .i64 x0,Sc.val .l x1] (tI_nameAt x0 x1) :=fitK (by kernel_rfl)
def aS_l20Draw:An:=⟨[(3,[.s 4,.c 3 0,.c 3 1,.c 3 2,.c 3 3],[.o (.o (.i .i64)),.o (.o (.l)),.o (.o (.l)),.o (.o (.s)),.o (.o (.l))])],[],[]⟩
def tS_l20Draw (x0:Addr):T :=
 .qc31 98 [.pointer (some x0)] fun y1 =>
 .qc32 29 [.pointer (some x0)] fun y2 =>
 .qc10 32 [.pointer (some x0),.int .i64 3] fun y3 =>
 .lp [.o (.o (.i .i64)),.o (.o (.l)),.o (.o (.l)),.o (.o (.s)),.o (.o (.l))] [.v (.int .i64 y3),.v (Sc.val .l y1.1),.v (.slice none 0 0),.v (.string y2.1),.v (Sc.val .l y2.2.1)] fun y4 =>
 .br (decide (y4.1 > (0:Int))) (
  .rf <|
 .cf 68 [.pointer (some x0)] (.v (.o (.s))) fun y5 =>
  .cf 100 [.pointer (some x0),.int .i64 1] (.v (.g [.b,.l,.l])) fun y6 =>
  .qc33 99 [Sc.val .l y4.2.2.1,.string y5,qv0 y6] fun y7 =>
  .br y7.2.1 (
   .nx 0 [.v (.int .i64 (IntKind.i64.wrap (y4.1-(1:Int)))),.v (Sc.val .l y4.2.1),.v (Sc.val .l y7.1),.v (.string y4.2.2.2.1),.v (Sc.val .l y4.2.2.2.2.1)]) <|
 .nx 0 [.v (.int .i64 (IntKind.i64.wrap (y4.1-(1:Int)))),.v (Sc.val .l y4.2.1),.v (Sc.val .l y4.2.2.1),.v (.string y4.2.2.2.1),.v (Sc.val .l y4.2.2.2.2.1)]) <|
 .ret [qv7 y4.2]
theorem fS_l20Draw x0:qft aS_l20Draw 59 [.pointer (some x0)] (tS_l20Draw x0) :=fitK (by kernel_rfl)
def tI_LedgerOk (x0:SlV × SlV × ByteArray × SlV × PUnit):T :=
 .qc9 101 [qv4 (x0.1,())] fun y1 =>
 .br y1 (
  .qc9 102 [Sc.val .l x0.2.1] fun y2 =>
  .br y2 (
   .qc9 33 [qv3 x0.2.2] fun y3 =>
   .ret [.bool y3]) <|
 .rF) <|
 .rF
theorem fI_LedgerOk x0:qft qa0 60 [qv7 x0] (tI_LedgerOk x0) :=fitK (by kernel_rfl)
def tI_RatOk (x0:qy0):T :=
 .qc9 81 [qv1 (x0.1,x0.2.1,())] fun y1 =>
 .bF y1 <|
 .qc9 103 [Sc.val .l x0.2.2.1] fun y2 =>
 .bF y2 <|
 .br ((↑x0.2.2.1.n:Int) == (0:Int)) (
  .rF) <|
 .br (decide ((↑x0.2.2.1.n:Int) > (18:Int))) (
  .rF) <|
 .br (decide ((↑x0.2.1.n:Int) > (18:Int))) (
  .rF) <|
 .qc13 79 [Sc.val .l x0.2.1,Sc.val .l x0.2.2.1] fun y3 =>
 .br ((↑y3.n:Int) == (1:Int)) (
  .el y3.1 (y3.n) ((0:Int)) fun y4 =>
  .ql25 (y4.add (Int.toNat (0:Int)*(1:Nat))) fun y5 =>
  .ret [.bool (y5 == (1:Int))]) <|
 .rF
theorem fI_RatOk x0:qft qa0 61 [qv0 x0] (tI_RatOk x0) :=fitK (by kernel_rfl)
def tI_intSign (x0:qy1):T :=
 .br ((↑x0.2.1.n:Int) == (0:Int)) (
  .ret [.int .i64 0]) <|
 .br x0.1 (
  .rM) <|
 .ret [.int .i64 1]
theorem fI_intSign x0:qft qa0 62 [qv1 x0] (tI_intSign x0) :=fitK (by kernel_rfl)
def tS_l01Str (x0:Addr) (x1:SlV):T :=
 .qc10 32 [.pointer (some x0),.int .i64 ((↑x1.n:Int))] fun y1 =>
 .el x1.1 (x1.n) y1 fun y2 =>
 .ql30 (y2.add (y1.toNat*(1:Nat))) fun y3 =>
 .ret [.string y3]
theorem fS_l01Str x0 x1:qft qa0 63 [.pointer (some x0),Sc.val .l x1] (tS_l01Str x0 x1) :=fitK (by kernel_rfl)
def aS_l10Draw:An:=⟨[(3,[.s 3,.s 4],[.o (.o (.s)),.o (.o (.s))])],[],[]⟩
def tS_l10Draw (x0:Addr):T :=
 .qc2 68 [.pointer (some x0)] fun y1 =>
 .qc2 68 [.pointer (some x0)] fun y2 =>
 .lp [.o (.o (.s)),.o (.o (.s))] [.v (.string y1),.v (.string y2)] fun y3 =>
 .br (ByteArray.toList y3.1 == ByteArray.toList y3.2.1) (
  .fz ((2:Nat)) [.string ({ data:={ toList:=[(67:UInt8),(72:UInt8),(70:UInt8)]:Array UInt8 }:ByteArray }),.string ({ data:={ toList:=[(69:UInt8),(85:UInt8),(82:UInt8)]:Array UInt8 }:ByteArray })] 9 fun b4 c4 =>
  .qc2 63 [.pointer (some x0),.slice (some { block:=b4,off:=(0:Nat):Addr }) ((2:Nat)) (c4)] fun y5 =>
  .nx 0 [.v (.string y5),.v (.string ({ data:={ toList:=[(85:UInt8),(83:UInt8),(68:UInt8)]:Array UInt8 }:ByteArray }))]) <|
 .qc10 32 [.pointer (some x0),.int .i64 3000] fun y4 =>
 .qc15 31 [.int .i64 (IntKind.i64.wrap ((1:Int)+y4))] fun y5 =>
 .rf <|
 .es [.int .i64 0,.int .i64 1,.int .i64 2,.int .i64 3,.int .i64 4] 3 fun b6 =>
 .cf 104 [.pointer (some x0),.slice (some { block:=b6,off:=(0:Nat):Addr }) ((5:Nat)) ((5:Nat))] (.v (.o (.i .i64))) fun y7 =>
 .ret [qv5 (y3.1,y3.2.1,y5.1,y5.2.1,((y7):Int),())]
theorem fS_l10Draw x0:qft aS_l10Draw 64 [.pointer (some x0)] (tS_l10Draw x0) :=fitK (by kernel_rfl)
def tS_l01Once (x0:Addr) (x1:Int):T :=
 .qc10 32 [.pointer (some x0),.int .i64 x1] fun y1 =>
 .ret [.bool (y1 == (0:Int))]
theorem fS_l01Once x0 x1:qft qa0 65 [.pointer (some x0),.int .i64 x1] (tS_l01Once x0 x1) :=fitK (by kernel_rfl)
def tS_RatePut (x0:qy2) (x1:qy5):T :=
 .qc9 105 [qv3 x0] fun y1 =>
 .bn y1 (.ret [qv3 (({ data:={ toList:=[]:Array UInt8 }:ByteArray }),nilS,()),.bool (false)]) <|
 .qc9 106 [qv5 x1] fun y2 =>
 .bn y2 (.ret [qv3 (({ data:={ toList:=[]:Array UInt8 }:ByteArray }),nilS,()),.bool (false)]) <|
 .qc32 107 [qv3 x0] fun y3 =>
 .qc10 108 [Sc.val .l x0.2.1,.string x1.1,.string x1.2.1] fun y4 =>
 .br (decide (y4≥(0:Int))) (
  .rg <|
 .qc34 109 [qv5 x1] fun y5 =>
  .el y3.2.1.1 (y3.2.1.n) y4 fun y6 =>
  .st (y6.add (y4.toNat*(5:Nat))) [.string y5.1,.string y5.2.1,.bool y5.2.2.1,Sc.val .l y5.2.2.2.1,.int .i64 y5.2.2.2.2.1] <|
 .qc9 105 [qv3 y3] fun y7 =>
  .bn y7 (.ret [qv3 (({ data:={ toList:=[]:Array UInt8 }:ByteArray }),nilS,()),.bool (false)]) <|
 .ret [qv3 y3,.bool (true)]) <|
 .rg <|
 .qc34 109 [qv5 x1] fun y5 =>
 .rq ([Value.string y5.1,Value.string y5.2.1,Value.bool y5.2.2.1,Value.slice y5.2.2.2.1.1 y5.2.2.2.1.n y5.2.2.2.1.c,Value.int IntKind.i64 y5.2.2.2.2.1].length=(1:Nat)*(5:Nat)) <|
 .rq (one [Value.string y5.1,Value.string y5.2.1,Value.bool y5.2.2.1,Value.slice y5.2.2.2.1.1 y5.2.2.2.1.n y5.2.2.2.1.c,Value.int IntKind.i64 y5.2.2.2.2.1]=true) <|
 .ap ({ a:=y3.2.1.1,n:=y3.2.1.n,c:=y3.2.1.c:SlV }) 5 72 [.string y5.1,.string y5.2.1,.bool y5.2.2.1,Sc.val .l y5.2.2.2.1,.int .i64 y5.2.2.2.2.1] ((1:Nat)) 111 fun y6 =>
 .qc9 105 [qv3 (y3.1,y6,())] fun y7 =>
 .bn y7 (.ret [qv3 (({ data:={ toList:=[]:Array UInt8 }:ByteArray }),nilS,()),.bool (false)]) <|
 .ret [qv3 (y3.1,y6,()),.bool (true)]
theorem fS_RatePut x0 x1:qft qa0 66 [qv3 x0,qv5 x1] (tS_RatePut x0 x1) :=fitK (by kernel_rfl)
def tS_l08Cur (x0:Addr):T :=
 .fz ((7:Nat)) [.string ({ data:={ toList:=[(67:UInt8),(72:UInt8),(70:UInt8)]:Array UInt8 }:ByteArray }),.string ({ data:={ toList:=[(69:UInt8),(85:UInt8),(82:UInt8)]:Array UInt8 }:ByteArray }),.string ({ data:={ toList:=[(85:UInt8),(83:UInt8),(68:UInt8)]:Array UInt8 }:ByteArray }),.string ({ data:={ toList:=[(74:UInt8),(80:UInt8),(89:UInt8)]:Array UInt8 }:ByteArray }),.string ({ data:={ toList:=[(75:UInt8),(87:UInt8),(68:UInt8)]:Array UInt8 }:ByteArray }),.string ({ data:={ toList:=[(72:UInt8),(85:UInt8),(70:UInt8)]:Array UInt8 }:ByteArray }),.string ({ data:={ toList:=[(67:UInt8),(76:UInt8),(70:UInt8)]:Array UInt8 }:ByteArray })] 9 fun b1 c1 =>
 .qc2 63 [.pointer (some x0),.slice (some { block:=b1,off:=(0:Nat):Addr }) ((7:Nat)) (c1)] fun y2 =>
 .ret [.string y2]
theorem fS_l08Cur x0:qft qa0 68 [.pointer (some x0)] (tS_l08Cur x0) :=fitK (by kernel_rfl)
def tS_l04Make (x0:Bool) (x1:SlV):T :=
 .qc13 111 [Sc.val .l x1] fun y1 =>
 .br x0 (
  .rd ({ a:=y1.1,n:=y1.n,c:=y1.c:SlV }) ((1:Nat)) fun y2 =>
  .rq (one y2=true∧((0:Nat)+y1.n)*(8:Nat)≤(140737488355328:Nat)∧(0:Nat)+y1.n≤(9223372036854775807:Nat)) <|
 .fz ((0:Nat)+y1.n) ([]++y2) 3 fun b3 c3 =>
  .ret [qv1 ((decide ((↑y1.n:Int) > (0:Int))),(⟨(some { block:=b3,off:=(0:Nat):Addr }),((0:Nat)+y1.n),(c3)⟩:SlV),())]) <|
 .rd ({ a:=y1.1,n:=y1.n,c:=y1.c:SlV }) ((1:Nat)) fun y2 =>
 .rq (one y2=true∧((0:Nat)+y1.n)*(8:Nat)≤(140737488355328:Nat)∧(0:Nat)+y1.n≤(9223372036854775807:Nat)) <|
 .fz ((0:Nat)+y1.n) ([]++y2) 3 fun b3 c3 =>
 .ret [qv1 ((false),(⟨(some { block:=b3,off:=(0:Nat):Addr }),((0:Nat)+y1.n),(c3)⟩:SlV),())]
theorem fS_l04Make x0 x1:qft qa0 69 [.bool x0,Sc.val .l x1] (tS_l04Make x0 x1) :=fitK (by kernel_rfl)
def aS_NatOf:An:=⟨[(2,[.s 0,.s 3],[.o (.o (.i .i64)),.a 3])],[],[]⟩
def tS_NatOf (x0:Int):T :=
 .lp [.o (.o (.i .i64)),.a 3] [.v (.int .i64 x0),.a 3 ((0:Nat)) []] fun y1 =>
 .br (decide (y1.1 > (0:Int))) (
  .rq ((1000000000:Int)≠(0:Int)) <|
 .rq ([Value.int IntKind.i64 (Int.tmod y1.1 (1000000000:Int))].length=(1:Nat)*(1:Nat)) <|
 .rq (one [Value.int IntKind.i64 (Int.tmod y1.1 (1000000000:Int))]=true∧(y1.2.1.1+(1:Nat))*(8:Nat)≤(140737488355328:Nat)∧y1.2.1.1+(1:Nat)≤(9223372036854775807:Nat)) <|
 .rq ((1000000000:Int)≠(0:Int)) <|
 .nx 0 [.v (.int .i64 (IntKind.i64.wrap (Int.tdiv y1.1 (1000000000:Int)))),.a 3 (y1.2.1.1+(1:Nat)) (y1.2.1.2++[Value.int IntKind.i64 (Int.tmod y1.1 (1000000000:Int))])]) <|
 .fz y1.2.1.1 y1.2.1.2 3 fun b2 c2 =>
 .ret [.slice (some { block:=b2,off:=(0:Nat):Addr }) y1.2.1.1 (c2)]
theorem fS_NatOf x0:qft aS_NatOf 70 [.int .i64 x0] (tS_NatOf x0) :=fitK (by kernel_rfl)
def tS_l01Byte (x0:Addr):T :=
 .ql25 (x0.add (2:Nat)) fun y1 =>
 .st (x0.add (2:Nat)) [.int .i64 (IntKind.i64.wrap (IntKind.i64.wrap (y1*(6364136223846793005:Int))+(1442695040888963407:Int)))] <|
 .rg <|
 .ql35 (x0.add (2:Nat)) fun y2 =>
 .ql35 (x0.add (2:Nat)) fun y3 =>
 .rg <|
 .ql35 (x0.add (1:Nat)) fun y4 =>
 .ql36 (x0.add (0:Nat)) fun y5 =>
 .br (decide (y4<(↑y5.n:Int))) (
  .rg <|
 .ql36 (x0.add (0:Nat)) fun y6 =>
  .ql35 (x0.add (1:Nat)) fun y7 =>
  .el y6.1 (y6.n) y7 fun y8 =>
  .ql37 (y8.add (y7.toNat*(1:Nat))) fun y9 =>
  .ql25 (x0.add (1:Nat)) fun y10 =>
  .st (x0.add (1:Nat)) [.int .i64 (IntKind.i64.wrap (y10+(1:Int)))] <|
 .ret [.int .i64 (IntKind.i64.wrap (↑(BitVec.ofInt (64:Nat) (IntKind.i64.wrap (IntKind.i64.wrap (↑(BitVec.ofInt (64:Nat) (IntKind.i64.wrap (↑(BitVec.ofInt (64:Nat) (y2.fdiv ((2:Int) ^ min (Int.toNat (33:Int)) (64:Nat))) ^^^ BitVec.ofInt (64:Nat) (y3.fdiv ((2:Int) ^ min (Int.toNat (45:Int)) (64:Nat)))).toNat:Int)) &&& BitVec.ofInt (64:Nat) (255:Int)).toNat:Int)+IntKind.i64.wrap y9)) &&& BitVec.ofInt (64:Nat) (255:Int)).toNat:Int))]) <|
 .ret [.int .i64 (IntKind.i64.wrap (↑(BitVec.ofInt (64:Nat) (IntKind.i64.wrap (↑(BitVec.ofInt (64:Nat) (y2.fdiv ((2:Int) ^ min (Int.toNat (33:Int)) (64:Nat))) ^^^ BitVec.ofInt (64:Nat) (y3.fdiv ((2:Int) ^ min (Int.toNat (45:Int)) (64:Nat)))).toNat:Int)) &&& BitVec.ofInt (64:Nat) (255:Int)).toNat:Int))]
theorem fS_l01Byte x0:qft qa0 71 [.pointer (some x0)] (tS_l01Byte x0) :=fitK (by kernel_rfl)
def tI_RateOk (x0:qy5):T :=
 .qc9 34 [.string x0.1] fun y1 =>
 .br y1 (
  .qc9 34 [.string x0.2.1] fun y2 =>
  .br y2 (
   .br (!ByteArray.toList x0.1 == ByteArray.toList x0.2.1) (
    .qc9 112 [qv6 x0.2.2] fun y3 =>
    .br y3 (
     .qc10 62 [qv1 (x0.2.2.1,x0.2.2.2.1,())] fun y4 =>
     .br (decide (y4 > (0:Int))) (
      .ret [.bool (decide ((↑x0.2.2.2.1.n:Int)≤(2:Int)))]) <|
 .rF) <|
 .rF) <|
 .rF) <|
 .rF) <|
 .rF
theorem fI_RateOk x0:qft qa0 72 [qv5 x0] (tI_RateOk x0) :=fitK (by kernel_rfl)
def aI_currencyOf:An:=⟨[(2,[.s 7,.c 2 0,.c 2 1,.c 2 2,.c 2 3],[.o (.o (.i .i64)),.o (.o (.s)),.o (.o (.s)),.o (.o (.i .i64)),.o (.o (.i .i64))])],[],[]⟩
def tI_currencyOf (x0:ByteArray):T :=
 .ql38 ({ block:=(0:Nat),off:=(0:Nat):Addr }) fun y1 =>
 .lp [.o (.o (.i .i64)),.o (.o (.s)),.o (.o (.s)),.o (.o (.i .i64)),.o (.o (.i .i64))] [.v (.int .i64 0),.v (.string ({ data:={ toList:=[]:Array UInt8 }:ByteArray })),.v (.string ({ data:={ toList:=[]:Array UInt8 }:ByteArray })),.v (.int .i64 0),.v (.int .i64 0)] fun y2 =>
 .br (decide (y2.1<(20:Int))) (
  .rq ((0:Int)≤y2.1∧y2.1<(↑(20:Nat):Int)) <|
 .xs [.string y1.1,.string y1.2.1,.int .i64 y1.2.2.1,.int .i64 y1.2.2.2.1,.string y1.2.2.2.2.1,.string y1.2.2.2.2.2.1,.int .i64 y1.2.2.2.2.2.2.1,.int .i64 y1.2.2.2.2.2.2.2.1,.string y1.2.2.2.2.2.2.2.2.1,.string y1.2.2.2.2.2.2.2.2.2.1,.int .i64 y1.2.2.2.2.2.2.2.2.2.2.1,.int .i64 y1.2.2.2.2.2.2.2.2.2.2.2.1,.string y1.2.2.2.2.2.2.2.2.2.2.2.2.1,.string y1.2.2.2.2.2.2.2.2.2.2.2.2.2.1,.int .i64 y1.2.2.2.2.2.2.2.2.2.2.2.2.2.2.1,.int .i64 y1.2.2.2.2.2.2.2.2.2.2.2.2.2.2.2.1,.string y1.2.2.2.2.2.2.2.2.2.2.2.2.2.2.2.2.1,.string y1.2.2.2.2.2.2.2.2.2.2.2.2.2.2.2.2.2.1,.int .i64 y1.2.2.2.2.2.2.2.2.2.2.2.2.2.2.2.2.2.2.1,.int .i64 y1.2.2.2.2.2.2.2.2.2.2.2.2.2.2.2.2.2.2.2.1,.string y1.2.2.2.2.2.2.2.2.2.2.2.2.2.2.2.2.2.2.2.2.1,.string y1.2.2.2.2.2.2.2.2.2.2.2.2.2.2.2.2.2.2.2.2.2.1,.int .i64 y1.2.2.2.2.2.2.2.2.2.2.2.2.2.2.2.2.2.2.2.2.2.2.1,.int .i64 y1.2.2.2.2.2.2.2.2.2.2.2.2.2.2.2.2.2.2.2.2.2.2.2.1,.string y1.2.2.2.2.2.2.2.2.2.2.2.2.2.2.2.2.2.2.2.2.2.2.2.2.1,.string y1.2.2.2.2.2.2.2.2.2.2.2.2.2.2.2.2.2.2.2.2.2.2.2.2.2.1,.int .i64 y1.2.2.2.2.2.2.2.2.2.2.2.2.2.2.2.2.2.2.2.2.2.2.2.2.2.2.1,.int .i64 y1.2.2.2.2.2.2.2.2.2.2.2.2.2.2.2.2.2.2.2.2.2.2.2.2.2.2.2.1,.string y1.2.2.2.2.2.2.2.2.2.2.2.2.2.2.2.2.2.2.2.2.2.2.2.2.2.2.2.2.1,.string y1.2.2.2.2.2.2.2.2.2.2.2.2.2.2.2.2.2.2.2.2.2.2.2.2.2.2.2.2.2.1,.int .i64 y1.2.2.2.2.2.2.2.2.2.2.2.2.2.2.2.2.2.2.2.2.2.2.2.2.2.2.2.2.2.2.1,.int .i64 y1.2.2.2.2.2.2.2.2.2.2.2.2.2.2.2.2.2.2.2.2.2.2.2.2.2.2.2.2.2.2.2.1,.string y1.2.2.2.2.2.2.2.2.2.2.2.2.2.2.2.2.2.2.2.2.2.2.2.2.2.2.2.2.2.2.2.2.1,.string y1.2.2.2.2.2.2.2.2.2.2.2.2.2.2.2.2.2.2.2.2.2.2.2.2.2.2.2.2.2.2.2.2.2.1,.int .i64 y1.2.2.2.2.2.2.2.2.2.2.2.2.2.2.2.2.2.2.2.2.2.2.2.2.2.2.2.2.2.2.2.2.2.2.1,.int .i64 y1.2.2.2.2.2.2.2.2.2.2.2.2.2.2.2.2.2.2.2.2.2.2.2.2.2.2.2.2.2.2.2.2.2.2.2.1,.string y1.2.2.2.2.2.2.2.2.2.2.2.2.2.2.2.2.2.2.2.2.2.2.2.2.2.2.2.2.2.2.2.2.2.2.2.2.1,.string y1.2.2.2.2.2.2.2.2.2.2.2.2.2.2.2.2.2.2.2.2.2.2.2.2.2.2.2.2.2.2.2.2.2.2.2.2.2.1,.int .i64 y1.2.2.2.2.2.2.2.2.2.2.2.2.2.2.2.2.2.2.2.2.2.2.2.2.2.2.2.2.2.2.2.2.2.2.2.2.2.2.1,.int .i64 y1.2.2.2.2.2.2.2.2.2.2.2.2.2.2.2.2.2.2.2.2.2.2.2.2.2.2.2.2.2.2.2.2.2.2.2.2.2.2.2.1,.string y1.2.2.2.2.2.2.2.2.2.2.2.2.2.2.2.2.2.2.2.2.2.2.2.2.2.2.2.2.2.2.2.2.2.2.2.2.2.2.2.2.1,.string y1.2.2.2.2.2.2.2.2.2.2.2.2.2.2.2.2.2.2.2.2.2.2.2.2.2.2.2.2.2.2.2.2.2.2.2.2.2.2.2.2.2.1,.int .i64 y1.2.2.2.2.2.2.2.2.2.2.2.2.2.2.2.2.2.2.2.2.2.2.2.2.2.2.2.2.2.2.2.2.2.2.2.2.2.2.2.2.2.2.1,.int .i64 y1.2.2.2.2.2.2.2.2.2.2.2.2.2.2.2.2.2.2.2.2.2.2.2.2.2.2.2.2.2.2.2.2.2.2.2.2.2.2.2.2.2.2.2.1,.string y1.2.2.2.2.2.2.2.2.2.2.2.2.2.2.2.2.2.2.2.2.2.2.2.2.2.2.2.2.2.2.2.2.2.2.2.2.2.2.2.2.2.2.2.2.1,.string y1.2.2.2.2.2.2.2.2.2.2.2.2.2.2.2.2.2.2.2.2.2.2.2.2.2.2.2.2.2.2.2.2.2.2.2.2.2.2.2.2.2.2.2.2.2.1,.int .i64 y1.2.2.2.2.2.2.2.2.2.2.2.2.2.2.2.2.2.2.2.2.2.2.2.2.2.2.2.2.2.2.2.2.2.2.2.2.2.2.2.2.2.2.2.2.2.2.1,.int .i64 y1.2.2.2.2.2.2.2.2.2.2.2.2.2.2.2.2.2.2.2.2.2.2.2.2.2.2.2.2.2.2.2.2.2.2.2.2.2.2.2.2.2.2.2.2.2.2.2.1,.string y1.2.2.2.2.2.2.2.2.2.2.2.2.2.2.2.2.2.2.2.2.2.2.2.2.2.2.2.2.2.2.2.2.2.2.2.2.2.2.2.2.2.2.2.2.2.2.2.2.1,.string y1.2.2.2.2.2.2.2.2.2.2.2.2.2.2.2.2.2.2.2.2.2.2.2.2.2.2.2.2.2.2.2.2.2.2.2.2.2.2.2.2.2.2.2.2.2.2.2.2.2.1,.int .i64 y1.2.2.2.2.2.2.2.2.2.2.2.2.2.2.2.2.2.2.2.2.2.2.2.2.2.2.2.2.2.2.2.2.2.2.2.2.2.2.2.2.2.2.2.2.2.2.2.2.2.2.1,.int .i64 y1.2.2.2.2.2.2.2.2.2.2.2.2.2.2.2.2.2.2.2.2.2.2.2.2.2.2.2.2.2.2.2.2.2.2.2.2.2.2.2.2.2.2.2.2.2.2.2.2.2.2.2.1,.string y1.2.2.2.2.2.2.2.2.2.2.2.2.2.2.2.2.2.2.2.2.2.2.2.2.2.2.2.2.2.2.2.2.2.2.2.2.2.2.2.2.2.2.2.2.2.2.2.2.2.2.2.2.1,.string y1.2.2.2.2.2.2.2.2.2.2.2.2.2.2.2.2.2.2.2.2.2.2.2.2.2.2.2.2.2.2.2.2.2.2.2.2.2.2.2.2.2.2.2.2.2.2.2.2.2.2.2.2.2.1,.int .i64 y1.2.2.2.2.2.2.2.2.2.2.2.2.2.2.2.2.2.2.2.2.2.2.2.2.2.2.2.2.2.2.2.2.2.2.2.2.2.2.2.2.2.2.2.2.2.2.2.2.2.2.2.2.2.2.1,.int .i64 y1.2.2.2.2.2.2.2.2.2.2.2.2.2.2.2.2.2.2.2.2.2.2.2.2.2.2.2.2.2.2.2.2.2.2.2.2.2.2.2.2.2.2.2.2.2.2.2.2.2.2.2.2.2.2.2.1,.string y1.2.2.2.2.2.2.2.2.2.2.2.2.2.2.2.2.2.2.2.2.2.2.2.2.2.2.2.2.2.2.2.2.2.2.2.2.2.2.2.2.2.2.2.2.2.2.2.2.2.2.2.2.2.2.2.2.1,.string y1.2.2.2.2.2.2.2.2.2.2.2.2.2.2.2.2.2.2.2.2.2.2.2.2.2.2.2.2.2.2.2.2.2.2.2.2.2.2.2.2.2.2.2.2.2.2.2.2.2.2.2.2.2.2.2.2.2.1,.int .i64 y1.2.2.2.2.2.2.2.2.2.2.2.2.2.2.2.2.2.2.2.2.2.2.2.2.2.2.2.2.2.2.2.2.2.2.2.2.2.2.2.2.2.2.2.2.2.2.2.2.2.2.2.2.2.2.2.2.2.2.1,.int .i64 y1.2.2.2.2.2.2.2.2.2.2.2.2.2.2.2.2.2.2.2.2.2.2.2.2.2.2.2.2.2.2.2.2.2.2.2.2.2.2.2.2.2.2.2.2.2.2.2.2.2.2.2.2.2.2.2.2.2.2.2.1,.string y1.2.2.2.2.2.2.2.2.2.2.2.2.2.2.2.2.2.2.2.2.2.2.2.2.2.2.2.2.2.2.2.2.2.2.2.2.2.2.2.2.2.2.2.2.2.2.2.2.2.2.2.2.2.2.2.2.2.2.2.2.1,.string y1.2.2.2.2.2.2.2.2.2.2.2.2.2.2.2.2.2.2.2.2.2.2.2.2.2.2.2.2.2.2.2.2.2.2.2.2.2.2.2.2.2.2.2.2.2.2.2.2.2.2.2.2.2.2.2.2.2.2.2.2.2.1,.int .i64 y1.2.2.2.2.2.2.2.2.2.2.2.2.2.2.2.2.2.2.2.2.2.2.2.2.2.2.2.2.2.2.2.2.2.2.2.2.2.2.2.2.2.2.2.2.2.2.2.2.2.2.2.2.2.2.2.2.2.2.2.2.2.2.1,.int .i64 y1.2.2.2.2.2.2.2.2.2.2.2.2.2.2.2.2.2.2.2.2.2.2.2.2.2.2.2.2.2.2.2.2.2.2.2.2.2.2.2.2.2.2.2.2.2.2.2.2.2.2.2.2.2.2.2.2.2.2.2.2.2.2.2.1,.string y1.2.2.2.2.2.2.2.2.2.2.2.2.2.2.2.2.2.2.2.2.2.2.2.2.2.2.2.2.2.2.2.2.2.2.2.2.2.2.2.2.2.2.2.2.2.2.2.2.2.2.2.2.2.2.2.2.2.2.2.2.2.2.2.2.1,.string y1.2.2.2.2.2.2.2.2.2.2.2.2.2.2.2.2.2.2.2.2.2.2.2.2.2.2.2.2.2.2.2.2.2.2.2.2.2.2.2.2.2.2.2.2.2.2.2.2.2.2.2.2.2.2.2.2.2.2.2.2.2.2.2.2.2.1,.int .i64 y1.2.2.2.2.2.2.2.2.2.2.2.2.2.2.2.2.2.2.2.2.2.2.2.2.2.2.2.2.2.2.2.2.2.2.2.2.2.2.2.2.2.2.2.2.2.2.2.2.2.2.2.2.2.2.2.2.2.2.2.2.2.2.2.2.2.2.1,.int .i64 y1.2.2.2.2.2.2.2.2.2.2.2.2.2.2.2.2.2.2.2.2.2.2.2.2.2.2.2.2.2.2.2.2.2.2.2.2.2.2.2.2.2.2.2.2.2.2.2.2.2.2.2.2.2.2.2.2.2.2.2.2.2.2.2.2.2.2.2.1,.string y1.2.2.2.2.2.2.2.2.2.2.2.2.2.2.2.2.2.2.2.2.2.2.2.2.2.2.2.2.2.2.2.2.2.2.2.2.2.2.2.2.2.2.2.2.2.2.2.2.2.2.2.2.2.2.2.2.2.2.2.2.2.2.2.2.2.2.2.2.1,.string y1.2.2.2.2.2.2.2.2.2.2.2.2.2.2.2.2.2.2.2.2.2.2.2.2.2.2.2.2.2.2.2.2.2.2.2.2.2.2.2.2.2.2.2.2.2.2.2.2.2.2.2.2.2.2.2.2.2.2.2.2.2.2.2.2.2.2.2.2.2.1,.int .i64 y1.2.2.2.2.2.2.2.2.2.2.2.2.2.2.2.2.2.2.2.2.2.2.2.2.2.2.2.2.2.2.2.2.2.2.2.2.2.2.2.2.2.2.2.2.2.2.2.2.2.2.2.2.2.2.2.2.2.2.2.2.2.2.2.2.2.2.2.2.2.2.1,.int .i64 y1.2.2.2.2.2.2.2.2.2.2.2.2.2.2.2.2.2.2.2.2.2.2.2.2.2.2.2.2.2.2.2.2.2.2.2.2.2.2.2.2.2.2.2.2.2.2.2.2.2.2.2.2.2.2.2.2.2.2.2.2.2.2.2.2.2.2.2.2.2.2.2.1,.string y1.2.2.2.2.2.2.2.2.2.2.2.2.2.2.2.2.2.2.2.2.2.2.2.2.2.2.2.2.2.2.2.2.2.2.2.2.2.2.2.2.2.2.2.2.2.2.2.2.2.2.2.2.2.2.2.2.2.2.2.2.2.2.2.2.2.2.2.2.2.2.2.2.1,.string y1.2.2.2.2.2.2.2.2.2.2.2.2.2.2.2.2.2.2.2.2.2.2.2.2.2.2.2.2.2.2.2.2.2.2.2.2.2.2.2.2.2.2.2.2.2.2.2.2.2.2.2.2.2.2.2.2.2.2.2.2.2.2.2.2.2.2.2.2.2.2.2.2.2.1,.int .i64 y1.2.2.2.2.2.2.2.2.2.2.2.2.2.2.2.2.2.2.2.2.2.2.2.2.2.2.2.2.2.2.2.2.2.2.2.2.2.2.2.2.2.2.2.2.2.2.2.2.2.2.2.2.2.2.2.2.2.2.2.2.2.2.2.2.2.2.2.2.2.2.2.2.2.2.1,.int .i64 y1.2.2.2.2.2.2.2.2.2.2.2.2.2.2.2.2.2.2.2.2.2.2.2.2.2.2.2.2.2.2.2.2.2.2.2.2.2.2.2.2.2.2.2.2.2.2.2.2.2.2.2.2.2.2.2.2.2.2.2.2.2.2.2.2.2.2.2.2.2.2.2.2.2.2.2.1,.string y1.2.2.2.2.2.2.2.2.2.2.2.2.2.2.2.2.2.2.2.2.2.2.2.2.2.2.2.2.2.2.2.2.2.2.2.2.2.2.2.2.2.2.2.2.2.2.2.2.2.2.2.2.2.2.2.2.2.2.2.2.2.2.2.2.2.2.2.2.2.2.2.2.2.2.2.2.1,.string y1.2.2.2.2.2.2.2.2.2.2.2.2.2.2.2.2.2.2.2.2.2.2.2.2.2.2.2.2.2.2.2.2.2.2.2.2.2.2.2.2.2.2.2.2.2.2.2.2.2.2.2.2.2.2.2.2.2.2.2.2.2.2.2.2.2.2.2.2.2.2.2.2.2.2.2.2.2.1,.int .i64 y1.2.2.2.2.2.2.2.2.2.2.2.2.2.2.2.2.2.2.2.2.2.2.2.2.2.2.2.2.2.2.2.2.2.2.2.2.2.2.2.2.2.2.2.2.2.2.2.2.2.2.2.2.2.2.2.2.2.2.2.2.2.2.2.2.2.2.2.2.2.2.2.2.2.2.2.2.2.2.1,.int .i64 y1.2.2.2.2.2.2.2.2.2.2.2.2.2.2.2.2.2.2.2.2.2.2.2.2.2.2.2.2.2.2.2.2.2.2.2.2.2.2.2.2.2.2.2.2.2.2.2.2.2.2.2.2.2.2.2.2.2.2.2.2.2.2.2.2.2.2.2.2.2.2.2.2.2.2.2.2.2.2.2.1] (Int.toNat y2.1*(4:Nat)) (.g [.s,.s,.i .i64,.i .i64]) fun y3 =>
  .br (ByteArray.toList y3.1 == x0.toList) (
   .ret [qv10 y3,.bool (true)]) <|
 .nx 0 [.v (.int .i64 (IntKind.i64.wrap (y2.1+(1:Int)))),.v (.string y2.2.1),.v (.string y2.2.2.1),.v (.int .i64 y2.2.2.2.1),.v (.int .i64 y2.2.2.2.2.1)]) <|
 .ret [qv10 (({ data:={ toList:=[]:Array UInt8 }:ByteArray }),({ data:={ toList:=[]:Array UInt8 }:ByteArray }),(((0:Int)):Int),(((0:Int)):Int),()),.bool (false)]
theorem fI_currencyOf x0:qft aI_currencyOf 73 [.string x0] (tI_currencyOf x0) :=fitK (by kernel_rfl)
def aI_Rates__listed:An:=⟨[(2,[.s 11],[.o (.o (.i .i64))])],[],[]⟩
def tI_Rates__listed (x0:qy2) (x1:ByteArray × ByteArray × PUnit):T :=
 .lp [.o (.o (.i .i64))] [.v (.int .i64 0)] fun y1 =>
 .br (decide (y1.1<(↑x0.2.1.n:Int))) (
  .el x0.2.1.1 (x0.2.1.n) y1.1 fun y2 =>
  .ql21 (y2.add (Int.toNat y1.1*(5:Nat))) fun y3 =>
  .br (y3.1 == x1.1 && y3.2.1 == x1.2.1) (
   .ret [qv6 y3.2.2,.bool (true)]) <|
 .nx 0 [.v (.int .i64 (IntKind.i64.wrap (y1.1+(1:Int))))]) <|
 .ret [qv6 ((false),nilS,(((0:Int)):Int),()),.bool (false)]
theorem fI_Rates__listed x0 x1:qft aI_Rates__listed 74 [qv3 x0,qv9 x1] (tI_Rates__listed x0 x1) :=fitK (by kernel_rfl)
def tS_l08Table :T :=
 .fz ((20:Nat)) [.string ({ data:={ toList:=[(65:UInt8),(85:UInt8),(68:UInt8)]:Array UInt8 }:ByteArray }),.string ({ data:={ toList:=[(48:UInt8),(51:UInt8),(54:UInt8)]:Array UInt8 }:ByteArray }),.int .i64 2,.int .i64 5,.string ({ data:={ toList:=[(66:UInt8),(72:UInt8),(68:UInt8)]:Array UInt8 }:ByteArray }),.string ({ data:={ toList:=[(48:UInt8),(52:UInt8),(56:UInt8)]:Array UInt8 }:ByteArray }),.int .i64 3,.int .i64 5,.string ({ data:={ toList:=[(67:UInt8),(65:UInt8),(68:UInt8)]:Array UInt8 }:ByteArray }),.string ({ data:={ toList:=[(49:UInt8),(50:UInt8),(52:UInt8)]:Array UInt8 }:ByteArray }),.int .i64 2,.int .i64 5,.string ({ data:={ toList:=[(67:UInt8),(72:UInt8),(70:UInt8)]:Array UInt8 }:ByteArray }),.string ({ data:={ toList:=[(55:UInt8),(53:UInt8),(54:UInt8)]:Array UInt8 }:ByteArray }),.int .i64 2,.int .i64 5,.string ({ data:={ toList:=[(67:UInt8),(76:UInt8),(70:UInt8)]:Array UInt8 }:ByteArray }),.string ({ data:={ toList:=[(57:UInt8),(57:UInt8),(48:UInt8)]:Array UInt8 }:ByteArray }),.int .i64 4,.int .i64 1,.string ({ data:={ toList:=[(67:UInt8),(90:UInt8),(75:UInt8)]:Array UInt8 }:ByteArray }),.string ({ data:={ toList:=[(50:UInt8),(48:UInt8),(51:UInt8)]:Array UInt8 }:ByteArray }),.int .i64 2,.int .i64 100,.string ({ data:={ toList:=[(68:UInt8),(75:UInt8),(75:UInt8)]:Array UInt8 }:ByteArray }),.string ({ data:={ toList:=[(50:UInt8),(48:UInt8),(56:UInt8)]:Array UInt8 }:ByteArray }),.int .i64 2,.int .i64 50,.string ({ data:={ toList:=[(69:UInt8),(85:UInt8),(82:UInt8)]:Array UInt8 }:ByteArray }),.string ({ data:={ toList:=[(57:UInt8),(55:UInt8),(56:UInt8)]:Array UInt8 }:ByteArray }),.int .i64 2,.int .i64 1,.string ({ data:={ toList:=[(71:UInt8),(66:UInt8),(80:UInt8)]:Array UInt8 }:ByteArray }),.string ({ data:={ toList:=[(56:UInt8),(50:UInt8),(54:UInt8)]:Array UInt8 }:ByteArray }),.int .i64 2,.int .i64 1,.string ({ data:={ toList:=[(72:UInt8),(85:UInt8),(70:UInt8)]:Array UInt8 }:ByteArray }),.string ({ data:={ toList:=[(51:UInt8),(52:UInt8),(56:UInt8)]:Array UInt8 }:ByteArray }),.int .i64 2,.int .i64 500,.string ({ data:={ toList:=[(73:UInt8),(83:UInt8),(75:UInt8)]:Array UInt8 }:ByteArray }),.string ({ data:={ toList:=[(51:UInt8),(53:UInt8),(50:UInt8)]:Array UInt8 }:ByteArray }),.int .i64 0,.int .i64 1,.string ({ data:={ toList:=[(74:UInt8),(80:UInt8),(89:UInt8)]:Array UInt8 }:ByteArray }),.string ({ data:={ toList:=[(51:UInt8),(57:UInt8),(50:UInt8)]:Array UInt8 }:ByteArray }),.int .i64 0,.int .i64 1,.string ({ data:={ toList:=[(75:UInt8),(82:UInt8),(87:UInt8)]:Array UInt8 }:ByteArray }),.string ({ data:={ toList:=[(52:UInt8),(49:UInt8),(48:UInt8)]:Array UInt8 }:ByteArray }),.int .i64 0,.int .i64 10,.string ({ data:={ toList:=[(75:UInt8),(87:UInt8),(68:UInt8)]:Array UInt8 }:ByteArray }),.string ({ data:={ toList:=[(52:UInt8),(49:UInt8),(52:UInt8)]:Array UInt8 }:ByteArray }),.int .i64 3,.int .i64 5,.string ({ data:={ toList:=[(78:UInt8),(79:UInt8),(75:UInt8)]:Array UInt8 }:ByteArray }),.string ({ data:={ toList:=[(53:UInt8),(55:UInt8),(56:UInt8)]:Array UInt8 }:ByteArray }),.int .i64 2,.int .i64 100,.string ({ data:={ toList:=[(78:UInt8),(90:UInt8),(68:UInt8)]:Array UInt8 }:ByteArray }),.string ({ data:={ toList:=[(53:UInt8),(53:UInt8),(52:UInt8)]:Array UInt8 }:ByteArray }),.int .i64 2,.int .i64 10,.string ({ data:={ toList:=[(80:UInt8),(76:UInt8),(78:UInt8)]:Array UInt8 }:ByteArray }),.string ({ data:={ toList:=[(57:UInt8),(56:UInt8),(53:UInt8)]:Array UInt8 }:ByteArray }),.int .i64 2,.int .i64 1,.string ({ data:={ toList:=[(83:UInt8),(69:UInt8),(75:UInt8)]:Array UInt8 }:ByteArray }),.string ({ data:={ toList:=[(55:UInt8),(53:UInt8),(50:UInt8)]:Array UInt8 }:ByteArray }),.int .i64 2,.int .i64 100,.string ({ data:={ toList:=[(84:UInt8),(78:UInt8),(68:UInt8)]:Array UInt8 }:ByteArray }),.string ({ data:={ toList:=[(55:UInt8),(56:UInt8),(56:UInt8)]:Array UInt8 }:ByteArray }),.int .i64 3,.int .i64 10,.string ({ data:={ toList:=[(85:UInt8),(83:UInt8),(68:UInt8)]:Array UInt8 }:ByteArray }),.string ({ data:={ toList:=[(56:UInt8),(52:UInt8),(48:UInt8)]:Array UInt8 }:ByteArray }),.int .i64 2,.int .i64 1] 80 fun b1 c1 =>
 .ret [.slice (some { block:=b1,off:=(0:Nat):Addr }) ((20:Nat)) (c1)]
theorem fS_l08Table :qft qa0 75 [] (tS_l08Table ) :=fitK (by kernel_rfl)
def tI_DecRat (x0:qy6):T :=
 .qc9 112 [qv6 x0] fun y1 =>
 .bn y1 (.ret [qv0 ((false),nilS,nilS,())]) <|
 .rg <|
 .qc12 39 [.int .i64 x0.2.2.1] fun y2 =>
 .qc5 41 [qv1 (x0.1,x0.2.1,()),Sc.val .l y2] fun y3 =>
 .ret [qv0 y3.1]
theorem fI_DecRat x0:qft qa0 76 [qv6 x0] (tI_DecRat x0) :=fitK (by kernel_rfl)
def tI_RatDiv (x0:qy0) (x1:qy0):T :=
 .qc9 43 [qv0 x0,qv0 x1] fun y1 =>
 .bn y1 (.ret [qv0 ((false),nilS,nilS,()),.bool (false)]) <|
 .br ((↑x1.2.1.n:Int) == (0:Int)) (
  .ret [qv0 ((false),nilS,nilS,()),.bool (false)]) <|
 .rg <|
 .qc12 38 [Sc.val .l x0.2.1,Sc.val .l x1.2.2.1] fun y2 =>
 .qc14 42 [.bool (!x0.1 == x1.1),Sc.val .l y2] fun y3 =>
 .qc13 38 [Sc.val .l x0.2.2.1,Sc.val .l x1.2.1] fun y4 =>
 .qc5 41 [qv1 y3,Sc.val .l y4] fun y5 =>
 .ret [qv0 y5.1,.bool y5.2.1]
theorem fI_RatDiv x0 x1:qft qa0 77 [qv0 x0,qv0 x1] (tI_RatDiv x0 x1) :=fitK (by kernel_rfl)
def aI_trim:An:=⟨[(1,[.s 0],[.o (.o (.l))])],[],[]⟩
def tI_trim (x0:SlV):T :=
 .lp [.o (.o (.l))] [.v (Sc.val .l x0)] fun y1 =>
 .br (decide ((↑y1.1.n:Int) > (0:Int))) (
  .el y1.1.1 (y1.1.n) (IntKind.i64.wrap ((↑y1.1.n:Int)-(1:Int))) fun y2 =>
  .ql25 (y2.add ((IntKind.i64.wrap ((↑y1.1.n:Int)-(1:Int))).toNat*(1:Nat))) fun y3 =>
  .br (y3 == (0:Int)) (
   .rq ((0:Int)≤(0:Int)∧(0:Int)≤IntKind.i64.wrap ((↑y1.1.n:Int)-(1:Int))∧IntKind.i64.wrap ((↑y1.1.n:Int)-(1:Int))≤(↑y1.1.c:Int)∧(↑y1.1.c:Int)≤(↑y1.1.c:Int)) <|
 .nx 0 [.v (.slice (if (↑y1.1.c:Int).toNat=Int.toNat (0:Int) then y1.1.1 else Option.map (fun x=>x.add (Int.toNat (0:Int)*Go.Proofs.Tryz.prog.types[(3:Nat)].size)) y1.1.1) ((IntKind.i64.wrap ((↑y1.1.n:Int)-(1:Int))).toNat-Int.toNat (0:Int)) ((↑y1.1.c:Int).toNat-Int.toNat (0:Int)))]) <|
 .ret [Sc.val .l y1.1]) <|
 .ret [Sc.val .l y1.1]
theorem fI_trim x0:qft aI_trim 78 [Sc.val .l x0] (tI_trim x0) :=fitK (by kernel_rfl)
def aI_natGcd:An:=⟨[(1,[.s 0,.s 1],[.o (.o (.l)),.o (.o (.l))])],[],[]⟩
def tI_natGcd (x0:SlV) (x1:SlV):T :=
 .lp [.o (.o (.l)),.o (.o (.l))] [.v (Sc.val .l x0),.v (Sc.val .l x1)] fun y1 =>
 .br (decide ((↑y1.2.1.n:Int) > (0:Int))) (
  .qc26 80 [Sc.val .l y1.1,Sc.val .l y1.2.1] fun y2 =>
  .nx 0 [.v (Sc.val .l y1.2.1),.v (Sc.val .l y2.2.1)]) <|
 .qc13 82 [Sc.val .l y1.1] fun y2 =>
 .ret [Sc.val .l y2]
theorem fI_natGcd x0 x1:qft aI_natGcd 79 [Sc.val .l x0,Sc.val .l x1] (tI_natGcd x0 x1) :=fitK (by kernel_rfl)
def aI_natDiv:An:=⟨[(9,[.s 9],[.o (.o (.l))]),(14,[.s 12,.s 13],[.a 3,.o (.o (.i .i64))])],[],[]⟩
def tI_natDiv (x0:SlV) (x1:SlV):T :=
 .qc10 84 [Sc.val .l x0,Sc.val .l x1] fun y1 =>
 .br (decide (y1<(0:Int))) (
  .qc13 82 [Sc.val .l x0] fun y2 =>
  .fz ((0:Nat)) [] 3 fun b3 c3 =>
  .ret [.slice (some { block:=b3,off:=(0:Nat):Addr }) ((0:Nat)) (c3),Sc.val .l y2]) <|
 .br ((↑x1.n:Int) == (1:Int)) (
  .el x1.1 (x1.n) ((0:Int)) fun y2 =>
  .ql25 (y2.add (Int.toNat (0:Int)*(1:Nat))) fun y3 =>
  .qc39 113 [Sc.val .l x0,.int .i64 y3] fun y4 =>
  .qc13 114 [.int .i64 y4.2.1] fun y5 =>
  .ret [Sc.val .l y4.1,Sc.val .l y5]) <|
 .el x1.1 (x1.n) (IntKind.i64.wrap ((↑x1.n:Int)-(1:Int))) fun y2 =>
 .ql25 (y2.add ((IntKind.i64.wrap ((↑x1.n:Int)-(1:Int))).toNat*(1:Nat))) fun y3 =>
 .rq (IntKind.i64.wrap (y3+(1:Int))≠(0:Int)) <|
 .fz ((1:Nat)) [.int .i64 (IntKind.i64.wrap (Int.tdiv (1000000000:Int) (IntKind.i64.wrap (y3+(1:Int)))))] 3 fun b4 c4 =>
 .qc13 38 [Sc.val .l x0,.slice (some { block:=b4,off:=(0:Nat):Addr }) ((1:Nat)) (c4)] fun y5 =>
 .fz ((1:Nat)) [.int .i64 (IntKind.i64.wrap (Int.tdiv (1000000000:Int) (IntKind.i64.wrap (y3+(1:Int)))))] 3 fun b6 c6 =>
 .qc13 38 [Sc.val .l x1,.slice (some { block:=b6,off:=(0:Nat):Addr }) ((1:Nat)) (c6)] fun y7 =>
 .lp [.o (.o (.l))] [.v (Sc.val .l y5)] fun y8 =>
 .br (decide ((↑y8.1.n:Int)≤(↑x0.n:Int))) (
  .rq ([Value.int IntKind.i64 (0:Int)].length=(1:Nat)*(1:Nat)) <|
 .rq (one [Value.int IntKind.i64 (0:Int)]=true) <|
 .ap ({ a:=y8.1.1,n:=y8.1.n,c:=y8.1.c:SlV }) 1 8 [.int .i64 0] ((1:Nat)) 3 fun y9 =>
  .nx 0 [.v (Sc.val .l y9)]) <|
 .rq ((0:Int)≤IntKind.i64.wrap ((↑y8.1.n:Int)-(↑y7.n:Int))∧IntKind.i64.wrap ((↑y8.1.n:Int)-(↑y7.n:Int))≤IntKind.i64.wrap ((↑y8.1.n:Int)-(↑y7.n:Int))∧(↑(8:Nat):Int)*IntKind.i64.wrap ((↑y8.1.n:Int)-(↑y7.n:Int))≤(281474976710656:Int)∧IntKind.i64.wrap ((↑y8.1.n:Int)-(↑y7.n:Int))≤(9223372036854775807:Int)) <|
 .lp [.a 3,.o (.o (.i .i64))] [.a 3 ((IntKind.i64.wrap ((↑y8.1.n:Int)-(↑y7.n:Int))).toNat) ((madeCells { toList:=[Value.int IntKind.i64 (0:Int)]:Array Value } ((IntKind.i64.wrap ((↑y8.1.n:Int)-(↑y7.n:Int))).toNat*(1:Nat))).toList),.v (.int .i64 (IntKind.i64.wrap ((↑(IntKind.i64.wrap ((↑y8.1.n:Int)-(↑y7.n:Int))).toNat:Int)-(1:Int))))] fun y9 =>
 .br (decide (y9.2.1≥(0:Int))) (
  .rq ((0:Int)≤y9.2.1∧y9.2.1≤IntKind.i64.wrap (IntKind.i64.wrap (y9.2.1+(↑y7.n:Int))+(1:Int))∧IntKind.i64.wrap (IntKind.i64.wrap (y9.2.1+(↑y7.n:Int))+(1:Int))≤(↑y8.1.c:Int)∧(↑y8.1.c:Int)≤(↑y8.1.c:Int)) <|
 .qc10 115 [.slice (if (↑y8.1.c:Int).toNat=Int.toNat y9.2.1 then y8.1.1 else Option.map (fun x=>x.add (Int.toNat y9.2.1*Go.Proofs.Tryz.prog.types[(3:Nat)].size)) y8.1.1) ((IntKind.i64.wrap (IntKind.i64.wrap (y9.2.1+(↑y7.n:Int))+(1:Int))).toNat-Int.toNat y9.2.1) ((↑y8.1.c:Int).toNat-Int.toNat y9.2.1),Sc.val .l y7] fun y10 =>
  .rq ((0:Int)≤y9.2.1∧y9.2.1<(↑y9.1.1:Int)) <|
 .rq (Int.toNat y9.2.1*(1:Nat)+[Value.int IntKind.i64 y10].length≤y9.1.2.length) <|
 .nx 1 [.a 3 y9.1.1 (setl y9.1.2 (Int.toNat y9.2.1*(1:Nat)) [Value.int IntKind.i64 y10]),.v (.int .i64 (IntKind.i64.wrap (y9.2.1-(1:Int))))]) <|
 .qc13 78 [Sc.val .l y8.1] fun y10 =>
 .qc39 113 [Sc.val .l y10,.int .i64 (IntKind.i64.wrap (Int.tdiv (1000000000:Int) (IntKind.i64.wrap (y3+(1:Int)))))] fun y11 =>
 .fz y9.1.1 y9.1.2 3 fun b12 c12 =>
 .qc13 78 [.slice (some { block:=b12,off:=(0:Nat):Addr }) y9.1.1 (c12)] fun y13 =>
 .ret [Sc.val .l y13,Sc.val .l y11.1]
theorem fI_natDiv x0 x1:qft aI_natDiv 80 [Sc.val .l x0,Sc.val .l x1] (tI_natDiv x0 x1) :=fitK (by kernel_rfl)
def tI_IntOk (x0:qy1):T :=
 .qc9 103 [Sc.val .l x0.2.1] fun y1 =>
 .br y1 (
  .br (!x0.1) (
   .rT) <|
 .ret [.bool (decide ((↑x0.2.1.n:Int) > (0:Int)))]) <|
 .rF
theorem fI_IntOk x0:qft qa0 81 [qv1 x0] (tI_IntOk x0) :=fitK (by kernel_rfl)
def tI_natCopy (x0:SlV):T :=
 .rd ({ a:=x0.1,n:=x0.n,c:=x0.c:SlV }) ((1:Nat)) fun y1 =>
 .rq (one y1=true∧((0:Nat)+x0.n)*(8:Nat)≤(140737488355328:Nat)∧(0:Nat)+x0.n≤(9223372036854775807:Nat)) <|
 .fz ((0:Nat)+x0.n) ([]++y1) 3 fun b2 c2 =>
 .ret [.slice (some { block:=b2,off:=(0:Nat):Addr }) ((0:Nat)+x0.n) (c2)]
theorem fI_natCopy x0:qft qa0 82 [Sc.val .l x0] (tI_natCopy x0) :=fitK (by kernel_rfl)
def aI_natAdd:An:=⟨[(4,[.s 5,.s 6,.s 7],[.a 3,.o (.o (.i .i64)),.o (.o (.i .i64))])],[],[]⟩
def tI_natAdd (x0:SlV) (x1:SlV):T :=
 .rq ((0:Int)≤(0:Int)∧(0:Int)≤IntKind.i64.wrap ((if (↑x1.n:Int) > (↑x0.n:Int) then (↑x1.n:Int) else (↑x0.n:Int))+(1:Int))∧(↑(8:Nat):Int)*IntKind.i64.wrap ((if (↑x1.n:Int) > (↑x0.n:Int) then (↑x1.n:Int) else (↑x0.n:Int))+(1:Int))≤(281474976710656:Int)∧IntKind.i64.wrap ((if (↑x1.n:Int) > (↑x0.n:Int) then (↑x1.n:Int) else (↑x0.n:Int))+(1:Int))≤(9223372036854775807:Int)) <|
 .lp [.a 3,.o (.o (.i .i64)),.o (.o (.i .i64))] [.a 3 (Int.toNat (0:Int)) [],.v (.int .i64 0),.v (.int .i64 0)] fun y1 =>
 .br (decide (y1.2.2.1<if (↑x1.n:Int) > (↑x0.n:Int) then (↑x1.n:Int) else (↑x0.n:Int))) (
  .br (decide (y1.2.2.1<(↑x0.n:Int))) (
   .el x0.1 (x0.n) y1.2.2.1 fun y2 =>
   .ql25 (y2.add (Int.toNat y1.2.2.1*(1:Nat))) fun y3 =>
   .br (decide (y1.2.2.1<(↑x1.n:Int))) (
    .el x1.1 (x1.n) y1.2.2.1 fun y4 =>
    .ql25 (y4.add (Int.toNat y1.2.2.1*(1:Nat))) fun y5 =>
    .rq ((1000000000:Int)≠(0:Int)) <|
 .rq ([Value.int IntKind.i64 ((IntKind.i64.wrap (IntKind.i64.wrap (y1.2.1+y3)+y5)).tmod (1000000000:Int))].length=(1:Nat)*(1:Nat)) <|
 .rq (one [Value.int IntKind.i64 ((IntKind.i64.wrap (IntKind.i64.wrap (y1.2.1+y3)+y5)).tmod (1000000000:Int))]=true∧(y1.1.1+(1:Nat))*(8:Nat)≤(140737488355328:Nat)∧y1.1.1+(1:Nat)≤(9223372036854775807:Nat)) <|
 .rq ((1000000000:Int)≠(0:Int)) <|
 .nx 0 [.a 3 (y1.1.1+(1:Nat)) (y1.1.2++[Value.int IntKind.i64 ((IntKind.i64.wrap (IntKind.i64.wrap (y1.2.1+y3)+y5)).tmod (1000000000:Int))]),.v (.int .i64 (IntKind.i64.wrap ((IntKind.i64.wrap (IntKind.i64.wrap (y1.2.1+y3)+y5)).tdiv (1000000000:Int)))),.v (.int .i64 (IntKind.i64.wrap (y1.2.2.1+(1:Int))))]) <|
 .rq ((1000000000:Int)≠(0:Int)) <|
 .rq ([Value.int IntKind.i64 ((IntKind.i64.wrap (y1.2.1+y3)).tmod (1000000000:Int))].length=(1:Nat)*(1:Nat)) <|
 .rq (one [Value.int IntKind.i64 ((IntKind.i64.wrap (y1.2.1+y3)).tmod (1000000000:Int))]=true∧(y1.1.1+(1:Nat))*(8:Nat)≤(140737488355328:Nat)∧y1.1.1+(1:Nat)≤(9223372036854775807:Nat)) <|
 .rq ((1000000000:Int)≠(0:Int)) <|
 .nx 0 [.a 3 (y1.1.1+(1:Nat)) (y1.1.2++[Value.int IntKind.i64 ((IntKind.i64.wrap (y1.2.1+y3)).tmod (1000000000:Int))]),.v (.int .i64 (IntKind.i64.wrap ((IntKind.i64.wrap (y1.2.1+y3)).tdiv (1000000000:Int)))),.v (.int .i64 (IntKind.i64.wrap (y1.2.2.1+(1:Int))))]) <|
 .br (decide (y1.2.2.1<(↑x1.n:Int))) (
   .el x1.1 (x1.n) y1.2.2.1 fun y2 =>
   .ql25 (y2.add (Int.toNat y1.2.2.1*(1:Nat))) fun y3 =>
   .rq ((1000000000:Int)≠(0:Int)) <|
 .rq ([Value.int IntKind.i64 ((IntKind.i64.wrap (y1.2.1+y3)).tmod (1000000000:Int))].length=(1:Nat)*(1:Nat)) <|
 .rq (one [Value.int IntKind.i64 ((IntKind.i64.wrap (y1.2.1+y3)).tmod (1000000000:Int))]=true∧(y1.1.1+(1:Nat))*(8:Nat)≤(140737488355328:Nat)∧y1.1.1+(1:Nat)≤(9223372036854775807:Nat)) <|
 .rq ((1000000000:Int)≠(0:Int)) <|
 .nx 0 [.a 3 (y1.1.1+(1:Nat)) (y1.1.2++[Value.int IntKind.i64 ((IntKind.i64.wrap (y1.2.1+y3)).tmod (1000000000:Int))]),.v (.int .i64 (IntKind.i64.wrap ((IntKind.i64.wrap (y1.2.1+y3)).tdiv (1000000000:Int)))),.v (.int .i64 (IntKind.i64.wrap (y1.2.2.1+(1:Int))))]) <|
 .rq ((1000000000:Int)≠(0:Int)) <|
 .rq ([Value.int IntKind.i64 (Int.tmod y1.2.1 (1000000000:Int))].length=(1:Nat)*(1:Nat)) <|
 .rq (one [Value.int IntKind.i64 (Int.tmod y1.2.1 (1000000000:Int))]=true∧(y1.1.1+(1:Nat))*(8:Nat)≤(140737488355328:Nat)∧y1.1.1+(1:Nat)≤(9223372036854775807:Nat)) <|
 .rq ((1000000000:Int)≠(0:Int)) <|
 .nx 0 [.a 3 (y1.1.1+(1:Nat)) (y1.1.2++[Value.int IntKind.i64 (Int.tmod y1.2.1 (1000000000:Int))]),.v (.int .i64 (IntKind.i64.wrap (Int.tdiv y1.2.1 (1000000000:Int)))),.v (.int .i64 (IntKind.i64.wrap (y1.2.2.1+(1:Int))))]) <|
 .rq ([Value.int IntKind.i64 y1.2.1].length=(1:Nat)*(1:Nat)) <|
 .rq (one [Value.int IntKind.i64 y1.2.1]=true∧(y1.1.1+(1:Nat))*(8:Nat)≤(140737488355328:Nat)∧y1.1.1+(1:Nat)≤(9223372036854775807:Nat)) <|
 .fz (y1.1.1+(1:Nat)) (y1.1.2++[Value.int IntKind.i64 y1.2.1]) 3 fun b2 c2 =>
 .qc13 78 [.slice (some { block:=b2,off:=(0:Nat):Addr }) (y1.1.1+(1:Nat)) (c2)] fun y3 =>
 .ret [Sc.val .l y3]
theorem fI_natAdd x0 x1:qft aI_natAdd 83 [Sc.val .l x0,Sc.val .l x1] (tI_natAdd x0 x1) :=fitK (by kernel_rfl)
def aI_natCmp:An:=⟨[(6,[.s 5],[.o (.o (.i .i64))])],[],[]⟩
def tI_natCmp (x0:SlV) (x1:SlV):T :=
 .br ((↑x0.n:Int) != (↑x1.n:Int)) (
  .br (decide ((↑x0.n:Int)<(↑x1.n:Int))) (
   .rM) <|
 .ret [.int .i64 1]) <|
 .lp [.o (.o (.i .i64))] [.v (.int .i64 (IntKind.i64.wrap ((↑x0.n:Int)-(1:Int))))] fun y1 =>
 .br (decide (y1.1≥(0:Int))) (
  .rg <|
 .el x0.1 (x0.n) y1.1 fun y2 =>
  .ql35 (y2.add (Int.toNat y1.1*(1:Nat))) fun y3 =>
  .el x1.1 (x1.n) y1.1 fun y4 =>
  .ql35 (y4.add (Int.toNat y1.1*(1:Nat))) fun y5 =>
  .br (y3 != y5) (
   .rg <|
 .el x0.1 (x0.n) y1.1 fun y6 =>
   .ql35 (y6.add (Int.toNat y1.1*(1:Nat))) fun y7 =>
   .el x1.1 (x1.n) y1.1 fun y8 =>
   .ql35 (y8.add (Int.toNat y1.1*(1:Nat))) fun y9 =>
   .br (decide (y7<y9)) (
    .rM) <|
 .ret [.int .i64 1]) <|
 .nx 0 [.v (.int .i64 (IntKind.i64.wrap (y1.1-(1:Int))))]) <|
 .ret [.int .i64 0]
theorem fI_natCmp x0 x1:qft aI_natCmp 84 [Sc.val .l x0,Sc.val .l x1] (tI_natCmp x0 x1) :=fitK (by kernel_rfl)
def aI_natSub:An:=⟨[(4,[.s 5,.s 6,.s 14],[.a 3,.o (.o (.i .i64)),.o (.o (.i .i64))])],[],[]⟩
def tI_natSub (x0:SlV) (x1:SlV):T :=
 .rq ((0:Int)≤(↑x0.n:Int)∧(↑x0.n:Int)≤(↑x0.n:Int)∧(↑(8:Nat):Int)*(↑x0.n:Int)≤(281474976710656:Int)∧(↑x0.n:Int)≤(9223372036854775807:Int)) <|
 .lp [.a 3,.o (.o (.i .i64)),.o (.o (.i .i64))] [.a 3 ((↑x0.n:Int).toNat) ((madeCells { toList:=[Value.int IntKind.i64 (0:Int)]:Array Value } ((↑x0.n:Int).toNat*(1:Nat))).toList),.v (.int .i64 0),.v (.int .i64 0)] fun y1 =>
 .br (decide (y1.2.2.1<(↑x0.n:Int))) (
  .el x0.1 (x0.n) y1.2.2.1 fun y2 =>
  .ql25 (y2.add (Int.toNat y1.2.2.1*(1:Nat))) fun y3 =>
  .br (decide (y1.2.2.1<(↑x1.n:Int))) (
   .el x1.1 (x1.n) y1.2.2.1 fun y4 =>
   .ql25 (y4.add (Int.toNat y1.2.2.1*(1:Nat))) fun y5 =>
   .br (decide (IntKind.i64.wrap (IntKind.i64.wrap (y3-y1.2.1)-y5)<(0:Int))) (
    .rq ((0:Int)≤y1.2.2.1∧y1.2.2.1<(↑y1.1.1:Int)) <|
 .rq (Int.toNat y1.2.2.1*(1:Nat)+[Value.int IntKind.i64 (IntKind.i64.wrap (IntKind.i64.wrap (IntKind.i64.wrap (y3-y1.2.1)-y5)+(1000000000:Int)))].length≤y1.1.2.length) <|
 .nx 0 [.a 3 y1.1.1 (setl y1.1.2 (Int.toNat y1.2.2.1*(1:Nat)) [Value.int IntKind.i64 (IntKind.i64.wrap (IntKind.i64.wrap (IntKind.i64.wrap (y3-y1.2.1)-y5)+(1000000000:Int)))]),.v (.int .i64 1),.v (.int .i64 (IntKind.i64.wrap (y1.2.2.1+(1:Int))))]) <|
 .rq ((0:Int)≤y1.2.2.1∧y1.2.2.1<(↑y1.1.1:Int)) <|
 .rq (Int.toNat y1.2.2.1*(1:Nat)+[Value.int IntKind.i64 (IntKind.i64.wrap (IntKind.i64.wrap (y3-y1.2.1)-y5))].length≤y1.1.2.length) <|
 .nx 0 [.a 3 y1.1.1 (setl y1.1.2 (Int.toNat y1.2.2.1*(1:Nat)) [Value.int IntKind.i64 (IntKind.i64.wrap (IntKind.i64.wrap (y3-y1.2.1)-y5))]),.v (.int .i64 0),.v (.int .i64 (IntKind.i64.wrap (y1.2.2.1+(1:Int))))]) <|
 .br (decide (IntKind.i64.wrap (y3-y1.2.1)<(0:Int))) (
   .rq ((0:Int)≤y1.2.2.1∧y1.2.2.1<(↑y1.1.1:Int)) <|
 .rq (Int.toNat y1.2.2.1*(1:Nat)+[Value.int IntKind.i64 (IntKind.i64.wrap (IntKind.i64.wrap (y3-y1.2.1)+(1000000000:Int)))].length≤y1.1.2.length) <|
 .nx 0 [.a 3 y1.1.1 (setl y1.1.2 (Int.toNat y1.2.2.1*(1:Nat)) [Value.int IntKind.i64 (IntKind.i64.wrap (IntKind.i64.wrap (y3-y1.2.1)+(1000000000:Int)))]),.v (.int .i64 1),.v (.int .i64 (IntKind.i64.wrap (y1.2.2.1+(1:Int))))]) <|
 .rq ((0:Int)≤y1.2.2.1∧y1.2.2.1<(↑y1.1.1:Int)) <|
 .rq (Int.toNat y1.2.2.1*(1:Nat)+[Value.int IntKind.i64 (IntKind.i64.wrap (y3-y1.2.1))].length≤y1.1.2.length) <|
 .nx 0 [.a 3 y1.1.1 (setl y1.1.2 (Int.toNat y1.2.2.1*(1:Nat)) [Value.int IntKind.i64 (IntKind.i64.wrap (y3-y1.2.1))]),.v (.int .i64 0),.v (.int .i64 (IntKind.i64.wrap (y1.2.2.1+(1:Int))))]) <|
 .fz y1.1.1 y1.1.2 3 fun b2 c2 =>
 .qc13 78 [.slice (some { block:=b2,off:=(0:Nat):Addr }) y1.1.1 (c2)] fun y3 =>
 .ret [Sc.val .l y3]
theorem fI_natSub x0 x1:qft aI_natSub 85 [Sc.val .l x0,Sc.val .l x1] (tI_natSub x0 x1) :=fitK (by kernel_rfl)
def tI_intNeg (x0:qy1):T :=
 .rg <|
 .qc12 82 [Sc.val .l x0.2.1] fun y1 =>
 .qc15 42 [.bool (!x0.1),Sc.val .l y1] fun y2 =>
 .ret [qv1 y2]
theorem fI_intNeg x0:qft qa0 86 [qv1 x0] (tI_intNeg x0) :=fitK (by kernel_rfl)
def tS_IntOk (x0:qy1):T :=
 .qc9 88 [Sc.val .l x0.2.1] fun y1 =>
 .br y1 (
  .br (!x0.1) (
   .rT) <|
 .ret [.bool (decide ((↑x0.2.1.n:Int) > (0:Int)))]) <|
 .rF
theorem fS_IntOk x0:qft qa0 87 [qv1 x0] (tS_IntOk x0) :=fitK (by kernel_rfl)
def aS_NatOk:An:=⟨[(2,[.s 7],[.o (.o (.i .i64))])],[],[]⟩
def tS_NatOk (x0:SlV):T :=
 .lp [.o (.o (.i .i64))] [.v (.int .i64 0)] fun y1 =>
 .br (decide (y1.1<(↑x0.n:Int))) (
  .el x0.1 (x0.n) y1.1 fun y2 =>
  .ql25 (y2.add (Int.toNat y1.1*(1:Nat))) fun y3 =>
  .qc9 116 [.int .i64 y3,.int .i64 0,.int .i64 999999999] fun y4 =>
  .bF y4 <|
 .nx 0 [.v (.int .i64 (IntKind.i64.wrap (y1.1+(1:Int))))]) <|
 .br (decide ((↑x0.n:Int)≤(50:Int))) (
  .br ((↑x0.n:Int) == (0:Int)) (
   .rT) <|
 .el x0.1 (x0.n) (IntKind.i64.wrap ((↑x0.n:Int)-(1:Int))) fun y2 =>
  .ql25 (y2.add ((IntKind.i64.wrap ((↑x0.n:Int)-(1:Int))).toNat*(1:Nat))) fun y3 =>
  .ret [.bool (y3 != (0:Int))]) <|
 .rF
theorem fS_NatOk x0:qft aS_NatOk 88 [Sc.val .l x0] (tS_NatOk x0) :=fitK (by kernel_rfl)
def aS_l02Cmp:An:=⟨[(6,[.s 5],[.o (.o (.i .i64))])],[],[]⟩
def tS_l02Cmp (x0:SlV) (x1:SlV):T :=
 .br ((↑x0.n:Int) != (↑x1.n:Int)) (
  .br (decide ((↑x0.n:Int)<(↑x1.n:Int))) (
   .rM) <|
 .ret [.int .i64 1]) <|
 .lp [.o (.o (.i .i64))] [.v (.int .i64 (IntKind.i64.wrap ((↑x0.n:Int)-(1:Int))))] fun y1 =>
 .br (decide (y1.1≥(0:Int))) (
  .rg <|
 .el x0.1 (x0.n) y1.1 fun y2 =>
  .ql35 (y2.add (Int.toNat y1.1*(1:Nat))) fun y3 =>
  .el x1.1 (x1.n) y1.1 fun y4 =>
  .ql35 (y4.add (Int.toNat y1.1*(1:Nat))) fun y5 =>
  .br (decide (y3<y5)) (
   .rM) <|
 .rg <|
 .el x0.1 (x0.n) y1.1 fun y6 =>
  .ql35 (y6.add (Int.toNat y1.1*(1:Nat))) fun y7 =>
  .el x1.1 (x1.n) y1.1 fun y8 =>
  .ql35 (y8.add (Int.toNat y1.1*(1:Nat))) fun y9 =>
  .br (decide (y7 > y9)) (
   .ret [.int .i64 1]) <|
 .nx 0 [.v (.int .i64 (IntKind.i64.wrap (y1.1-(1:Int))))]) <|
 .ret [.int .i64 0]
theorem fS_l02Cmp x0 x1:qft aS_l02Cmp 89 [Sc.val .l x0,Sc.val .l x1] (tS_l02Cmp x0 x1) :=fitK (by kernel_rfl)
def aS_NatGcd:An:=⟨[(5,[.s 5,.s 6],[.o (.o (.l)),.o (.o (.l))])],[],[]⟩
def tS_NatGcd (x0:SlV) (x1:SlV):T :=
 .qc9 88 [Sc.val .l x0] fun y1 =>
 .bn y1 (.ret [.slice none 0 0]) <|
 .qc9 88 [Sc.val .l x1] fun y2 =>
 .bn y2 (.ret [.slice none 0 0]) <|
 .rd ({ a:=x0.1,n:=x0.n,c:=x0.c:SlV }) ((1:Nat)) fun y3 =>
 .rq (one y3=true∧((0:Nat)+x0.n)*(8:Nat)≤(140737488355328:Nat)∧(0:Nat)+x0.n≤(9223372036854775807:Nat)) <|
 .rd ({ a:=x1.1,n:=x1.n,c:=x1.c:SlV }) ((1:Nat)) fun y4 =>
 .rq (one y4=true∧((0:Nat)+x1.n)*(8:Nat)≤(140737488355328:Nat)∧(0:Nat)+x1.n≤(9223372036854775807:Nat)) <|
 .fz ((0:Nat)+x0.n) ([]++y3) 3 fun b5 c5 =>
 .fz ((0:Nat)+x1.n) ([]++y4) 3 fun b6 c6 =>
 .lp [.o (.o (.l)),.o (.o (.l))] [.v (.slice (some { block:=b5,off:=(0:Nat):Addr }) ((0:Nat)+x0.n) (c5)),.v (.slice (some { block:=b6,off:=(0:Nat):Addr }) ((0:Nat)+x1.n) (c6))] fun y7 =>
 .br (decide ((↑y7.2.1.n:Int) > (0:Int))) (
  .qc26 117 [Sc.val .l y7.1,Sc.val .l y7.2.1] fun y8 =>
  .nx 0 [.v (Sc.val .l y7.2.1),.v (Sc.val .l y8.2.1)]) <|
 .ret [Sc.val .l y7.1]
theorem fS_NatGcd x0 x1:qft aS_NatGcd 90 [Sc.val .l x0,Sc.val .l x1] (tS_NatGcd x0 x1) :=fitK (by kernel_rfl)
def tI_RatNeg (x0:qy0):T :=
 .qc9 61 [qv0 x0] fun y1 =>
 .bn y1 (.ret [qv0 ((false),nilS,nilS,()),.bool (false)]) <|
 .qc3 118 [qv0 x0] fun y2 =>
 .ret [qv0 y2,.bool (true)]
theorem fI_RatNeg x0:qft qa0 91 [qv0 x0] (tI_RatNeg x0) :=fitK (by kernel_rfl)
def tI_RatMake (x0:qy1) (x1:qy1):T :=
 .qc9 119 [qv1 x0,qv1 x1] fun y1 =>
 .bn y1 (.ret [qv0 ((false),nilS,nilS,()),.bool (false)]) <|
 .br ((↑x1.2.1.n:Int) == (0:Int)) (
  .ret [qv0 ((false),nilS,nilS,()),.bool (false)]) <|
 .rg <|
 .qc14 42 [.bool (!x0.1 == x1.1),Sc.val .l x0.2.1] fun y2 =>
 .qc5 41 [qv1 y2,Sc.val .l x1.2.1] fun y3 =>
 .ret [qv0 y3.1,.bool y3.2.1]
theorem fI_RatMake x0 x1:qft qa0 92 [qv1 x0,qv1 x1] (tI_RatMake x0 x1) :=fitK (by kernel_rfl)
def aI_natOf:An:=⟨[(2,[.s 0,.s 3],[.o (.o (.i .u64)),.a 3])],[],[]⟩
def tI_natOf (x0:Int):T :=
 .lp [.o (.o (.i .u64)),.a 3] [.v (.int .u64 x0),.a 3 ((0:Nat)) []] fun y1 =>
 .br (decide (y1.1 > (0:Int))) (
  .rq ((1000000000:Int)≠(0:Int)) <|
 .rq ([Value.int IntKind.i64 (IntKind.i64.wrap (Int.tmod y1.1 (1000000000:Int)))].length=(1:Nat)*(1:Nat)) <|
 .rq (one [Value.int IntKind.i64 (IntKind.i64.wrap (Int.tmod y1.1 (1000000000:Int)))]=true∧(y1.2.1.1+(1:Nat))*(8:Nat)≤(140737488355328:Nat)∧y1.2.1.1+(1:Nat)≤(9223372036854775807:Nat)) <|
 .rq ((1000000000:Int)≠(0:Int)) <|
 .nx 0 [.v (.int .u64 (IntKind.u64.wrap (Int.tdiv y1.1 (1000000000:Int)))),.a 3 (y1.2.1.1+(1:Nat)) (y1.2.1.2++[Value.int IntKind.i64 (IntKind.i64.wrap (Int.tmod y1.1 (1000000000:Int)))])]) <|
 .fz y1.2.1.1 y1.2.1.2 3 fun b2 c2 =>
 .ret [.slice (some { block:=b2,off:=(0:Nat):Addr }) y1.2.1.1 (c2)]
theorem fI_natOf x0:qft aI_natOf 93 [.int .u64 x0] (tI_natOf x0) :=fitK (by kernel_rfl)
def aI_checkConversion:An:=⟨[(3,[.s 9,.s 26],[.o (.o (.b)),.o (.o (.i .i64))]),(10,[.s 42],[.o (.o (.i .i64))])],[(2,[.s 9],[.o (.o (.b))])],[]⟩
def tI_checkConversion (x0:qy2) (x1:SlV) (x2:ByteArray) (x3:Int):T :=
 .jn [.o (.o (.b))] (fun y1 =>
  .lp [.o (.o (.b)),.o (.o (.i .i64))] [.v (.bool y1.1),.v (.int .i64 0)] fun y2 =>
  .br (decide (y2.2.1<(↑x1.n:Int))) (
   .el x1.1 (x1.n) y2.2.1 fun y3 =>
   .ql28 (y3.add (Int.toNat y2.2.1*(3:Nat))) fun y4 =>
   .br y2.1 (
    .qc9 45 [qv2 y4] fun y5 =>
    .nx 1 [.v (.bool y5),.v (.int .i64 (IntKind.i64.wrap (y2.2.1+(1:Int))))]) <|
 .nx 1 [.v (.bool (false)),.v (.int .i64 (IntKind.i64.wrap (y2.2.1+(1:Int))))]) <|
 .bn y2.1 (.ret [.iface 143 (qv8 ((((1:Int)):Int),()))]) <|
 .lp [.o (.o (.i .i64))] [.v (.int .i64 0)] fun y3 =>
  .br (decide (y3.1<(↑x1.n:Int))) (
   .el x1.1 (x1.n) y3.1 fun y4 =>
   .ql28 (y4.add (Int.toNat y3.1*(3:Nat))) fun y5 =>
   .qc10 10 [qv3 x0,.string y5.1,.string x2] fun y6 =>
   .br (y6 == (0:Int)) (
    .ret [.iface 143 (qv8 ((((2:Int)):Int),()))]) <|
 .nx 2 [.v (.int .i64 (IntKind.i64.wrap (y3.1+(1:Int))))]) <|
 .ret [.nilIface]) <|
 .qc9 33 [qv3 x0] fun y1 =>
 .br y1 (
  .qc9 34 [.string x2] fun y2 =>
  .br y2 (
   .qc9 120 [.int .i64 x3] fun y3 =>
   .nx 0 [.v (.bool y3)]) <|
 .nx 0 [.v (.bool (false))]) <|
 .nx 0 [.v (.bool (false))]
theorem fI_checkConversion x0 x1 x2 x3:qft aI_checkConversion 94 [qv3 x0,Sc.val .l x1,.string x2,.int .i64 x3] (tI_checkConversion x0 x1 x2 x3) :=fitK (by kernel_rfl)
def tI_RatMoney (x0:ByteArray) (x1:qy0) (x2:Int):T :=
 .qc40 121 [qv0 x1,.int .i64 x2] fun y1 =>
 .bn y1.2.2.1 (.ret [qv2 (({ data:={ toList:=[]:Array UInt8 }:ByteArray }),(false),nilS,()),qv0 ((false),nilS,nilS,()),.bool (false)]) <|
 .qc41 56 [.string x0,qv1 y1.1] fun y2 =>
 .bn y2.2.1 (.ret [qv2 (({ data:={ toList:=[]:Array UInt8 }:ByteArray }),(false),nilS,()),qv0 ((false),nilS,nilS,()),.bool (false)]) <|
 .rg <|
 .ret [qv2 y2.1,qv0 y1.2.1,.bool (true)]
theorem fI_RatMoney x0 x1 x2:qft qa0 95 [.string x0,qv0 x1,.int .i64 x2] (tI_RatMoney x0 x1 x2) :=fitK (by kernel_rfl)
def aS_l17Draw:An:=⟨[(3,[.s 12,.c 3 0],[.o (.o (.i .i64)),.o (.o (.l))])],[],[]⟩
def tS_l17Draw (x0:Addr):T :=
 .lp [.o (.o (.i .i64)),.o (.o (.l))] [.v (.int .i64 0),.v (.slice none 0 0)] fun y1 =>
 .br (decide (y1.1<(↑(5:Nat):Int))) (
  .rq ((0:Int)≤y1.1∧y1.1<(↑(5:Nat):Int)) <|
 .xs [.string ({ data:={ toList:=[(98:UInt8),(97:UInt8),(110:UInt8),(107:UInt8)]:Array UInt8 }:ByteArray }),.string ({ data:={ toList:=[(98:UInt8),(111:UInt8),(120:UInt8)]:Array UInt8 }:ByteArray }),.string ({ data:={ toList:=[(99:UInt8),(97:UInt8),(115:UInt8),(104:UInt8)]:Array UInt8 }:ByteArray }),.string ({ data:={ toList:=[(102:UInt8),(101:UInt8),(101:UInt8),(115:UInt8)]:Array UInt8 }:ByteArray }),.string ({ data:={ toList:=[(116:UInt8),(97:UInt8),(120:UInt8)]:Array UInt8 }:ByteArray })] (Int.toNat y1.1*(1:Nat)) (.o (.s)) fun y2 =>
  .qc9 65 [.pointer (some x0),.int .i64 4] fun y3 =>
  .bn y3 (.fz ((4:Nat)) [.string ({ data:={ toList:=[(67:UInt8),(72:UInt8),(70:UInt8)]:Array UInt8 }:ByteArray }),.string ({ data:={ toList:=[(69:UInt8),(85:UInt8),(82:UInt8)]:Array UInt8 }:ByteArray }),.string ({ data:={ toList:=[(85:UInt8),(83:UInt8),(68:UInt8)]:Array UInt8 }:ByteArray }),.string ({ data:={ toList:=[(74:UInt8),(80:UInt8),(89:UInt8)]:Array UInt8 }:ByteArray })] 9 fun b4 c4 =>
   .qc2 63 [.pointer (some x0),.slice (some { block:=b4,off:=(0:Nat):Addr }) ((4:Nat)) (c4)] fun y5 =>
   .qc42 126 [qv4 y1.2,.string y2,.string y5] fun y6 =>
   .br y6.2.1 (
    .rf <|
 .cf 32 [.pointer (some x0),.int .i64 9000] (.v (.o (.i .i64))) fun y7 =>
    .qc14 31 [.int .i64 (IntKind.i64.wrap (y7-(2000:Int)))] fun y8 =>
    .qc42 127 [qv4 y6.1,.string y2,qv2 (y5,y8.1,y8.2.1,())] fun y9 =>
    .nx 0 [.v (.int .i64 (IntKind.i64.wrap (y1.1+(1:Int)))),.v (Sc.val .l y9.1.1)]) <|
 .nx 0 [.v (.int .i64 (IntKind.i64.wrap (y1.1+(1:Int)))),.v (Sc.val .l y1.2.1)]) <|
 .nx 0 [.v (.int .i64 (IntKind.i64.wrap (y1.1+(1:Int)))),.v (Sc.val .l y1.2.1)]) <|
 .ret [qv4 y1.2]
theorem fS_l17Draw x0:qft aS_l17Draw 98 [.pointer (some x0)] (tS_l17Draw x0) :=fitK (by kernel_rfl)
def aS_RestAdd:An:=⟨[(7,[.s 10,.s 11,.s 38],[.o (.o (.l)),.o (.o (.b)),.o (.o (.i .i64))])],[(13,[.s 10,.s 11],[.o (.o (.l)),.o (.o (.b))]),(17,[.s 10],[.o (.o (.l))])],[]⟩
def tS_RestAdd (x0:SlV) (x1:ByteArray) (x2:qy0):T :=
 .rg <|
 .qc6 129 [Sc.val .l x0,.string x1] fun y1 =>
 .qc5 128 [qv0 y1,qv0 x2] fun y2 =>
 .qc9 130 [Sc.val .l x0] fun y3 =>
 .bn y3 (.ret [.slice none 0 0,.bool (false)]) <|
 .qc9 11 [.string x1] fun y4 =>
 .bn y4 (.ret [.slice none 0 0,.bool (false)]) <|
 .bn y2.2.1 (.ret [.slice none 0 0,.bool (false)]) <|
 .qc13 131 [Sc.val .l x0] fun y5 =>
 .fz ((0:Nat)) [] 188 fun b6 c6 =>
 .lp [.o (.o (.l)),.o (.o (.b)),.o (.o (.i .i64))] [.v (.slice (some { block:=b6,off:=(0:Nat):Addr }) ((0:Nat)) (c6)),.v (.bool (false)),.v (.int .i64 0)] fun y7 =>
 .br (decide (y7.2.2.1<(↑y5.n:Int))) (
  .el y5.1 (y5.n) y7.2.2.1 fun y8 =>
  .ql43 (y8.add (Int.toNat y7.2.2.1*(4:Nat))) fun y9 =>
  .br (ByteArray.toList y9.1 == x1.toList) (
   .nx 0 [.v (Sc.val .l y7.1),.v (.bool y7.2.1),.v (.int .i64 (IntKind.i64.wrap (y7.2.2.1+(1:Int))))]) <|
 .jn [.o (.o (.l)),.o (.o (.b))] (fun y10 =>
   .rq ([Value.string y9.1,Value.bool y9.2.1,Value.slice y9.2.2.1.1 y9.2.2.1.n y9.2.2.1.c,Value.slice y9.2.2.2.1.1 y9.2.2.2.1.n y9.2.2.2.1.c].length=(1:Nat)*(4:Nat)) <|
 .rq (one [Value.string y9.1,Value.bool y9.2.1,Value.slice y9.2.2.1.1 y9.2.2.1.n y9.2.2.1.c,Value.slice y9.2.2.2.1.1 y9.2.2.2.1.n y9.2.2.2.1.c]=true) <|
 .ap ({ a:=y10.1.1,n:=y10.1.n,c:=y10.1.c:SlV }) 4 72 [.string y9.1,.bool y9.2.1,Sc.val .l y9.2.2.1,Sc.val .l y9.2.2.2.1] ((1:Nat)) 188 fun y11 =>
   .nx 0 [.v (Sc.val .l y11),.v (.bool y10.2.1),.v (.int .i64 (IntKind.i64.wrap (y7.2.2.1+(1:Int))))]) <|
 .bn y7.2.1 (.br (!(Op.bytesLess (ByteArray.toList y9.1) x1.toList || ByteArray.toList y9.1 == x1.toList)) (
    .qc10 132 [qv0 y2.1] fun y10 =>
    .br (y10 != (0:Int)) (
     .rq ([Value.string x1,Value.bool y2.1.1,Value.slice y2.1.2.1.1 y2.1.2.1.n y2.1.2.1.c,Value.slice y2.1.2.2.1.1 y2.1.2.2.1.n y2.1.2.2.1.c].length=(1:Nat)*(4:Nat)) <|
 .rq (one [Value.string x1,Value.bool y2.1.1,Value.slice y2.1.2.1.1 y2.1.2.1.n y2.1.2.1.c,Value.slice y2.1.2.2.1.1 y2.1.2.2.1.n y2.1.2.2.1.c]=true) <|
 .ap ({ a:=y7.1.1,n:=y7.1.n,c:=y7.1.c:SlV }) 4 72 [.string x1,.bool y2.1.1,Sc.val .l y2.1.2.1,Sc.val .l y2.1.2.2.1] ((1:Nat)) 188 fun y11 =>
     .nx 1 [.v (Sc.val .l y11),.v (.bool (true))]) <|
 .nx 1 [.v (Sc.val .l y7.1),.v (.bool y7.2.1)]) <|
 .nx 1 [.v (Sc.val .l y7.1),.v (.bool y7.2.1)]) <|
 .nx 1 [.v (Sc.val .l y7.1),.v (.bool y7.2.1)]) <|
 .jn [.o (.o (.l))] (fun y8 =>
  .ret [Sc.val .l y8.1,.bool (true)]) <|
 .bn y7.2.1 (.qc10 132 [qv0 y2.1] fun y8 =>
  .br (y8 != (0:Int)) (
   .rq ([Value.string x1,Value.bool y2.1.1,Value.slice y2.1.2.1.1 y2.1.2.1.n y2.1.2.1.c,Value.slice y2.1.2.2.1.1 y2.1.2.2.1.n y2.1.2.2.1.c].length=(1:Nat)*(4:Nat)) <|
 .rq (one [Value.string x1,Value.bool y2.1.1,Value.slice y2.1.2.1.1 y2.1.2.1.n y2.1.2.1.c,Value.slice y2.1.2.2.1.1 y2.1.2.2.1.n y2.1.2.2.1.c]=true) <|
 .ap ({ a:=y7.1.1,n:=y7.1.n,c:=y7.1.c:SlV }) 4 72 [.string x1,.bool y2.1.1,Sc.val .l y2.1.2.1,Sc.val .l y2.1.2.2.1] ((1:Nat)) 188 fun y9 =>
   .nx 1 [.v (Sc.val .l y9)]) <|
 .nx 1 [.v (Sc.val .l y7.1)]) <|
 .nx 1 [.v (Sc.val .l y7.1)]
theorem fS_RestAdd x0 x1 x2:qft aS_RestAdd 99 [Sc.val .l x0,.string x1,qv0 x2] (tS_RestAdd x0 x1 x2) :=fitK (by kernel_rfl)
def tS_l05Draw (x0:Addr) (x1:Int):T :=
 .qc15 133 [.pointer (some x0),.int .i64 x1] fun y1 =>
 .qc10 32 [.pointer (some x0),.int .i64 12] fun y2 =>
 .qc13 70 [.int .i64 (IntKind.i64.wrap ((1:Int)+y2))] fun y3 =>
 .qc9 65 [.pointer (some x0),.int .i64 3] fun y4 =>
 .br y4 (
  .qc13 134 [.pointer (some x0),.int .i64 (IntKind.i64.wrap (x1-(1:Int)))] fun y5 =>
  .qc10 32 [.pointer (some x0),.int .i64 999] fun y6 =>
  .rq ([Value.int IntKind.i64 (IntKind.i64.wrap ((1:Int)+y6))].length=(1:Nat)*(1:Nat)) <|
 .rq (one [Value.int IntKind.i64 (IntKind.i64.wrap ((1:Int)+y6))]=true) <|
 .ap ({ a:=y5.1,n:=y5.n,c:=y5.c:SlV }) 1 8 [.int .i64 (IntKind.i64.wrap ((1:Int)+y6))] ((1:Nat)) 3 fun y7 =>
  .qc5 135 [qv1 y1,qv1 ((false),y7,())] fun y8 =>
  .bn y8.2.1 (.qc3 136 [] fun y9 =>
   .ret [qv0 y9]) <|
 .ret [qv0 y8.1]) <|
 .qc5 135 [qv1 y1,qv1 ((false),y3,())] fun y5 =>
 .bn y5.2.1 (.qc3 136 [] fun y6 =>
  .ret [qv0 y6]) <|
 .ret [qv0 y5.1]
theorem fS_l05Draw x0 x1:qft qa0 100 [.pointer (some x0),.int .i64 x1] (tS_l05Draw x0 x1) :=fitK (by kernel_rfl)
def aI_BookOk:An:=⟨[(4,[.s 12],[.o (.o (.i .i64))])],[],[]⟩
def tI_BookOk (x0:qy4):T :=
 .br (decide ((↑x0.1.n:Int) > (12:Int))) (
  .rF) <|
 .lp [.o (.o (.i .i64))] [.v (.int .i64 0)] fun y1 =>
 .br (decide (y1.1<(↑x0.1.n:Int))) (
  .el x0.1.1 (x0.1.n) y1.1 fun y2 =>
  .ql4 (y2.add (Int.toNat y1.1*(4:Nat))) fun y3 =>
  .rg <|
 .qc44 137 [.string y3.1] fun y4 =>
  .bF y4 <|
 .qc44 45 [qv2 y3.2] fun y5 =>
  .bF y5 <|
 .br (decide (y1.1 > (0:Int))) (
   .el x0.1.1 (x0.1.n) (IntKind.i64.wrap (y1.1-(1:Int))) fun y6 =>
   .ql45 ((y6.add ((IntKind.i64.wrap (y1.1-(1:Int))).toNat*(4:Nat))).add (0:Nat)) fun y7 =>
   .br (!Op.bytesLess y7.toList (ByteArray.toList y3.1)) (
    .rF) <|
 .nx 0 [.v (.int .i64 (IntKind.i64.wrap (y1.1+(1:Int))))]) <|
 .nx 0 [.v (.int .i64 (IntKind.i64.wrap (y1.1+(1:Int))))]) <|
 .rT
theorem fI_BookOk x0:qft aI_BookOk 101 [qv4 x0] (tI_BookOk x0) :=fitK (by kernel_rfl)
def aI_RestsOk:An:=⟨[(2,[.s 7],[.o (.o (.i .i64))])],[],[]⟩
def tI_RestsOk (x0:SlV):T :=
 .lp [.o (.o (.i .i64))] [.v (.int .i64 0)] fun y1 =>
 .br (decide (y1.1<(↑x0.n:Int))) (
  .el x0.1 (x0.n) y1.1 fun y2 =>
  .ql43 (y2.add (Int.toNat y1.1*(4:Nat))) fun y3 =>
  .rg <|
 .qc44 34 [.string y3.1] fun y4 =>
  .bF y4 <|
 .qc44 61 [qv0 y3.2] fun y5 =>
  .bF y5 <|
 .qc8 27 [qv0 y3.2] fun y6 =>
  .br (y6 == (0:Int)) (
   .rF) <|
 .br (decide (y1.1 > (0:Int))) (
   .el x0.1 (x0.n) (IntKind.i64.wrap (y1.1-(1:Int))) fun y7 =>
   .ql45 ((y7.add ((IntKind.i64.wrap (y1.1-(1:Int))).toNat*(4:Nat))).add (0:Nat)) fun y8 =>
   .br (!Op.bytesLess y8.toList (ByteArray.toList y3.1)) (
    .rF) <|
 .nx 0 [.v (.int .i64 (IntKind.i64.wrap (y1.1+(1:Int))))]) <|
 .nx 0 [.v (.int .i64 (IntKind.i64.wrap (y1.1+(1:Int))))]) <|
 .rT
theorem fI_RestsOk x0:qft aI_RestsOk 102 [Sc.val .l x0] (tI_RestsOk x0) :=fitK (by kernel_rfl)
def aI_NatOk:An:=⟨[(4,[.s 24],[.o (.o (.i .i64))])],[],[]⟩
def tI_NatOk (x0:SlV):T :=
 .br (decide ((↑x0.n:Int) > (50:Int))) (
  .rF) <|
 .br (decide ((↑x0.n:Int) > (0:Int))) (
  .el x0.1 (x0.n) (IntKind.i64.wrap ((↑x0.n:Int)-(1:Int))) fun y1 =>
  .ql25 (y1.add ((IntKind.i64.wrap ((↑x0.n:Int)-(1:Int))).toNat*(1:Nat))) fun y2 =>
  .br (y2 == (0:Int)) (
   .rF) <|
 .lp [.o (.o (.i .i64))] [.v (.int .i64 0)] fun y3 =>
  .br (decide (y3.1<(↑x0.n:Int))) (
   .el x0.1 (x0.n) y3.1 fun y4 =>
   .ql25 (y4.add (Int.toNat y3.1*(1:Nat))) fun y5 =>
   .br (decide (y5<(0:Int))) (
    .rF) <|
 .br (decide (y5≥(1000000000:Int))) (
    .rF) <|
 .nx 0 [.v (.int .i64 (IntKind.i64.wrap (y3.1+(1:Int))))]) <|
 .rT) <|
 .lp [.o (.o (.i .i64))] [.v (.int .i64 0)] fun y1 =>
 .br (decide (y1.1<(↑x0.n:Int))) (
  .el x0.1 (x0.n) y1.1 fun y2 =>
  .ql25 (y2.add (Int.toNat y1.1*(1:Nat))) fun y3 =>
  .br (decide (y3<(0:Int))) (
   .rF) <|
 .br (decide (y3≥(1000000000:Int))) (
   .rF) <|
 .nx 0 [.v (.int .i64 (IntKind.i64.wrap (y1.1+(1:Int))))]) <|
 .rT
theorem fI_NatOk x0:qft aI_NatOk 103 [Sc.val .l x0] (tI_NatOk x0) :=fitK (by kernel_rfl)
def tS_l01Pick (x0:Addr) (x1:SlV):T :=
 .qc10 32 [.pointer (some x0),.int .i64 ((↑x1.n:Int))] fun y1 =>
 .el x1.1 (x1.n) y1 fun y2 =>
 .ql25 (y2.add (y1.toNat*(1:Nat))) fun y3 =>
 .ret [.int .i64 y3]
theorem fS_l01Pick x0 x1:qft qa0 104 [.pointer (some x0),Sc.val .l x1] (tS_l01Pick x0 x1) :=fitK (by kernel_rfl)
def aS_RatesOk:An:=⟨[(4,[.s 18],[.o (.o (.i .i64))])],[],[]⟩
def tS_RatesOk (x0:qy2):T :=
 .qc9 11 [.string x0.1] fun y1 =>
 .bF y1 <|
 .br (decide ((↑x0.2.1.n:Int) > (12:Int))) (
  .rF) <|
 .lp [.o (.o (.i .i64))] [.v (.int .i64 0)] fun y2 =>
 .br (decide (y2.1<(↑x0.2.1.n:Int))) (
  .el x0.2.1.1 (x0.2.1.n) y2.1 fun y3 =>
  .ql21 (y3.add (Int.toNat y2.1*(5:Nat))) fun y4 =>
  .qc9 106 [qv5 y4] fun y5 =>
  .bF y5 <|
 .qc10 108 [Sc.val .l x0.2.1,.string y4.1,.string y4.2.1] fun y6 =>
  .br (y6 != y2.1) (
   .rF) <|
 .nx 0 [.v (.int .i64 (IntKind.i64.wrap (y2.1+(1:Int))))]) <|
 .rT
theorem fS_RatesOk x0:qft aS_RatesOk 105 [qv3 x0] (tS_RatesOk x0) :=fitK (by kernel_rfl)
def tS_RateOk (x0:qy5):T :=
 .qc9 11 [.string x0.1] fun y1 =>
 .br y1 (
  .qc9 11 [.string x0.2.1] fun y2 =>
  .br y2 (
   .br (!ByteArray.toList x0.1 == ByteArray.toList x0.2.1) (
    .qc9 138 [qv6 x0.2.2] fun y3 =>
    .br y3 (
     .qc10 139 [qv1 (x0.2.2.1,x0.2.2.2.1,())] fun y4 =>
     .br (decide (y4 > (0:Int))) (
      .ret [.bool (decide ((↑x0.2.2.2.1.n:Int)≤(2:Int)))]) <|
 .rF) <|
 .rF) <|
 .rF) <|
 .rF) <|
 .rF
theorem fS_RateOk x0:qft qa0 106 [qv5 x0] (tS_RateOk x0) :=fitK (by kernel_rfl)
def aS_l10Copy:An:=⟨[(3,[.s 12,.c 3 0,.c 3 1],[.o (.o (.i .i64)),.o (.o (.s)),.o (.o (.l))])],[],[]⟩
def tS_l10Copy (x0:qy2):T :=
 .lp [.o (.o (.i .i64)),.o (.o (.s)),.o (.o (.l))] [.v (.int .i64 0),.v (.string x0.1),.v (.slice none 0 0)] fun y1 =>
 .br (decide (y1.1<(↑x0.2.1.n:Int))) (
  .el x0.2.1.1 (x0.2.1.n) y1.1 fun y2 =>
  .ql21 (y2.add (Int.toNat y1.1*(5:Nat))) fun y3 =>
  .rg <|
 .qc34 109 [qv5 y3] fun y4 =>
  .rq ([Value.string y4.1,Value.string y4.2.1,Value.bool y4.2.2.1,Value.slice y4.2.2.2.1.1 y4.2.2.2.1.n y4.2.2.2.1.c,Value.int IntKind.i64 y4.2.2.2.2.1].length=(1:Nat)*(5:Nat)) <|
 .rq (one [Value.string y4.1,Value.string y4.2.1,Value.bool y4.2.2.1,Value.slice y4.2.2.2.1.1 y4.2.2.2.1.n y4.2.2.2.1.c,Value.int IntKind.i64 y4.2.2.2.2.1]=true) <|
 .ap ({ a:=y1.2.2.1.1,n:=y1.2.2.1.n,c:=y1.2.2.1.c:SlV }) 5 72 [.string y4.1,.string y4.2.1,.bool y4.2.2.1,Sc.val .l y4.2.2.2.1,.int .i64 y4.2.2.2.2.1] ((1:Nat)) 111 fun y5 =>
  .nx 0 [.v (.int .i64 (IntKind.i64.wrap (y1.1+(1:Int)))),.v (.string y1.2.1),.v (Sc.val .l y5)]) <|
 .ret [qv3 y1.2]
theorem fS_l10Copy x0:qft aS_l10Copy 107 [qv3 x0] (tS_l10Copy x0) :=fitK (by kernel_rfl)
def aS_l10At:An:=⟨[(2,[.s 11],[.o (.o (.i .i64))])],[],[]⟩
def tS_l10At (x0:SlV) (x1:ByteArray) (x2:ByteArray):T :=
 .lp [.o (.o (.i .i64))] [.v (.int .i64 0)] fun y1 =>
 .br (decide (y1.1<(↑x0.n:Int))) (
  .el x0.1 (x0.n) y1.1 fun y2 =>
  .ql21 (y2.add (Int.toNat y1.1*(5:Nat))) fun y3 =>
  .br (ByteArray.toList y3.1 == x1.toList) (
   .br (ByteArray.toList y3.2.1 == x2.toList) (
    .ret [.int .i64 y1.1]) <|
 .nx 0 [.v (.int .i64 (IntKind.i64.wrap (y1.1+(1:Int))))]) <|
 .nx 0 [.v (.int .i64 (IntKind.i64.wrap (y1.1+(1:Int))))]) <|
 .rM
theorem fS_l10At x0 x1 x2:qft aS_l10At 108 [Sc.val .l x0,.string x1,.string x2] (tS_l10At x0 x1 x2) :=fitK (by kernel_rfl)
def tS_l10Rate (x0:qy5):T :=
 .rg <|
 .qc14 69 [.bool x0.2.2.1,Sc.val .l x0.2.2.2.1] fun y1 =>
 .ret [qv5 (x0.1,x0.2.1,y1.1,y1.2.1,((x0.2.2.2.2.1):Int),())]
theorem fS_l10Rate x0:qft qa0 109 [qv5 x0] (tS_l10Rate x0) :=fitK (by kernel_rfl)
def tS_l02Cap (x0:SlV):T :=
 .qc13 140 [Sc.val .l x0] fun y1 =>
 .br (decide ((↑y1.n:Int) > (50:Int))) (
  .ret [.slice none 0 0]) <|
 .ret [Sc.val .l y1]
theorem fS_l02Cap x0:qft qa0 111 [Sc.val .l x0] (tS_l02Cap x0) :=fitK (by kernel_rfl)
def tI_DecOk (x0:qy6):T :=
 .qc9 81 [qv1 (x0.1,x0.2.1,())] fun y1 =>
 .br y1 (
  .br (decide ((↑x0.2.1.n:Int)≤(6:Int))) (
   .qc9 141 [.int .i64 x0.2.2.1] fun y2 =>
   .ret [.bool y2]) <|
 .rF) <|
 .rF
theorem fI_DecOk x0:qft qa0 112 [qv6 x0] (tI_DecOk x0) :=fitK (by kernel_rfl)
def aI_natSmall:An:=⟨[(4,[.s 6,.s 7,.s 8],[.a 3,.o (.o (.i .i64)),.o (.o (.i .i64))])],[],[]⟩
def tI_natSmall (x0:SlV) (x1:Int):T :=
 .rq ((0:Int)≤(↑x0.n:Int)∧(↑x0.n:Int)≤(↑x0.n:Int)∧(↑(8:Nat):Int)*(↑x0.n:Int)≤(281474976710656:Int)∧(↑x0.n:Int)≤(9223372036854775807:Int)) <|
 .lp [.a 3,.o (.o (.i .i64)),.o (.o (.i .i64))] [.a 3 ((↑x0.n:Int).toNat) ((madeCells { toList:=[Value.int IntKind.i64 (0:Int)]:Array Value } ((↑x0.n:Int).toNat*(1:Nat))).toList),.v (.int .i64 0),.v (.int .i64 (IntKind.i64.wrap ((↑x0.n:Int)-(1:Int))))] fun y1 =>
 .br (decide (y1.2.2.1≥(0:Int))) (
  .el x0.1 (x0.n) y1.2.2.1 fun y2 =>
  .ql25 (y2.add (Int.toNat y1.2.2.1*(1:Nat))) fun y3 =>
  .rq (x1≠(0:Int)) <|
 .rq ((0:Int)≤y1.2.2.1∧y1.2.2.1<(↑y1.1.1:Int)) <|
 .rq (Int.toNat y1.2.2.1*(1:Nat)+[Value.int IntKind.i64 (IntKind.i64.wrap ((IntKind.i64.wrap (IntKind.i64.wrap (y1.2.1*(1000000000:Int))+y3)).tdiv x1))].length≤y1.1.2.length) <|
 .rq (x1≠(0:Int)) <|
 .nx 0 [.a 3 y1.1.1 (setl y1.1.2 (Int.toNat y1.2.2.1*(1:Nat)) [Value.int IntKind.i64 (IntKind.i64.wrap ((IntKind.i64.wrap (IntKind.i64.wrap (y1.2.1*(1000000000:Int))+y3)).tdiv x1))]),.v (.int .i64 ((IntKind.i64.wrap (IntKind.i64.wrap (y1.2.1*(1000000000:Int))+y3)).tmod x1)),.v (.int .i64 (IntKind.i64.wrap (y1.2.2.1-(1:Int))))]) <|
 .fz y1.1.1 y1.1.2 3 fun b2 c2 =>
 .qc13 78 [.slice (some { block:=b2,off:=(0:Nat):Addr }) y1.1.1 (c2)] fun y3 =>
 .ret [Sc.val .l y3,.int .i64 y1.2.1]
theorem fI_natSmall x0 x1:qft aI_natSmall 113 [Sc.val .l x0,.int .i64 x1] (tI_natSmall x0 x1) :=fitK (by kernel_rfl)
def tI_NatOf (x0:Int):T :=
 .br (decide (x0<(0:Int))) (
  .ret [.slice none 0 0]) <|
 .qc13 93 [.int .u64 (IntKind.u64.wrap x0)] fun y1 =>
 .ret [Sc.val .l y1]
theorem fI_NatOf x0:qft qa0 114 [.int .i64 x0] (tI_NatOf x0) :=fitK (by kernel_rfl)
def aI_divStep:An:=⟨[(4,[.s 7],[.o (.o (.i .i64))])],[],[]⟩
def tI_divStep (x0:SlV) (x1:SlV):T :=
 .rg <|
 .el x0.1 (x0.n) ((↑x1.n:Int)) fun y1 =>
 .ql35 (y1.add ((↑x1.n:Int).toNat*(1:Nat))) fun y2 =>
 .el x0.1 (x0.n) (IntKind.i64.wrap ((↑x1.n:Int)-(1:Int))) fun y3 =>
 .ql35 (y3.add ((IntKind.i64.wrap ((↑x1.n:Int)-(1:Int))).toNat*(1:Nat))) fun y4 =>
 .el x1.1 (x1.n) (IntKind.i64.wrap ((↑x1.n:Int)-(1:Int))) fun y5 =>
 .ql25 (y5.add ((IntKind.i64.wrap ((↑x1.n:Int)-(1:Int))).toNat*(1:Nat))) fun y6 =>
 .rq (y6≠(0:Int)) <|
 .lp [.o (.o (.i .i64))] [.v (.int .i64 (if (999999999:Int)<IntKind.i64.wrap ((IntKind.i64.wrap (IntKind.i64.wrap (y2*(1000000000:Int))+y4)).tdiv y6) then (999999999:Int) else IntKind.i64.wrap ((IntKind.i64.wrap (IntKind.i64.wrap (y2*(1000000000:Int))+y4)).tdiv y6)))] fun y7 =>
 .rg <|
 .br (decide (y7.1 > (0:Int))) (
  .el x1.1 (x1.n) (IntKind.i64.wrap ((↑x1.n:Int)-(1:Int))) fun y8 =>
  .ql35 (y8.add ((IntKind.i64.wrap ((↑x1.n:Int)-(1:Int))).toNat*(1:Nat))) fun y9 =>
  .br (decide (IntKind.i64.wrap (IntKind.i64.wrap (IntKind.i64.wrap (y2*(1000000000:Int))+y4)-IntKind.i64.wrap (y7.1*y9))<(1000000000:Int))) (
   .el x1.1 (x1.n) (IntKind.i64.wrap ((↑x1.n:Int)-(2:Int))) fun y10 =>
   .ql35 (y10.add ((IntKind.i64.wrap ((↑x1.n:Int)-(2:Int))).toNat*(1:Nat))) fun y11 =>
   .el x1.1 (x1.n) (IntKind.i64.wrap ((↑x1.n:Int)-(1:Int))) fun y12 =>
   .ql35 (y12.add ((IntKind.i64.wrap ((↑x1.n:Int)-(1:Int))).toNat*(1:Nat))) fun y13 =>
   .el x0.1 (x0.n) (IntKind.i64.wrap ((↑x1.n:Int)-(2:Int))) fun y14 =>
   .ql35 (y14.add ((IntKind.i64.wrap ((↑x1.n:Int)-(2:Int))).toNat*(1:Nat))) fun y15 =>
   .br (decide (IntKind.i64.wrap (y7.1*y11) > IntKind.i64.wrap (IntKind.i64.wrap (IntKind.i64.wrap (IntKind.i64.wrap (IntKind.i64.wrap (y2*(1000000000:Int))+y4)-IntKind.i64.wrap (y7.1*y13))*(1000000000:Int))+y15))) (
    .nx 0 [.v (.int .i64 (IntKind.i64.wrap (y7.1-(1:Int))))]) <|
 .qc9 142 [Sc.val .l x0,Sc.val .l x1,.int .i64 y7.1] fun y16 =>
   .br y16 (
    .qc46 143 [Sc.val .l x0,Sc.val .l x1] fun _ =>
    .ret [.int .i64 (IntKind.i64.wrap (y7.1-(1:Int)))]) <|
 .ret [.int .i64 y7.1]) <|
 .qc9 142 [Sc.val .l x0,Sc.val .l x1,.int .i64 y7.1] fun y10 =>
  .br y10 (
   .qc46 143 [Sc.val .l x0,Sc.val .l x1] fun _ =>
   .ret [.int .i64 (IntKind.i64.wrap (y7.1-(1:Int)))]) <|
 .ret [.int .i64 y7.1]) <|
 .qc9 142 [Sc.val .l x0,Sc.val .l x1,.int .i64 y7.1] fun y8 =>
 .br y8 (
  .qc46 143 [Sc.val .l x0,Sc.val .l x1] fun _ =>
  .ret [.int .i64 (IntKind.i64.wrap (y7.1-(1:Int)))]) <|
 .ret [.int .i64 y7.1]
theorem fI_divStep x0 x1:qft aI_divStep 115 [Sc.val .l x0,Sc.val .l x1] (tI_divStep x0 x1) :=fitK (by kernel_rfl)
def tS_l01In (x0:Int) (x1:Int) (x2:Int):T :=
 .br (decide (x0≥x1)) (
  .ret [.bool (decide (x0≤x2))]) <|
 .rF
theorem fS_l01In x0 x1 x2:qft qa0 116 [.int .i64 x0,.int .i64 x1,.int .i64 x2] (tS_l01In x0 x1 x2) :=fitK (by kernel_rfl)
def aS_l03Div:An:=⟨[(7,[.s 8,.s 9,.s 10],[.a 3,.o (.o (.l)),.o (.o (.i .i64))])],[],[]⟩
def tS_l03Div (x0:SlV) (x1:SlV):T :=
 .br ((↑x1.n:Int) == (1:Int)) (
  .el x1.1 (x1.n) ((0:Int)) fun y1 =>
  .ql25 (y1.add (Int.toNat (0:Int)*(1:Nat))) fun y2 =>
  .qc39 144 [Sc.val .l x0,.int .i64 y2] fun y3 =>
  .qc13 70 [.int .i64 y3.2.1] fun y4 =>
  .ret [Sc.val .l y3.1,Sc.val .l y4]) <|
 .rq ((0:Int)≤(↑x0.n:Int)∧(↑x0.n:Int)≤(↑x0.n:Int)∧(↑(8:Nat):Int)*(↑x0.n:Int)≤(281474976710656:Int)∧(↑x0.n:Int)≤(9223372036854775807:Int)) <|
 .fz ((0:Nat)) [] 3 fun b1 c1 =>
 .lp [.a 3,.o (.o (.l)),.o (.o (.i .i64))] [.a 3 ((↑x0.n:Int).toNat) ((madeCells { toList:=[Value.int IntKind.i64 (0:Int)]:Array Value } ((↑x0.n:Int).toNat*(1:Nat))).toList),.v (.slice (some { block:=b1,off:=(0:Nat):Addr }) ((0:Nat)) (c1)),.v (.int .i64 (IntKind.i64.wrap ((↑x0.n:Int)-(1:Int))))] fun y2 =>
 .br (decide (y2.2.2.1≥(0:Int))) (
  .el x0.1 (x0.n) y2.2.2.1 fun y3 =>
  .ql25 (y3.add (Int.toNat y2.2.2.1*(1:Nat))) fun y4 =>
  .rd ({ a:=y2.2.1.1,n:=y2.2.1.n,c:=y2.2.1.c:SlV }) ((1:Nat)) fun y5 =>
  .rq (one y5=true∧((1:Nat)+y2.2.1.n)*(8:Nat)≤(140737488355328:Nat)∧(1:Nat)+y2.2.1.n≤(9223372036854775807:Nat)) <|
 .fz ((1:Nat)+y2.2.1.n) ([Value.int IntKind.i64 y4]++y5) 3 fun b6 c6 =>
  .qc13 140 [.slice (some { block:=b6,off:=(0:Nat):Addr }) ((1:Nat)+y2.2.1.n) (c6)] fun y7 =>
  .qc10 89 [Sc.val .l y7,Sc.val .l x1] fun y8 =>
  .br (decide (y8<(0:Int))) (
   .nx 0 [.a 3 y2.1.1 y2.1.2,.v (Sc.val .l y7),.v (.int .i64 (IntKind.i64.wrap (y2.2.2.1-(1:Int))))]) <|
 .qc10 145 [Sc.val .l y7,Sc.val .l x1] fun y9 =>
  .rq ((0:Int)≤y2.2.2.1∧y2.2.2.1<(↑y2.1.1:Int)) <|
 .rq (Int.toNat y2.2.2.1*(1:Nat)+[Value.int IntKind.i64 y9].length≤y2.1.2.length) <|
 .qc13 70 [.int .i64 y9] fun y10 =>
  .qc13 147 [Sc.val .l x1,Sc.val .l y10] fun y11 =>
  .qc13 146 [Sc.val .l y7,Sc.val .l y11] fun y12 =>
  .nx 0 [.a 3 y2.1.1 (setl y2.1.2 (Int.toNat y2.2.2.1*(1:Nat)) [Value.int IntKind.i64 y9]),.v (Sc.val .l y12),.v (.int .i64 (IntKind.i64.wrap (y2.2.2.1-(1:Int))))]) <|
 .fz y2.1.1 y2.1.2 3 fun b3 c3 =>
 .qc13 140 [.slice (some { block:=b3,off:=(0:Nat):Addr }) y2.1.1 (c3)] fun y4 =>
 .ret [Sc.val .l y4,Sc.val .l y2.2.1]
theorem fS_l03Div x0 x1:qft aS_l03Div 117 [Sc.val .l x0,Sc.val .l x1] (tS_l03Div x0 x1) :=fitK (by kernel_rfl)
def tI_ratNeg (x0:qy0):T :=
 .rg <|
 .qc14 86 [qv1 (x0.1,x0.2.1,())] fun y1 =>
 .qc13 82 [Sc.val .l x0.2.2.1] fun y2 =>
 .ret [qv0 (y1.1,y1.2.1,y2,())]
theorem fI_ratNeg x0:qft qa0 118 [qv0 x0] (tI_ratNeg x0) :=fitK (by kernel_rfl)
def tI_intsOk (x0:qy1) (x1:qy1):T :=
 .qc9 81 [qv1 x0] fun y1 =>
 .br y1 (
  .qc9 81 [qv1 x1] fun y2 =>
  .ret [.bool y2]) <|
 .rF
theorem fI_intsOk x0 x1:qft qa0 119 [qv1 x0,qv1 x1] (tI_intsOk x0 x1) :=fitK (by kernel_rfl)
def tI_isMode (x0:Int):T :=
 .br (decide (x0≥(0:Int))) (
  .ret [.bool (decide (x0≤(6:Int)))]) <|
 .rF
theorem fI_isMode x0:qft qa0 120 [.int .i64 x0] (tI_isMode x0) :=fitK (by kernel_rfl)
def tI_RatRest (x0:qy0) (x1:Int):T :=
 .qc47 148 [qv0 x0,.int .i64 x1] fun y1 =>
 .bn y1.2.1 (.ret [qv1 ((false),nilS,()),qv0 ((false),nilS,nilS,()),.bool (false)]) <|
 .qc5 52 [qv1 y1.1] fun y2 =>
 .qc5 149 [qv0 x0,qv0 y2.1] fun y3 =>
 .bn y2.2.1 (.ret [qv1 ((false),nilS,()),qv0 ((false),nilS,nilS,()),.bool (false)]) <|
 .bn y3.2.1 (.ret [qv1 ((false),nilS,()),qv0 ((false),nilS,nilS,()),.bool (false)]) <|
 .rg <|
 .ret [qv1 y1.1,qv0 y3.1,.bool (true)]
theorem fI_RatRest x0 x1:qft qa0 121 [qv0 x0,.int .i64 x1] (tI_RatRest x0 x1) :=fitK (by kernel_rfl)
def aS_BookOpen:An:=⟨[(5,[.s 9],[.o (.o (.i .i64))])],[],[]⟩
def tS_BookOpen (x0:qy4) (x1:ByteArray) (x2:ByteArray):T :=
 .qc9 153 [qv4 x0] fun y1 =>
 .bn y1 (.ret [qv4 (nilS,()),.bool (false)]) <|
 .qc10 154 [qv4 x0,.string x1] fun y2 =>
 .br (decide (y2≥(0:Int))) (
  .ret [qv4 (nilS,()),.bool (false)]) <|
 .qc31 155 [qv4 x0] fun y3 =>
 .lp [.o (.o (.i .i64))] [.v (.int .i64 0)] fun y4 =>
 .br (decide (y4.1<(↑y3.1.n:Int))) (
  .el y3.1.1 (y3.1.n) y4.1 fun y5 =>
  .ql30 ((y5.add (Int.toNat y4.1*(4:Nat))).add (0:Nat)) fun y6 =>
  .br (Op.bytesLess y6.toList x1.toList) (
   .nx 0 [.v (.int .i64 (IntKind.i64.wrap (y4.1+(1:Int))))]) <|
 .rq ((0:Int)≤(0:Int)∧(0:Int)≤y4.1∧y4.1≤(↑y3.1.c:Int)∧(↑y3.1.c:Int)≤(↑y3.1.c:Int)) <|
 .rd ({ a:=if (↑y3.1.c:Int).toNat=Int.toNat (0:Int) then y3.1.1 else Option.map (fun x=>x.add (Int.toNat (0:Int)*Go.Proofs.Tryz.prog.types[(65:Nat)].size)) y3.1.1,n:=Int.toNat y4.1-Int.toNat (0:Int),c:=(↑y3.1.c:Int).toNat-Int.toNat (0:Int):SlV }) ((4:Nat)) fun y7 =>
  .rq (one y7=true∧((0:Nat)+(Int.toNat y4.1-Int.toNat (0:Int)))*(64:Nat)≤(140737488355328:Nat)∧(0:Nat)+(Int.toNat y4.1-Int.toNat (0:Int))≤(9223372036854775807:Nat)) <|
 .rq ([Value.string x1,Value.string x2,Value.bool false,Value.slice none (0:Nat) (0:Nat)].length=(1:Nat)*(4:Nat)) <|
 .rq (one [Value.string x1,Value.string x2,Value.bool false,Value.slice none (0:Nat) (0:Nat)]=true∧((0:Nat)+(Int.toNat y4.1-Int.toNat (0:Int))+(1:Nat))*(64:Nat)≤(140737488355328:Nat)∧(0:Nat)+(Int.toNat y4.1-Int.toNat (0:Int))+(1:Nat)≤(9223372036854775807:Nat)) <|
 .rq ((0:Int)≤y4.1∧y4.1≤(↑y3.1.n:Int)∧(↑y3.1.n:Int)≤(↑y3.1.c:Int)∧(↑y3.1.c:Int)≤(↑y3.1.c:Int)) <|
 .rd ({ a:=if (↑y3.1.c:Int).toNat=Int.toNat y4.1 then y3.1.1 else Option.map (fun x=>x.add (Int.toNat y4.1*Go.Proofs.Tryz.prog.types[(65:Nat)].size)) y3.1.1,n:=(↑y3.1.n:Int).toNat-Int.toNat y4.1,c:=(↑y3.1.c:Int).toNat-Int.toNat y4.1:SlV }) ((4:Nat)) fun y8 =>
  .rq (one y8=true∧((0:Nat)+(Int.toNat y4.1-Int.toNat (0:Int))+(1:Nat)+((↑y3.1.n:Int).toNat-Int.toNat y4.1))*(64:Nat)≤(140737488355328:Nat)∧(0:Nat)+(Int.toNat y4.1-Int.toNat (0:Int))+(1:Nat)+((↑y3.1.n:Int).toNat-Int.toNat y4.1)≤(9223372036854775807:Nat)) <|
 .fz ((0:Nat)+(Int.toNat y4.1-Int.toNat (0:Int))+(1:Nat)+((↑y3.1.n:Int).toNat-Int.toNat y4.1)) ([]++y7++[Value.string x1,Value.string x2,Value.bool false,Value.slice none (0:Nat) (0:Nat)]++y8) 65 fun b9 c9 =>
  .qc9 153 [qv4 ((⟨(some { block:=b9,off:=(0:Nat):Addr }),((0:Nat)+(Int.toNat y4.1-Int.toNat (0:Int))+(1:Nat)+((↑y3.1.n:Int).toNat-Int.toNat y4.1)),(c9)⟩:SlV),())] fun y10 =>
  .bn y10 (.ret [qv4 (nilS,()),.bool (false)]) <|
 .ret [qv4 ((⟨(some { block:=b9,off:=(0:Nat):Addr }),((0:Nat)+(Int.toNat y4.1-Int.toNat (0:Int))+(1:Nat)+((↑y3.1.n:Int).toNat-Int.toNat y4.1)),(c9)⟩:SlV),()),.bool (true)]) <|
 .rq ((0:Int)≤(0:Int)∧(0:Int)≤y4.1∧y4.1≤(↑y3.1.c:Int)∧(↑y3.1.c:Int)≤(↑y3.1.c:Int)) <|
 .rd ({ a:=if (↑y3.1.c:Int).toNat=Int.toNat (0:Int) then y3.1.1 else Option.map (fun x=>x.add (Int.toNat (0:Int)*Go.Proofs.Tryz.prog.types[(65:Nat)].size)) y3.1.1,n:=Int.toNat y4.1-Int.toNat (0:Int),c:=(↑y3.1.c:Int).toNat-Int.toNat (0:Int):SlV }) ((4:Nat)) fun y5 =>
 .rq (one y5=true∧((0:Nat)+(Int.toNat y4.1-Int.toNat (0:Int)))*(64:Nat)≤(140737488355328:Nat)∧(0:Nat)+(Int.toNat y4.1-Int.toNat (0:Int))≤(9223372036854775807:Nat)) <|
 .rq ([Value.string x1,Value.string x2,Value.bool false,Value.slice none (0:Nat) (0:Nat)].length=(1:Nat)*(4:Nat)) <|
 .rq (one [Value.string x1,Value.string x2,Value.bool false,Value.slice none (0:Nat) (0:Nat)]=true∧((0:Nat)+(Int.toNat y4.1-Int.toNat (0:Int))+(1:Nat))*(64:Nat)≤(140737488355328:Nat)∧(0:Nat)+(Int.toNat y4.1-Int.toNat (0:Int))+(1:Nat)≤(9223372036854775807:Nat)) <|
 .rq ((0:Int)≤y4.1∧y4.1≤(↑y3.1.n:Int)∧(↑y3.1.n:Int)≤(↑y3.1.c:Int)∧(↑y3.1.c:Int)≤(↑y3.1.c:Int)) <|
 .rd ({ a:=if (↑y3.1.c:Int).toNat=Int.toNat y4.1 then y3.1.1 else Option.map (fun x=>x.add (Int.toNat y4.1*Go.Proofs.Tryz.prog.types[(65:Nat)].size)) y3.1.1,n:=(↑y3.1.n:Int).toNat-Int.toNat y4.1,c:=(↑y3.1.c:Int).toNat-Int.toNat y4.1:SlV }) ((4:Nat)) fun y6 =>
 .rq (one y6=true∧((0:Nat)+(Int.toNat y4.1-Int.toNat (0:Int))+(1:Nat)+((↑y3.1.n:Int).toNat-Int.toNat y4.1))*(64:Nat)≤(140737488355328:Nat)∧(0:Nat)+(Int.toNat y4.1-Int.toNat (0:Int))+(1:Nat)+((↑y3.1.n:Int).toNat-Int.toNat y4.1)≤(9223372036854775807:Nat)) <|
 .fz ((0:Nat)+(Int.toNat y4.1-Int.toNat (0:Int))+(1:Nat)+((↑y3.1.n:Int).toNat-Int.toNat y4.1)) ([]++y5++[Value.string x1,Value.string x2,Value.bool false,Value.slice none (0:Nat) (0:Nat)]++y6) 65 fun b7 c7 =>
 .qc9 153 [qv4 ((⟨(some { block:=b7,off:=(0:Nat):Addr }),((0:Nat)+(Int.toNat y4.1-Int.toNat (0:Int))+(1:Nat)+((↑y3.1.n:Int).toNat-Int.toNat y4.1)),(c7)⟩:SlV),())] fun y8 =>
 .bn y8 (.ret [qv4 (nilS,()),.bool (false)]) <|
 .ret [qv4 ((⟨(some { block:=b7,off:=(0:Nat):Addr }),((0:Nat)+(Int.toNat y4.1-Int.toNat (0:Int))+(1:Nat)+((↑y3.1.n:Int).toNat-Int.toNat y4.1)),(c7)⟩:SlV),()),.bool (true)]
theorem fS_BookOpen x0 x1 x2:qft aS_BookOpen 126 [qv4 x0,.string x1,.string x2] (tS_BookOpen x0 x1 x2) :=fitK (by kernel_rfl)
def tS_BookPost (x0:qy4) (x1:ByteArray) (x2:qy3):T :=
 .qc10 154 [qv4 x0,.string x1] fun y1 =>
 .qc9 153 [qv4 x0] fun y2 =>
 .bn y2 (.ret [qv4 (nilS,()),.bool (false)]) <|
 .br (decide (y1<(0:Int))) (
  .ret [qv4 (nilS,()),.bool (false)]) <|
 .rg <|
 .el x0.1.1 (x0.1.n) y1 fun y3 =>
 .ql48 ((y3.add (y1.toNat*(4:Nat))).add (1:Nat)) fun y4 =>
 .qc41 156 [qv2 y4,qv2 x2] fun y5 =>
 .bn y5.2.1 (.ret [qv4 (nilS,()),.bool (false)]) <|
 .qc31 155 [qv4 x0] fun y6 =>
 .el y6.1.1 (y6.1.n) y1 fun y7 =>
 .st ((y7.add (y1.toNat*(4:Nat))).add (1:Nat)) [.string y5.1.1,.bool y5.1.2.1,Sc.val .l y5.1.2.2.1] <|
 .ret [qv4 y6,.bool (true)]
theorem fS_BookPost x0 x1 x2:qft qa0 127 [qv4 x0,.string x1,qv2 x2] (tS_BookPost x0 x1 x2) :=fitK (by kernel_rfl)
def tS_RatAdd (x0:qy0) (x1:qy0):T :=
 .qc9 50 [qv0 x0] fun y1 =>
 .bn y1 (.ret [qv0 ((false),nilS,nilS,()),.bool (false)]) <|
 .qc9 50 [qv0 x1] fun y2 =>
 .bn y2 (.ret [qv0 ((false),nilS,nilS,()),.bool (false)]) <|
 .rg <|
 .qc12 147 [Sc.val .l x0.2.1,Sc.val .l x1.2.2.1] fun y3 =>
 .qc15 69 [.bool x0.1,Sc.val .l y3] fun y4 =>
 .rg <|
 .qc12 147 [Sc.val .l x1.2.1,Sc.val .l x0.2.2.1] fun y5 =>
 .qc15 69 [.bool x1.1,Sc.val .l y5] fun y6 =>
 .qc15 157 [qv1 y4,qv1 y6] fun y7 =>
 .rg <|
 .qc12 147 [Sc.val .l x0.2.2.1,Sc.val .l x1.2.2.1] fun y8 =>
 .qc5 158 [.bool y7.1,Sc.val .l y7.2.1,Sc.val .l y8] fun y9 =>
 .ret [qv0 y9.1,.bool y9.2.1]
theorem fS_RatAdd x0 x1:qft qa0 128 [qv0 x0,qv0 x1] (tS_RatAdd x0 x1) :=fitK (by kernel_rfl)
def aS_RestOf:An:=⟨[(2,[.s 9,.c 4 0,.c 4 1,.c 4 2],[.o (.o (.i .i64)),.o (.o (.b)),.o (.o (.l)),.o (.o (.l))])],[],[]⟩
def tS_RestOf (x0:SlV) (x1:ByteArray):T :=
 .lp [.o (.o (.i .i64)),.o (.o (.b)),.o (.o (.l)),.o (.o (.l))] [.v (.int .i64 0),.v (.bool (false)),.v (.slice none 0 0),.v (.slice none 0 0)] fun y1 =>
 .br (decide (y1.1<(↑x0.n:Int))) (
  .el x0.1 (x0.n) y1.1 fun y2 =>
  .ql43 (y2.add (Int.toNat y1.1*(4:Nat))) fun y3 =>
  .br (ByteArray.toList y3.1 == x1.toList) (
   .qc3 159 [qv0 y3.2] fun y4 =>
   .ret [qv0 y4]) <|
 .nx 0 [.v (.int .i64 (IntKind.i64.wrap (y1.1+(1:Int)))),.v (.bool y1.2.1),.v (Sc.val .l y1.2.2.1),.v (Sc.val .l y1.2.2.2.1)]) <|
 .qc3 136 [] fun y2 =>
 .ret [qv0 y2]
theorem fS_RestOf x0 x1:qft aS_RestOf 129 [Sc.val .l x0,.string x1] (tS_RestOf x0 x1) :=fitK (by kernel_rfl)
def aS_RestsOk:An:=⟨[(2,[.s 7],[.o (.o (.i .i64))])],[],[]⟩
def tS_RestsOk (x0:SlV):T :=
 .lp [.o (.o (.i .i64))] [.v (.int .i64 0)] fun y1 =>
 .br (decide (y1.1<(↑x0.n:Int))) (
  .el x0.1 (x0.n) y1.1 fun y2 =>
  .ql43 (y2.add (Int.toNat y1.1*(4:Nat))) fun y3 =>
  .rg <|
 .qc44 11 [.string y3.1] fun y4 =>
  .bF y4 <|
 .qc44 50 [qv0 y3.2] fun y5 =>
  .bF y5 <|
 .qc8 132 [qv0 y3.2] fun y6 =>
  .br (y6 == (0:Int)) (
   .rF) <|
 .br (decide (y1.1 > (0:Int))) (
   .el x0.1 (x0.n) (IntKind.i64.wrap (y1.1-(1:Int))) fun y7 =>
   .ql45 ((y7.add ((IntKind.i64.wrap (y1.1-(1:Int))).toNat*(4:Nat))).add (0:Nat)) fun y8 =>
   .br (!Op.bytesLess y8.toList (ByteArray.toList y3.1)) (
    .rF) <|
 .nx 0 [.v (.int .i64 (IntKind.i64.wrap (y1.1+(1:Int))))]) <|
 .nx 0 [.v (.int .i64 (IntKind.i64.wrap (y1.1+(1:Int))))]) <|
 .rT
theorem fS_RestsOk x0:qft aS_RestsOk 130 [Sc.val .l x0] (tS_RestsOk x0) :=fitK (by kernel_rfl)
def aS_l19Copy:An:=⟨[(3,[.s 3,.s 9],[.o (.o (.l)),.o (.o (.i .i64))])],[],[]⟩
def tS_l19Copy (x0:SlV):T :=
 .fz ((0:Nat)) [] 188 fun b1 c1 =>
 .lp [.o (.o (.l)),.o (.o (.i .i64))] [.v (.slice (some { block:=b1,off:=(0:Nat):Addr }) ((0:Nat)) (c1)),.v (.int .i64 0)] fun y2 =>
 .br (decide (y2.2.1<(↑x0.n:Int))) (
  .el x0.1 (x0.n) y2.2.1 fun y3 =>
  .ql43 (y3.add (Int.toNat y2.2.1*(4:Nat))) fun y4 =>
  .rg <|
 .qc6 159 [qv0 y4.2] fun y5 =>
  .rq ([Value.string y4.1,Value.bool y5.1,Value.slice y5.2.1.1 y5.2.1.n y5.2.1.c,Value.slice y5.2.2.1.1 y5.2.2.1.n y5.2.2.1.c].length=(1:Nat)*(4:Nat)) <|
 .rq (one [Value.string y4.1,Value.bool y5.1,Value.slice y5.2.1.1 y5.2.1.n y5.2.1.c,Value.slice y5.2.2.1.1 y5.2.2.1.n y5.2.2.1.c]=true) <|
 .ap ({ a:=y2.1.1,n:=y2.1.n,c:=y2.1.c:SlV }) 4 72 [.string y4.1,.bool y5.1,Sc.val .l y5.2.1,Sc.val .l y5.2.2.1] ((1:Nat)) 188 fun y6 =>
  .nx 0 [.v (Sc.val .l y6),.v (.int .i64 (IntKind.i64.wrap (y2.2.1+(1:Int))))]) <|
 .ret [Sc.val .l y2.1]
theorem fS_l19Copy x0:qft aS_l19Copy 131 [Sc.val .l x0] (tS_l19Copy x0) :=fitK (by kernel_rfl)
def tS_RatSign (x0:qy0):T :=
 .rg <|
 .qc6 136 [] fun y1 =>
 .qc10 160 [qv0 x0,qv0 y1] fun y2 =>
 .ret [.int .i64 y2]
theorem fS_RatSign x0:qft qa0 132 [qv0 x0] (tS_RatSign x0) :=fitK (by kernel_rfl)
def tS_l04Draw (x0:Addr) (x1:Int):T :=
 .qc9 65 [.pointer (some x0),.int .i64 3] fun y1 =>
 .br y1 (
  .qc10 32 [.pointer (some x0),.int .i64 2001] fun y2 =>
  .qc15 31 [.int .i64 (IntKind.i64.wrap (y2-(1000:Int)))] fun y3 =>
  .ret [qv1 y3]) <|
 .qc9 65 [.pointer (some x0),.int .i64 2] fun y2 =>
 .qc13 134 [.pointer (some x0),.int .i64 x1] fun y3 =>
 .qc15 69 [.bool y2,Sc.val .l y3] fun y4 =>
 .ret [qv1 y4]
theorem fS_l04Draw x0 x1:qft qa0 133 [.pointer (some x0),.int .i64 x1] (tS_l04Draw x0 x1) :=fitK (by kernel_rfl)
end
end Go.Proofs.YtmppmpceccpdlaaGreatDoor
