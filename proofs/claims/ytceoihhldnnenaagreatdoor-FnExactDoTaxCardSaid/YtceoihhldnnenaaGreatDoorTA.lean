/-
  What each function of the seat comes to, as a tree; each tree is checked against the code.
-/
import Derived.Test.YtceoihhldnnenaaGreatDoorEngD
import Derived.Test.YtceoihhldnnenaaGreatDoorChecked
import Derived.KernelRfl
namespace Go.Proofs.YtceoihhldnnenaaGreatDoor
open Sx
set_option maxRecDepth 100000
noncomputable section
abbrev qft:=@fits Tryz.prog
abbrev qa0:An:=⟨[],[],[]⟩
abbrev _root_.Sx.T.rF:T:=.ret [.bool false]
abbrev _root_.Sx.T.rT:T:=.ret [.bool true]
abbrev _root_.Sx.T.rM:T:=.ret [.int .i64 (-1)]
abbrev _root_.Sx.T.bF (b:Bool) (y:T):T:=.br (!b) (.ret [.bool false]) y
abbrev _root_.Sx.T.bn (b:Bool) (x:T) (y:T):T:=.br (!b) x y
abbrev _root_.Sx.T.qc0 (g:Nat) (l:List Value) (k:Sh.ty (.v (.o (.i .i64)))→T):T:=.call false g l (.v (.o (.i .i64))) k
abbrev _root_.Sx.T.qc1 (g:Nat) (l:List Value) (k:Sh.ty (.v (.g [.l,.l,.s,.l]))→T):T:=.call true g l (.v (.g [.l,.l,.s,.l])) k
abbrev _root_.Sx.T.qc2 (g:Nat) (l:List Value) (k:Sh.ty (.v (.g [.s,.b,.l]))→T):T:=.call true g l (.v (.g [.s,.b,.l])) k
abbrev _root_.Sx.T.qc3 (g:Nat) (l:List Value) (k:Sh.ty (.v (.g [.b,.l,.i .i64]))→T):T:=.call false g l (.v (.g [.b,.l,.i .i64])) k
abbrev _root_.Sx.T.qc4 (g:Nat) (l:List Value) (k:Sh.ty (.t [(.g [.l,.l,.s,.l]),(.o (.i .i64))])→T):T:=.call false g l (.t [(.g [.l,.l,.s,.l]),(.o (.i .i64))]) k
abbrev _root_.Sx.T.qc5 (g:Nat) (l:List Value) (k:Sh.ty (.v (.g [.l,.l,.s,.l]))→T):T:=.call false g l (.v (.g [.l,.l,.s,.l])) k
abbrev _root_.Sx.T.qc6 (g:Nat) (l:List Value) (k:Sh.ty (.v (.g [.s,.b,.l]))→T):T:=.call false g l (.v (.g [.s,.b,.l])) k
abbrev _root_.Sx.T.qc7 (g:Nat) (l:List Value) (k:Sh.ty (.v (.o (.b)))→T):T:=.call false g l (.v (.o (.b))) k
abbrev _root_.Sx.T.qc8 (g:Nat) (l:List Value) (k:Sh.ty (.v (.g [.b,.l,.i .i64]))→T):T:=.call true g l (.v (.g [.b,.l,.i .i64])) k
abbrev _root_.Sx.T.qc9 (g:Nat) (l:List Value) (k:Sh.ty (.v (.g [.l]))→T):T:=.call false g l (.v (.g [.l])) k
abbrev _root_.Sx.T.qc10 (g:Nat) (l:List Value) (k:Sh.ty (.v (.o (.l)))→T):T:=.call false g l (.v (.o (.l))) k
abbrev _root_.Sx.T.qc11 (g:Nat) (l:List Value) (k:Sh.ty (.v (.g [.s,.l]))→T):T:=.call false g l (.v (.g [.s,.l])) k
abbrev _root_.Sx.T.qc12 (g:Nat) (l:List Value) (k:Sh.ty (.t [(.g [.s,.b,.l]),(.g [.s,.b,.l]),(.g [.b,.l,.l]),(.o (.b))])→T):T:=.call false g l (.t [(.g [.s,.b,.l]),(.g [.s,.b,.l]),(.g [.b,.l,.l]),(.o (.b))]) k
abbrev _root_.Sx.T.qc13 (g:Nat) (l:List Value) (k:Sh.ty (.v (.g [.b,.l]))→T):T:=.call false g l (.v (.g [.b,.l])) k
abbrev _root_.Sx.T.ql14 (a:Addr) (k:Sh1.ty (.o (.i .i64))→T):T:=.ld false a (.o (.i .i64)) k
abbrev _root_.Sx.T.ql15 (a:Addr) (k:Sh1.ty (.o (.i .i64))→T):T:=.ld true a (.o (.i .i64)) k
abbrev _root_.Sx.T.ql16 (a:Addr) (k:Sh1.ty (.g [.s,.b,.l,.l])→T):T:=.ld false a (.g [.s,.b,.l,.l]) k
abbrev _root_.Sx.T.ql17 (a:Addr) (k:Sh1.ty (.g [.s,.s,.b,.l])→T):T:=.ld false a (.g [.s,.s,.b,.l]) k
abbrev _root_.Sx.T.qc18 (g:Nat) (l:List Value) (k:Sh.ty (.v (.g [.b,.l]))→T):T:=.call true g l (.v (.g [.b,.l])) k
abbrev _root_.Sx.T.qc19 (g:Nat) (l:List Value) (k:Sh.ty (.t [(.g [.b,.l,.l]),(.o (.b))])→T):T:=.call false g l (.t [(.g [.b,.l,.l]),(.o (.b))]) k
abbrev _root_.Sx.T.qc20 (g:Nat) (l:List Value) (k:Sh.ty (.v (.g [.l]))→T):T:=.call true g l (.v (.g [.l])) k
abbrev _root_.Sx.T.qc21 (g:Nat) (l:List Value) (k:Sh.ty (.v (.o (.l)))→T):T:=.call true g l (.v (.o (.l))) k
abbrev _root_.Sx.T.qc22 (g:Nat) (l:List Value) (k:Sh.ty (.v (.g [.s,.b,.l,.l]))→T):T:=.call false g l (.v (.g [.s,.b,.l,.l])) k
abbrev _root_.Sx.T.ql23 (a:Addr) (k:Sh1.ty (.g [.s,.b,.l,.l])→T):T:=.ld true a (.g [.s,.b,.l,.l]) k
abbrev _root_.Sx.T.qc24 (g:Nat) (l:List Value) (k:Sh.ty (.v (.o (.s)))→T):T:=.call false g l (.v (.o (.s))) k
abbrev _root_.Sx.T.ql25 (a:Addr) (k:Sh1.ty (.o (.l))→T):T:=.ld false a (.o (.l)) k
abbrev _root_.Sx.T.ql26 (a:Addr) (k:Sh1.ty (.o (.s))→T):T:=.ld true a (.o (.s)) k
abbrev _root_.Sx.T.qc27 (g:Nat) (l:List Value) (k:Sh.ty (.v (.o (.s)))→T):T:=.call true g l (.v (.o (.s))) k
abbrev _root_.Sx.T.ql28 (a:Addr) (k:Sh1.ty (.o (.b))→T):T:=.ld false a (.o (.b)) k
abbrev _root_.Sx.T.qc29 (g:Nat) (l:List Value) (k:Sh.ty (.v (.o (.b)))→T):T:=.call true g l (.v (.o (.b))) k
abbrev _root_.Sx.T.qc30 (g:Nat) (l:List Value) (k:Sh.ty (.v (.g [.b,.l,.l]))→T):T:=.call true g l (.v (.g [.b,.l,.l])) k
abbrev _root_.Sx.T.qc31 (g:Nat) (l:List Value) (k:Sh.ty (.t [(.g [.s,.b,.l]),(.g [.b,.l,.l]),(.o (.b))])→T):T:=.call false g l (.t [(.g [.s,.b,.l]),(.g [.b,.l,.l]),(.o (.b))]) k
abbrev _root_.Sx.T.qc32 (g:Nat) (l:List Value) (k:Sh.ty (.t [(.g [.s,.b,.l]),(.o (.b))])→T):T:=.call false g l (.t [(.g [.s,.b,.l]),(.o (.b))]) k
abbrev _root_.Sx.T.qc33 (g:Nat) (l:List Value) (k:Sh.ty (.v (.o (.i .i64)))→T):T:=.call true g l (.v (.o (.i .i64))) k
abbrev _root_.Sx.T.qc34 (g:Nat) (l:List Value) (k:Sh.ty (.t [(.g [.l]),(.o (.b))])→T):T:=.call false g l (.t [(.g [.l]),(.o (.b))]) k
abbrev _root_.Sx.T.ql35 (a:Addr) (k:Sh1.ty (.g [.s,.s,.b,.l,.i .i64])→T):T:=.ld false a (.g [.s,.s,.b,.l,.i .i64]) k
abbrev _root_.Sx.T.qc36 (g:Nat) (l:List Value) (k:Sh.ty (.t [(.o (.l)),(.o (.l))])→T):T:=.call false g l (.t [(.o (.l)),(.o (.l))]) k
abbrev _root_.Sx.T.ql37 (a:Addr) (k:Sh1.ty (.g [.s,.s,.i .i64,.i .i64])→T):T:=.ld false a (.g [.s,.s,.i .i64,.i .i64]) k
abbrev _root_.Sx.T.qc38 (g:Nat) (l:List Value) (k:Sh.ty (.v (.g [.s,.s,.i .i64,.i .i64]))→T):T:=.call false g l (.v (.g [.s,.s,.i .i64,.i .i64])) k
abbrev _root_.Sx.T.qc39 (g:Nat) (l:List Value) (k:Sh.ty (.v (.g [.s,.s,.b,.l]))→T):T:=.call false g l (.v (.g [.s,.s,.b,.l])) k
abbrev _root_.Sx.T.qc40 (g:Nat) (l:List Value) (k:Sh.ty (.v (.g [.b,.l,.l]))→T):T:=.call false g l (.v (.g [.b,.l,.l])) k
abbrev _root_.Sx.T.qc41 (g:Nat) (l:List Value) (k:Sh.ty (.v (.g [.s,.s,.b,.l,.i .i64]))→T):T:=.call false g l (.v (.g [.s,.s,.b,.l,.i .i64])) k
abbrev _root_.Sx.T.ql42 (a:Addr) (k:Sh1.ty (.g [.s,.s,.b,.l])→T):T:=.ld true a (.g [.s,.s,.b,.l]) k
abbrev _root_.Sx.T.ql43 (a:Addr) (k:Sh1.ty (.g [.s,.s,.b,.l,.i .i64])→T):T:=.ld true a (.g [.s,.s,.b,.l,.i .i64]) k
abbrev _root_.Sx.T.qc44 (g:Nat) (l:List Value) (k:Sh.ty (.t [(.g [.b,.l]),(.g [.b,.l]),(.o (.i .i64))])→T):T:=.call false g l (.t [(.g [.b,.l]),(.g [.b,.l]),(.o (.i .i64))]) k
abbrev _root_.Sx.T.qc45 (g:Nat) (l:List Value) (k:Sh.ty (.t [(.g [.b,.l]),(.g [.b,.l,.l]),(.o (.b))])→T):T:=.call false g l (.t [(.g [.b,.l]),(.g [.b,.l,.l]),(.o (.b))]) k
abbrev _root_.Sx.T.ql46 (a:Addr) (k:Sh1.ty (.g [.s,.b,.l])→T):T:=.ld true a (.g [.s,.b,.l]) k
abbrev _root_.Sx.T.qc47 (g:Nat) (l:List Value) (k:Sh.ty (.t [(.o (.l)),(.o (.i .i64))])→T):T:=.call false g l (.t [(.o (.l)),(.o (.i .i64))]) k
abbrev _root_.Sx.T.qc48 (g:Nat) (l:List Value) (k:Sh.ty (.v (.g [.s,.s,.b,.l,.i .i64]))→T):T:=.call true g l (.v (.g [.s,.s,.b,.l,.i .i64])) k
abbrev _root_.Sx.T.qc49 (g:Nat) (l:List Value) (k:Sh.ty (.t [(.g [.b,.l]),(.o (.b))])→T):T:=.call false g l (.t [(.g [.b,.l]),(.o (.b))]) k
abbrev _root_.Sx.T.qc50 (g:Nat) (l:List Value) (k:Sh.ty (.t [(.g [.s,.s,.i .i64,.i .i64]),(.o (.b))])→T):T:=.call false g l (.t [(.g [.s,.s,.i .i64,.i .i64]),(.o (.b))]) k
abbrev _root_.Sx.T.ql51 (a:Addr) (k:Sh1.ty (.g [.s,.s,.i .i64,.i .i64,.s,.s,.i .i64,.i .i64,.s,.s,.i .i64,.i .i64,.s,.s,.i .i64,.i .i64,.s,.s,.i .i64,.i .i64,.s,.s,.i .i64,.i .i64,.s,.s,.i .i64,.i .i64,.s,.s,.i .i64,.i .i64,.s,.s,.i .i64,.i .i64,.s,.s,.i .i64,.i .i64,.s,.s,.i .i64,.i .i64,.s,.s,.i .i64,.i .i64,.s,.s,.i .i64,.i .i64,.s,.s,.i .i64,.i .i64,.s,.s,.i .i64,.i .i64,.s,.s,.i .i64,.i .i64,.s,.s,.i .i64,.i .i64,.s,.s,.i .i64,.i .i64,.s,.s,.i .i64,.i .i64,.s,.s,.i .i64,.i .i64])→T):T:=.ld false a (.g [.s,.s,.i .i64,.i .i64,.s,.s,.i .i64,.i .i64,.s,.s,.i .i64,.i .i64,.s,.s,.i .i64,.i .i64,.s,.s,.i .i64,.i .i64,.s,.s,.i .i64,.i .i64,.s,.s,.i .i64,.i .i64,.s,.s,.i .i64,.i .i64,.s,.s,.i .i64,.i .i64,.s,.s,.i .i64,.i .i64,.s,.s,.i .i64,.i .i64,.s,.s,.i .i64,.i .i64,.s,.s,.i .i64,.i .i64,.s,.s,.i .i64,.i .i64,.s,.s,.i .i64,.i .i64,.s,.s,.i .i64,.i .i64,.s,.s,.i .i64,.i .i64,.s,.s,.i .i64,.i .i64,.s,.s,.i .i64,.i .i64,.s,.s,.i .i64,.i .i64]) k
abbrev _root_.Sx.T.qc52 (g:Nat) (l:List Value) (k:Sh.ty (.t [])→T):T:=.call false g l (.t []) k
abbrev _root_.Sx.T.ql53 (a:Addr) (k:Sh1.ty (.g [.s,.b,.l])→T):T:=.ld false a (.g [.s,.b,.l]) k
abbrev _root_.Sx.T.qc54 (g:Nat) (l:List Value) (k:Sh.ty (.v (.g [.s,.f,.s,.f,.s,.f,.s,.f,.s,.f,.s,.f,.s,.f]))→T):T:=.call true g l (.v (.g [.s,.f,.s,.f,.s,.f,.s,.f,.s,.f,.s,.f,.s,.f])) k
abbrev _root_.Sx.T.ql55 (a:Addr) (k:Sh1.ty (.o (.s))→T):T:=.ld false a (.o (.s)) k
abbrev _root_.Sx.T.qc56 (g:Nat) (l:List Value) (k:Sh.ty (.v (.o (.c)))→T):T:=.call false g l (.v (.o (.c))) k
abbrev _root_.Sx.T.ql57 (a:Addr) (k:Sh1.ty (.g [.l])→T):T:=.ld false a (.g [.l]) k
abbrev _root_.Sx.T.ql58 (a:Addr) (k:Sh1.ty (.o (.l))→T):T:=.ld true a (.o (.l)) k
def tL_FnExactDoTax (x0:qy4) (x1:ByteArray) (x2:ByteArray) (x3:ByteArray) (x4:qy2) (x5:qy3) (x6:Int):T :=
 .br (decide ((↑x1.size:Int) > (1048576:Int))) (
  .rT) <|
 .br (decide ((↑x2.size:Int) > (1048576:Int))) (
  .rT) <|
 .br (decide ((↑x3.size:Int) > (1048576:Int))) (
  .rT) <|
 .qc0 7 [qv3 x0,.int .i64 1048576] fun y1 =>
 .br (decide (y1<(0:Int))) (
  .rT) <|
 .qc0 14 [qv2 x4,.int .i64 y1] fun y2 =>
 .br (decide (y2<(0:Int))) (
  .rT) <|
 .qc0 15 [qv4 x5,.int .i64 y2] fun y3 =>
 .br (decide (y3<(0:Int))) (
  .rT) <|
 .rg <|
 .qc1 9 [qv3 x0] fun y4 =>
 .qc2 17 [qv2 x4] fun y5 =>
 .qc3 18 [qv4 x5] fun y6 =>
 .qc4 16 [qv3 y4,.string x1,.string x2,.string x3,qv2 y5,qv4 y6,.int .i64 x6] fun y7 =>
 .qc5 9 [qv3 x0] fun y8 =>
 .qc6 17 [qv2 x4] fun y9 =>
 .qc3 18 [qv4 x5] fun y10 =>
 .qc4 19 [qv3 y8,.string x1,.string x2,.string x3,qv2 y9,qv4 y10,.int .i64 x6] fun y11 =>
 .qc7 11 [qv3 y11.1,qv3 y7.1] fun y12 =>
 .bF y12 <|
 .br (y11.2.1 != y7.2.1) (
  .rF) <|
 .rg <|
 .qc1 9 [qv3 x0] fun y13 =>
 .qc7 11 [qv3 y8,qv3 y13] fun y14 =>
 .bF y14 <|
 .rg <|
 .qc2 17 [qv2 x4] fun y15 =>
 .qc7 20 [qv2 y9,qv2 y15] fun y16 =>
 .bF y16 <|
 .rg <|
 .qc8 18 [qv4 x5] fun y17 =>
 .qc7 21 [qv4 y10,qv4 y17] fun y18 =>
 .bF y18 <|
 .qc0 12 [qv3 y8,.int .i64 1] fun y19 =>
 .qc0 22 [qv2 y9,.int .i64 y19] fun y20 =>
 .qc0 23 [qv4 y10,.int .i64 y20] fun y21 =>
 .br (decide (y21<(0:Int))) (
  .rF) <|
 .qc7 11 [qv3 y11.1,qv3 y7.1] fun y22 =>
 .bF y22 <|
 .br (y11.2.1 != y7.2.1) (
  .rF) <|
 .qc0 12 [qv3 y11.1,.int .i64 1] fun y23 =>
 .qc0 13 [qv3 y11.1,.int .i64 1] fun y24 =>
 .br (decide (y24<(0:Int))) (
  .rF) <|
 .br (y24 != y23) (
  .rF) <|
 .rg <|
 .qc1 9 [qv3 x0] fun y25 =>
 .qc2 17 [qv2 x4] fun y26 =>
 .qc3 18 [qv4 x5] fun y27 =>
 .qc4 19 [qv3 y25,.string x1,.string x2,.string x3,qv2 y26,qv4 y27,.int .i64 x6] fun y28 =>
 .qc7 11 [qv3 y28.1,qv3 y7.1] fun y29 =>
 .bF y29 <|
 .br (y28.2.1 != y7.2.1) (
  .rF) <|
 .qc0 13 [qv3 y11.1,.int .i64 1] fun y30 =>
 .br (decide (y30<(0:Int))) (
  .rF) <|
 .br (y30 != y23) (
  .rF) <|
 .rT
theorem fL_FnExactDoTax x0 x1 x2 x3 x4 x5 x6:qft qa0 4 [qv3 x0,.string x1,.string x2,.string x3,qv2 x4,qv4 x5,.int .i64 x6] (tL_FnExactDoTax x0 x1 x2 x3 x4 x5 x6) :=fitK (by kernel_rfl)
def tL_szLedger (x0:qy4) (x1:Int):T :=
 .qc0 35 [qv5 (x0.1,()),.int .i64 x1] fun y1 =>
 .br (decide (y1<(0:Int))) (
  .rM) <|
 .qc0 36 [Sc.val .l x0.2.1,.int .i64 y1] fun y2 =>
 .br (decide (y2<(0:Int))) (
  .rM) <|
 .qc0 37 [qv6 x0.2.2,.int .i64 y2] fun y3 =>
 .br (decide (y3<(0:Int))) (
  .rM) <|
 .ret [.int .i64 y3]
theorem fL_szLedger x0 x1:qft qa0 7 [qv3 x0,.int .i64 x1] (tL_szLedger x0 x1) :=fitK (by kernel_rfl)
def tL_toLedger (x0:qy4):T :=
 .qc9 49 [qv5 (x0.1,())] fun y1 =>
 .qc10 50 [Sc.val .l x0.2.1] fun y2 =>
 .qc11 51 [qv6 x0.2.2] fun y3 =>
 .ret [qv3 (y1.1,y2,y3.1,y3.2.1,())]
theorem fL_toLedger x0:qft qa0 9 [qv3 x0] (tL_toLedger x0) :=fitK (by kernel_rfl)
def tL_eqLedger (x0:qy4) (x1:qy4):T :=
 .qc7 53 [qv5 (x0.1,()),qv5 (x1.1,())] fun y1 =>
 .bF y1 <|
 .qc7 54 [Sc.val .l x0.2.1,Sc.val .l x1.2.1] fun y2 =>
 .bF y2 <|
 .qc7 55 [qv6 x0.2.2,qv6 x1.2.2] fun y3 =>
 .bF y3 <|
 .rT
theorem fL_eqLedger x0 x1:qft qa0 11 [qv3 x0,qv3 x1] (tL_eqLedger x0 x1) :=fitK (by kernel_rfl)
def tL_markLedger (x0:qy4) (x1:Int):T :=
 .qc0 56 [qv5 (x0.1,()),.int .i64 x1] fun y1 =>
 .qc0 57 [Sc.val .l x0.2.1,.int .i64 y1] fun y2 =>
 .qc0 58 [qv6 x0.2.2,.int .i64 y2] fun y3 =>
 .ret [.int .i64 y3]
theorem fL_markLedger x0 x1:qft qa0 12 [qv3 x0,.int .i64 x1] (tL_markLedger x0 x1) :=fitK (by kernel_rfl)
def tL_heldLedger (x0:qy4) (x1:Int):T :=
 .qc0 59 [qv5 (x0.1,()),.int .i64 x1] fun y1 =>
 .br (decide (y1<(0:Int))) (
  .rM) <|
 .qc0 60 [Sc.val .l x0.2.1,.int .i64 y1] fun y2 =>
 .br (decide (y2<(0:Int))) (
  .rM) <|
 .qc0 61 [qv6 x0.2.2,.int .i64 y2] fun y3 =>
 .br (decide (y3<(0:Int))) (
  .rM) <|
 .ret [.int .i64 y3]
theorem fL_heldLedger x0 x1:qft qa0 13 [qv3 x0,.int .i64 x1] (tL_heldLedger x0 x1) :=fitK (by kernel_rfl)
def tL_szMoney (x0:qy2) (x1:Int):T :=
 .br (decide (IntKind.i64.wrap (x1-(↑(ByteArray.size x0.1):Int))<(0:Int))) (
  .rM) <|
 .qc0 62 [qv0 x0.2,.int .i64 (IntKind.i64.wrap (x1-(↑(ByteArray.size x0.1):Int)))] fun y1 =>
 .br (decide (y1<(0:Int))) (
  .rM) <|
 .ret [.int .i64 y1]
theorem fL_szMoney x0 x1:qft qa0 14 [qv2 x0,.int .i64 x1] (tL_szMoney x0 x1) :=fitK (by kernel_rfl)
def tL_szDec (x0:qy3) (x1:Int):T :=
 .qc0 62 [qv0 (x0.1,x0.2.1,()),.int .i64 x1] fun y1 =>
 .br (decide (y1<(0:Int))) (
  .rM) <|
 .ret [.int .i64 y1]
theorem fL_szDec x0 x1:qft qa0 15 [qv4 x0,.int .i64 x1] (tL_szDec x0 x1) :=fitK (by kernel_rfl)
def tS_DoTax (x0:qy4) (x1:ByteArray) (x2:ByteArray) (x3:ByteArray) (x4:qy2) (x5:qy3) (x6:Int):T :=
 .qc7 38 [qv3 x0] fun y1 =>
 .bn y1 (.ret [qv3 (nilS,nilS,({ data:={ toList:=[]:Array UInt8 }:ByteArray }),nilS,()),.int .i64 1]) <|
 .qc7 39 [.string x1] fun y2 =>
 .bn y2 (.ret [qv3 (nilS,nilS,({ data:={ toList:=[]:Array UInt8 }:ByteArray }),nilS,()),.int .i64 1]) <|
 .qc7 39 [.string x2] fun y3 =>
 .bn y3 (.ret [qv3 (nilS,nilS,({ data:={ toList:=[]:Array UInt8 }:ByteArray }),nilS,()),.int .i64 1]) <|
 .qc7 39 [.string x3] fun y4 =>
 .bn y4 (.ret [qv3 (nilS,nilS,({ data:={ toList:=[]:Array UInt8 }:ByteArray }),nilS,()),.int .i64 1]) <|
 .qc7 63 [qv2 x4] fun y5 =>
 .bn y5 (.ret [qv3 (nilS,nilS,({ data:={ toList:=[]:Array UInt8 }:ByteArray }),nilS,()),.int .i64 1]) <|
 .qc7 64 [qv4 x5] fun y6 =>
 .bn y6 (.ret [qv3 (nilS,nilS,({ data:={ toList:=[]:Array UInt8 }:ByteArray }),nilS,()),.int .i64 1]) <|
 .qc7 40 [.int .i64 x6] fun y7 =>
 .bn y7 (.ret [qv3 (nilS,nilS,({ data:={ toList:=[]:Array UInt8 }:ByteArray }),nilS,()),.int .i64 1]) <|
 .qc12 65 [qv2 x4,qv4 x5,.int .i64 x6] fun y8 =>
 .rg <|
 .qc2 67 [qv2 x4] fun y9 =>
 .es [.string x1,.string y9.1,.bool y9.2.1,Sc.val .l y9.2.2.1,.string x2,.string y8.1.1,.bool y8.1.2.1,Sc.val .l y8.1.2.2.1,.string x3,.string y8.2.1.1,.bool y8.2.1.2.1,Sc.val .l y8.2.1.2.2.1] 121 fun b10 =>
 .qc4 66 [qv3 x0,.slice (some { block:=b10,off:=(0:Nat):Addr }) ((3:Nat)) ((3:Nat))] fun y11 =>
 .ret [qv3 y11.1,.int .i64 y11.2.1]
theorem fS_DoTax x0 x1 x2 x3 x4 x5 x6:qft qa0 16 [qv3 x0,.string x1,.string x2,.string x3,qv2 x4,qv4 x5,.int .i64 x6] (tS_DoTax x0 x1 x2 x3 x4 x5 x6) :=fitK (by kernel_rfl)
def tL_toMoney (x0:qy2):T :=
 .qc13 68 [qv0 x0.2] fun y1 =>
 .ret [qv2 (x0.1,y1.1,y1.2.1,())]
theorem fL_toMoney x0:qft qa0 17 [qv2 x0] (tL_toMoney x0) :=fitK (by kernel_rfl)
def tL_toDec (x0:qy3):T :=
 .qc13 68 [qv0 (x0.1,x0.2.1,())] fun y1 =>
 .ret [qv4 (y1.1,y1.2.1,((x0.2.2.1):Int),())]
theorem fL_toDec x0:qft qa0 18 [qv4 x0] (tL_toDec x0) :=fitK (by kernel_rfl)
def tI_DoTax (x0:qy4) (x1:ByteArray) (x2:ByteArray) (x3:ByteArray) (x4:qy2) (x5:qy3) (x6:Int):T :=
 .qc4 52 [qv3 x0,.iface 125 (qv10 (x1,x2,x3,x4.1,x4.2.1,x4.2.2.1,x5.1,x5.2.1,((x5.2.2.1):Int),((x6):Int),()))] fun y1 =>
 .ret [qv3 y1.1,.int .i64 y1.2.1]
theorem fI_DoTax x0 x1 x2 x3 x4 x5 x6:qft qa0 19 [qv3 x0,.string x1,.string x2,.string x3,qv2 x4,qv4 x5,.int .i64 x6] (tI_DoTax x0 x1 x2 x3 x4 x5 x6) :=fitK (by kernel_rfl)
def tL_eqMoney (x0:qy2) (x1:qy2):T :=
 .br (!ByteArray.toList x0.1 == ByteArray.toList x1.1) (
  .rF) <|
 .qc7 69 [qv0 x0.2,qv0 x1.2] fun y1 =>
 .bF y1 <|
 .rT
theorem fL_eqMoney x0 x1:qft qa0 20 [qv2 x0,qv2 x1] (tL_eqMoney x0 x1) :=fitK (by kernel_rfl)
def tL_eqDec (x0:qy3) (x1:qy3):T :=
 .qc7 69 [qv0 (x0.1,x0.2.1,()),qv0 (x1.1,x1.2.1,())] fun y1 =>
 .bF y1 <|
 .br (x0.2.2.1 != x1.2.2.1) (
  .rF) <|
 .rT
theorem fL_eqDec x0 x1:qft qa0 21 [qv4 x0,qv4 x1] (tL_eqDec x0 x1) :=fitK (by kernel_rfl)
def tL_markMoney (x0:qy2) (x1:Int):T :=
 .qc0 70 [qv0 x0.2,.int .i64 x1] fun y1 =>
 .ret [.int .i64 y1]
theorem fL_markMoney x0 x1:qft qa0 22 [qv2 x0,.int .i64 x1] (tL_markMoney x0 x1) :=fitK (by kernel_rfl)
def tL_markDec (x0:qy3) (x1:Int):T :=
 .qc0 70 [qv0 (x0.1,x0.2.1,()),.int .i64 x1] fun y1 =>
 .ret [.int .i64 y1]
theorem fL_markDec x0 x1:qft qa0 23 [qv4 x0,.int .i64 x1] (tL_markDec x0 x1) :=fitK (by kernel_rfl)
def aL_toIntS:An:=⟨[(3,[.s 3,.s 4],[.a 3,.o (.o (.i .i64))])],[],[]⟩
def tL_toIntS (x0:SlV):T :=
 .rq ((0:Int)≤(↑x0.n:Int)∧(↑x0.n:Int)≤(↑x0.n:Int)∧(↑(8:Nat):Int)*(↑x0.n:Int)≤(281474976710656:Int)∧(↑x0.n:Int)≤(9223372036854775807:Int)) <|
 .lp [.a 3,.o (.o (.i .i64))] [.a 3 ((↑x0.n:Int).toNat) ((madeCells { toList:=[Value.int IntKind.i64 (0:Int)]:Array Value } ((↑x0.n:Int).toNat*(1:Nat))).toList),.v (.int .i64 0)] fun y1 =>
 .br (decide (y1.2.1<(↑x0.n:Int))) (
  .el x0.1 (x0.n) y1.2.1 fun y2 =>
  .ql14 (y2.add (Int.toNat y1.2.1*(1:Nat))) fun y3 =>
  .rq ((0:Int)≤y1.2.1∧y1.2.1<(↑y1.1.1:Int)) <|
 .rq (Int.toNat y1.2.1*(1:Nat)+[(Sh1.o (Sc.i IntKind.i64)).val y3].length≤y1.1.2.length) <|
 .nx 0 [.a 3 y1.1.1 (setl y1.1.2 (Int.toNat y1.2.1*(1:Nat)) [(Sh1.o (Sc.i IntKind.i64)).val y3]),.v (.int .i64 (IntKind.i64.wrap (y1.2.1+(1:Int))))]) <|
 .fz y1.1.1 y1.1.2 3 fun b2 c2 =>
 .ret [.slice (some { block:=b2,off:=(0:Nat):Addr }) y1.1.1 (c2)]
theorem fL_toIntS x0:qft aL_toIntS 27 [Sc.val .l x0] (tL_toIntS x0) :=fitK (by kernel_rfl)
def aL_eqIntS:An:=⟨[(4,[.s 5],[.o (.o (.i .i64))])],[],[]⟩
def tL_eqIntS (x0:SlV) (x1:SlV):T :=
 .br ((↑x0.n:Int) != (↑x1.n:Int)) (
  .rF) <|
 .lp [.o (.o (.i .i64))] [.v (.int .i64 0)] fun y1 =>
 .br (decide (y1.1<(↑x0.n:Int))) (
  .rg <|
 .el x0.1 (x0.n) y1.1 fun y2 =>
  .ql15 (y2.add (Int.toNat y1.1*(1:Nat))) fun y3 =>
  .el x1.1 (x1.n) y1.1 fun y4 =>
  .ql15 (y4.add (Int.toNat y1.1*(1:Nat))) fun y5 =>
  .br (y3 != y5) (
   .rF) <|
 .nx 0 [.v (.int .i64 (IntKind.i64.wrap (y1.1+(1:Int))))]) <|
 .rT
theorem fL_eqIntS x0 x1:qft aL_eqIntS 30 [Sc.val .l x0,Sc.val .l x1] (tL_eqIntS x0 x1) :=fitK (by kernel_rfl)
def aL_markIntS:An:=⟨[(2,[.s 1,.s 5],[.o (.o (.i .i64)),.o (.o (.i .i64))])],[],[]⟩
def tL_markIntS (x0:SlV) (x1:Int):T :=
 .lp [.o (.o (.i .i64)),.o (.o (.i .i64))] [.v (.int .i64 x1),.v (.int .i64 0)] fun y1 =>
 .br (decide (y1.2.1<(↑x0.n:Int))) (
  .el x0.1 (x0.n) y1.2.1 fun y2 =>
  .st (y2.add (Int.toNat y1.2.1*(1:Nat))) [.int .i64 y1.1] <|
 .nx 0 [.v (.int .i64 (IntKind.i64.wrap (y1.1+(1:Int)))),.v (.int .i64 (IntKind.i64.wrap (y1.2.1+(1:Int))))]) <|
 .ret [.int .i64 y1.1]
theorem fL_markIntS x0 x1:qft aL_markIntS 32 [Sc.val .l x0,.int .i64 x1] (tL_markIntS x0 x1) :=fitK (by kernel_rfl)
def tL_szBook (x0:qy5) (x1:Int):T :=
 .qc0 76 [Sc.val .l x0.1,.int .i64 x1] fun y1 =>
 .br (decide (y1<(0:Int))) (
  .rM) <|
 .ret [.int .i64 y1]
theorem fL_szBook x0 x1:qft qa0 35 [qv5 x0,.int .i64 x1] (tL_szBook x0 x1) :=fitK (by kernel_rfl)
def aL_szRestS:An:=⟨[(5,[.s 1,.s 5],[.o (.o (.i .i64)),.o (.o (.i .i64))])],[],[]⟩
def tL_szRestS (x0:SlV) (x1:Int):T :=
 .br (decide (IntKind.i64.wrap (x1-(↑x0.n:Int))<(0:Int))) (
  .rM) <|
 .lp [.o (.o (.i .i64)),.o (.o (.i .i64))] [.v (.int .i64 (IntKind.i64.wrap (x1-(↑x0.n:Int)))),.v (.int .i64 0)] fun y1 =>
 .br (decide (y1.2.1<(↑x0.n:Int))) (
  .el x0.1 (x0.n) y1.2.1 fun y2 =>
  .ql16 (y2.add (Int.toNat y1.2.1*(4:Nat))) fun y3 =>
  .qc0 77 [qv9 y3,.int .i64 y1.1] fun y4 =>
  .br (decide (y4<(0:Int))) (
   .rM) <|
 .nx 0 [.v (.int .i64 y4),.v (.int .i64 (IntKind.i64.wrap (y1.2.1+(1:Int))))]) <|
 .ret [.int .i64 y1.1]
theorem fL_szRestS x0 x1:qft aL_szRestS 36 [Sc.val .l x0,.int .i64 x1] (tL_szRestS x0 x1) :=fitK (by kernel_rfl)
def tL_szRates (x0:qy6) (x1:Int):T :=
 .br (decide (IntKind.i64.wrap (x1-(↑(ByteArray.size x0.1):Int))<(0:Int))) (
  .rM) <|
 .qc0 78 [Sc.val .l x0.2.1,.int .i64 (IntKind.i64.wrap (x1-(↑(ByteArray.size x0.1):Int)))] fun y1 =>
 .br (decide (y1<(0:Int))) (
  .rM) <|
 .ret [.int .i64 y1]
theorem fL_szRates x0 x1:qft qa0 37 [qv6 x0,.int .i64 x1] (tL_szRates x0 x1) :=fitK (by kernel_rfl)
def tS_LedgerOk (x0:qy4):T :=
 .qc7 79 [qv5 (x0.1,())] fun y1 =>
 .br y1 (
  .qc7 80 [Sc.val .l x0.2.1] fun y2 =>
  .br y2 (
   .qc7 81 [qv6 x0.2.2] fun y3 =>
   .ret [.bool y3]) <|
 .rF) <|
 .rF
theorem fS_LedgerOk x0:qft qa0 38 [qv3 x0] (tS_LedgerOk x0) :=fitK (by kernel_rfl)
def tS_IsWord (x0:ByteArray):T :=
 .qc7 82 [.string x0,.int .u8 ((97:Int)),.int .u8 ((122:Int)),.int .u8 ((48:Int)),.int .u8 ((57:Int))] fun y1 =>
 .br y1 (
  .br (decide ((↑x0.size:Int)≤(12:Int))) (
   .rq ((0:Int)≤(0:Int)∧(0:Int)<(↑x0.size:Int)) <|
 .ret [.bool (decide (at0 x0 (Int.toNat (0:Int))≥(97:Int)))]) <|
 .rF) <|
 .rF
theorem fS_IsWord x0:qft qa0 39 [.string x0] (tS_IsWord x0) :=fitK (by kernel_rfl)
def tS_l06Mode (x0:Int):T :=
 .qc7 83 [.int .i64 x0,.int .i64 0,.int .i64 6] fun y1 =>
 .ret [.bool y1]
theorem fS_l06Mode x0:qft qa0 40 [.int .i64 x0] (tS_l06Mode x0) :=fitK (by kernel_rfl)
def aS_AcctAt:An:=⟨[(2,[.s 10],[.o (.o (.i .i64))])],[],[]⟩
def tS_AcctAt (x0:qy5) (x1:ByteArray):T :=
 .lp [.o (.o (.i .i64))] [.v (.int .i64 0)] fun y1 =>
 .br (decide (y1.1<(↑x0.1.n:Int))) (
  .el x0.1.1 (x0.1.n) y1.1 fun y2 =>
  .ql17 (y2.add (Int.toNat y1.1*(4:Nat))) fun y3 =>
  .br (ByteArray.toList y3.1 == x1.toList) (
   .ret [.int .i64 y1.1]) <|
 .nx 0 [.v (.int .i64 (IntKind.i64.wrap (y1.1+(1:Int))))]) <|
 .rM
theorem fS_AcctAt x0 x1:qft aS_AcctAt 41 [qv5 x0,.string x1] (tS_AcctAt x0 x1) :=fitK (by kernel_rfl)
def tS_l09Make (x0:ByteArray) (x1:qy0):T :=
 .qc7 90 [qv2 (x0,x1.1,x1.2.1,())] fun y1 =>
 .bn y1 (.ret [qv2 (({ data:={ toList:=[]:Array UInt8 }:ByteArray }),(false),nilS,()),.bool (false)]) <|
 .ret [qv2 (x0,x1.1,x1.2.1,()),.bool (true)]
theorem fS_l09Make x0 x1:qft qa0 44 [.string x0,qv0 x1] (tS_l09Make x0 x1) :=fitK (by kernel_rfl)
def tS_RatInt (x0:qy0):T :=
 .rg <|
 .qc18 86 [.int .i64 1] fun y1 =>
 .qc19 85 [qv0 x0,qv0 y1] fun y2 =>
 .ret [qv1 y2.1,.bool y2.2.1]
theorem fS_RatInt x0:qft qa0 45 [qv0 x0] (tS_RatInt x0) :=fitK (by kernel_rfl)
def tS_IntSub (x0:qy0) (x1:qy0):T :=
 .qc7 84 [qv0 x0] fun y1 =>
 .bn y1 (.ret [qv0 ((false),nilS,())]) <|
 .qc7 84 [qv0 x1] fun y2 =>
 .bn y2 (.ret [qv0 ((false),nilS,())]) <|
 .rg <|
 .qc18 92 [qv0 x1] fun y3 =>
 .qc13 91 [qv0 x0,qv0 y3] fun y4 =>
 .ret [qv0 y4]
theorem fS_IntSub x0 x1:qft qa0 46 [qv0 x0,qv0 x1] (tS_IntSub x0 x1) :=fitK (by kernel_rfl)
def tS_l20Copy (x0:qy4):T :=
 .rg <|
 .qc20 98 [qv5 (x0.1,())] fun y1 =>
 .qc21 96 [Sc.val .l x0.2.1] fun y2 =>
 .qc11 99 [qv6 x0.2.2] fun y3 =>
 .ret [qv3 (y1.1,y2,y3.1,y3.2.1,())]
theorem fS_l20Copy x0:qft qa0 48 [qv3 x0] (tS_l20Copy x0) :=fitK (by kernel_rfl)
def tL_toBook (x0:qy5):T :=
 .qc10 100 [Sc.val .l x0.1] fun y1 =>
 .ret [qv5 (y1,())]
theorem fL_toBook x0:qft qa0 49 [qv5 x0] (tL_toBook x0) :=fitK (by kernel_rfl)
def aL_toRestS:An:=⟨[(3,[.s 3,.s 4],[.a 164,.o (.o (.i .i64))])],[],[]⟩
def tL_toRestS (x0:SlV):T :=
 .rq ((0:Int)≤(↑x0.n:Int)∧(↑x0.n:Int)≤(↑x0.n:Int)∧(↑(72:Nat):Int)*(↑x0.n:Int)≤(281474976710656:Int)∧(↑x0.n:Int)≤(9223372036854775807:Int)) <|
 .lp [.a 164,.o (.o (.i .i64))] [.a 164 ((↑x0.n:Int).toNat) ((madeCells { toList:=[Value.string { data:={ toList:=[]:Array UInt8 }:ByteArray },Value.bool false,Value.slice none (0:Nat) (0:Nat),Value.slice none (0:Nat) (0:Nat)]:Array Value } ((↑x0.n:Int).toNat*(4:Nat))).toList),.v (.int .i64 0)] fun y1 =>
 .br (decide (y1.2.1<(↑x0.n:Int))) (
  .el x0.1 (x0.n) y1.2.1 fun y2 =>
  .ql16 (y2.add (Int.toNat y1.2.1*(4:Nat))) fun y3 =>
  .qc22 101 [qv9 y3] fun y4 =>
  .rq ((0:Int)≤y1.2.1∧y1.2.1<(↑y1.1.1:Int)) <|
 .rq (Int.toNat y1.2.1*(4:Nat)+[Value.string y4.1,Value.bool y4.2.1,Value.slice y4.2.2.1.1 y4.2.2.1.n y4.2.2.1.c,Value.slice y4.2.2.2.1.1 y4.2.2.2.1.n y4.2.2.2.1.c].length≤y1.1.2.length) <|
 .nx 0 [.a 164 y1.1.1 (setl y1.1.2 (Int.toNat y1.2.1*(4:Nat)) [Value.string y4.1,Value.bool y4.2.1,Value.slice y4.2.2.1.1 y4.2.2.1.n y4.2.2.1.c,Value.slice y4.2.2.2.1.1 y4.2.2.2.1.n y4.2.2.2.1.c]),.v (.int .i64 (IntKind.i64.wrap (y1.2.1+(1:Int))))]) <|
 .fz y1.1.1 y1.1.2 164 fun b2 c2 =>
 .ret [.slice (some { block:=b2,off:=(0:Nat):Addr }) y1.1.1 (c2)]
theorem fL_toRestS x0:qft aL_toRestS 50 [Sc.val .l x0] (tL_toRestS x0) :=fitK (by kernel_rfl)
def tL_toRates (x0:qy6):T :=
 .qc10 102 [Sc.val .l x0.2.1] fun y1 =>
 .ret [qv6 (x0.1,y1,())]
theorem fL_toRates x0:qft qa0 51 [qv6 x0] (tL_toRates x0) :=fitK (by kernel_rfl)
def tI_perform_opTax (x0:qy4) (x1:ByteArray × ByteArray × ByteArray × ByteArray × Bool × SlV × Bool × SlV × Int × Int × PUnit):T :=
 .qc7 103 [qv3 x0] fun y1 =>
 .bn y1 (.ret [qv3 (nilS,nilS,({ data:={ toList:=[]:Array UInt8 }:ByteArray }),nilS,()),.int .i64 1]) <|
 .rg <|
 .qc5 104 [qv3 x0] fun y2 =>
 .qc4 298 [qv10 x1,qv3 y2] fun y3 =>
 .br (y3.2.1 != (0:Int)) (
  .ret [qv3 (nilS,nilS,({ data:={ toList:=[]:Array UInt8 }:ByteArray }),nilS,()),.int .i64 y3.2.1]) <|
 .ret [qv3 y3.1,.int .i64 0]
theorem fI_perform_opTax x0 x1:qft qa0 52 [qv3 x0,.iface 125 (qv10 x1)] (tI_perform_opTax x0 x1) :=fitK (by kernel_rfl)
def tL_eqBook (x0:qy5) (x1:qy5):T :=
 .qc7 105 [Sc.val .l x0.1,Sc.val .l x1.1] fun y1 =>
 .bF y1 <|
 .rT
theorem fL_eqBook x0 x1:qft qa0 53 [qv5 x0,qv5 x1] (tL_eqBook x0 x1) :=fitK (by kernel_rfl)
def aL_eqRestS:An:=⟨[(4,[.s 5],[.o (.o (.i .i64))])],[],[]⟩
def tL_eqRestS (x0:SlV) (x1:SlV):T :=
 .br ((↑x0.n:Int) != (↑x1.n:Int)) (
  .rF) <|
 .lp [.o (.o (.i .i64))] [.v (.int .i64 0)] fun y1 =>
 .br (decide (y1.1<(↑x0.n:Int))) (
  .rg <|
 .el x0.1 (x0.n) y1.1 fun y2 =>
  .ql23 (y2.add (Int.toNat y1.1*(4:Nat))) fun y3 =>
  .el x1.1 (x1.n) y1.1 fun y4 =>
  .ql23 (y4.add (Int.toNat y1.1*(4:Nat))) fun y5 =>
  .qc7 106 [qv9 y3,qv9 y5] fun y6 =>
  .bF y6 <|
 .nx 0 [.v (.int .i64 (IntKind.i64.wrap (y1.1+(1:Int))))]) <|
 .rT
theorem fL_eqRestS x0 x1:qft aL_eqRestS 54 [Sc.val .l x0,Sc.val .l x1] (tL_eqRestS x0 x1) :=fitK (by kernel_rfl)
def tL_eqRates (x0:qy6) (x1:qy6):T :=
 .br (!ByteArray.toList x0.1 == ByteArray.toList x1.1) (
  .rF) <|
 .qc7 107 [Sc.val .l x0.2.1,Sc.val .l x1.2.1] fun y1 =>
 .bF y1 <|
 .rT
theorem fL_eqRates x0 x1:qft qa0 55 [qv6 x0,qv6 x1] (tL_eqRates x0 x1) :=fitK (by kernel_rfl)
def tL_markBook (x0:qy5) (x1:Int):T :=
 .qc0 108 [Sc.val .l x0.1,.int .i64 x1] fun y1 =>
 .ret [.int .i64 y1]
theorem fL_markBook x0 x1:qft qa0 56 [qv5 x0,.int .i64 x1] (tL_markBook x0 x1) :=fitK (by kernel_rfl)
def aL_markRestS:An:=⟨[(2,[.s 1,.s 5],[.o (.o (.i .i64)),.o (.o (.i .i64))])],[],[]⟩
def tL_markRestS (x0:SlV) (x1:Int):T :=
 .lp [.o (.o (.i .i64)),.o (.o (.i .i64))] [.v (.int .i64 x1),.v (.int .i64 0)] fun y1 =>
 .br (decide (y1.2.1<(↑x0.n:Int))) (
  .qc24 74 [.int .i64 y1.1] fun y2 =>
  .el x0.1 (x0.n) y1.2.1 fun y3 =>
  .st ((y3.add (Int.toNat y1.2.1*(4:Nat))).add (0:Nat)) [.string y2] <|
 .rq ((3:Int)≠(0:Int)) <|
 .el x0.1 (x0.n) y1.2.1 fun y4 =>
  .st ((((y4.add (Int.toNat y1.2.1*(4:Nat))).add (1:Nat)).add (0:Nat)).add (0:Nat)) [.bool ((IntKind.i64.wrap (y1.1+(1:Int))).tmod (3:Int) == (0:Int))] <|
 .el x0.1 (x0.n) y1.2.1 fun y5 =>
  .ql25 ((((y5.add (Int.toNat y1.2.1*(4:Nat))).add (1:Nat)).add (0:Nat)).add (1:Nat)) fun y6 =>
  .qc0 32 [Sc.val .l y6,.int .i64 (IntKind.i64.wrap (IntKind.i64.wrap (y1.1+(1:Int))+(1:Int)))] fun y7 =>
  .el x0.1 (x0.n) y1.2.1 fun y8 =>
  .ql25 (((y8.add (Int.toNat y1.2.1*(4:Nat))).add (1:Nat)).add (2:Nat)) fun y9 =>
  .qc0 32 [Sc.val .l y9,.int .i64 y7] fun y10 =>
  .nx 0 [.v (.int .i64 y10),.v (.int .i64 (IntKind.i64.wrap (y1.2.1+(1:Int))))]) <|
 .ret [.int .i64 y1.1]
theorem fL_markRestS x0 x1:qft aL_markRestS 57 [Sc.val .l x0,.int .i64 x1] (tL_markRestS x0 x1) :=fitK (by kernel_rfl)
def tL_markRates (x0:qy6) (x1:Int):T :=
 .qc0 109 [Sc.val .l x0.2.1,.int .i64 x1] fun y1 =>
 .ret [.int .i64 y1]
theorem fL_markRates x0 x1:qft qa0 58 [qv6 x0,.int .i64 x1] (tL_markRates x0 x1) :=fitK (by kernel_rfl)
def tL_heldBook (x0:qy5) (x1:Int):T :=
 .qc0 110 [Sc.val .l x0.1,.int .i64 x1] fun y1 =>
 .br (decide (y1<(0:Int))) (
  .rM) <|
 .ret [.int .i64 y1]
theorem fL_heldBook x0 x1:qft qa0 59 [qv5 x0,.int .i64 x1] (tL_heldBook x0 x1) :=fitK (by kernel_rfl)
def aL_heldRestS:An:=⟨[(2,[.s 1,.s 5],[.o (.o (.i .i64)),.o (.o (.i .i64))])],[],[]⟩
def tL_heldRestS (x0:SlV) (x1:Int):T :=
 .lp [.o (.o (.i .i64)),.o (.o (.i .i64))] [.v (.int .i64 x1),.v (.int .i64 0)] fun y1 =>
 .br (decide (y1.2.1<(↑x0.n:Int))) (
  .rg <|
 .el x0.1 (x0.n) y1.2.1 fun y2 =>
  .ql26 ((y2.add (Int.toNat y1.2.1*(4:Nat))).add (0:Nat)) fun y3 =>
  .qc27 74 [.int .i64 y1.1] fun y4 =>
  .br (!y3.toList == y4.toList) (
   .rM) <|
 .el x0.1 (x0.n) y1.2.1 fun y5 =>
  .ql28 ((((y5.add (Int.toNat y1.2.1*(4:Nat))).add (1:Nat)).add (0:Nat)).add (0:Nat)) fun y6 =>
  .rq ((3:Int)≠(0:Int)) <|
 .br (!y6 == ((IntKind.i64.wrap (y1.1+(1:Int))).tmod (3:Int) == (0:Int))) (
   .rM) <|
 .el x0.1 (x0.n) y1.2.1 fun y7 =>
  .ql25 ((((y7.add (Int.toNat y1.2.1*(4:Nat))).add (1:Nat)).add (0:Nat)).add (1:Nat)) fun y8 =>
  .qc0 111 [Sc.val .l y8,.int .i64 (IntKind.i64.wrap (IntKind.i64.wrap (y1.1+(1:Int))+(1:Int)))] fun y9 =>
  .br (decide (y9<(0:Int))) (
   .rM) <|
 .el x0.1 (x0.n) y1.2.1 fun y10 =>
  .ql25 (((y10.add (Int.toNat y1.2.1*(4:Nat))).add (1:Nat)).add (2:Nat)) fun y11 =>
  .qc0 111 [Sc.val .l y11,.int .i64 y9] fun y12 =>
  .br (decide (y12<(0:Int))) (
   .rM) <|
 .nx 0 [.v (.int .i64 y12),.v (.int .i64 (IntKind.i64.wrap (y1.2.1+(1:Int))))]) <|
 .ret [.int .i64 y1.1]
theorem fL_heldRestS x0 x1:qft aL_heldRestS 60 [Sc.val .l x0,.int .i64 x1] (tL_heldRestS x0 x1) :=fitK (by kernel_rfl)
def tL_heldRates (x0:qy6) (x1:Int):T :=
 .qc0 112 [Sc.val .l x0.2.1,.int .i64 x1] fun y1 =>
 .br (decide (y1<(0:Int))) (
  .rM) <|
 .ret [.int .i64 y1]
theorem fL_heldRates x0 x1:qft qa0 61 [qv6 x0,.int .i64 x1] (tL_heldRates x0 x1) :=fitK (by kernel_rfl)
def tL_szSigned (x0:qy0) (x1:Int):T :=
 .qc0 113 [Sc.val .l x0.2.1,.int .i64 x1] fun y1 =>
 .br (decide (y1<(0:Int))) (
  .rM) <|
 .ret [.int .i64 y1]
theorem fL_szSigned x0 x1:qft qa0 62 [qv0 x0,.int .i64 x1] (tL_szSigned x0 x1) :=fitK (by kernel_rfl)
def tS_l21Money (x0:qy2):T :=
 .qc7 90 [qv2 x0] fun y1 =>
 .br y1 (
  .ret [.bool (!x0.2.1)]) <|
 .rF
theorem fS_l21Money x0:qft qa0 63 [qv2 x0] (tS_l21Money x0) :=fitK (by kernel_rfl)
def tS_TaxRateOk (x0:qy3):T :=
 .rg <|
 .qc29 114 [qv4 x0] fun y1 =>
 .br y1 (
  .br (!x0.1) (
   .br (decide ((↑x0.2.1.n:Int)≤(1:Int))) (
    .qc18 86 [.int .i64 1] fun y2 =>
    .qc0 115 [qv4 x0,qv4 (y2.1,y2.2.1,(((0:Int)):Int),())] fun y3 =>
    .ret [.bool (decide (y3≤(0:Int)))]) <|
 .rF) <|
 .rF) <|
 .rF
theorem fS_TaxRateOk x0:qft qa0 64 [qv4 x0] (tS_TaxRateOk x0) :=fitK (by kernel_rfl)
def tS_TaxIn (x0:qy2) (x1:qy3) (x2:Int):T :=
 .qc7 90 [qv2 x0] fun y1 =>
 .bn y1 (.ret [qv2 (({ data:={ toList:=[]:Array UInt8 }:ByteArray }),(false),nilS,()),qv2 (({ data:={ toList:=[]:Array UInt8 }:ByteArray }),(false),nilS,()),qv1 ((false),nilS,nilS,()),.bool (false)]) <|
 .qc7 64 [qv4 x1] fun y2 =>
 .bn y2 (.ret [qv2 (({ data:={ toList:=[]:Array UInt8 }:ByteArray }),(false),nilS,()),qv2 (({ data:={ toList:=[]:Array UInt8 }:ByteArray }),(false),nilS,()),qv1 ((false),nilS,nilS,()),.bool (false)]) <|
 .qc13 86 [.int .i64 1] fun y3 =>
 .qc19 45 [qv0 y3] fun y4 =>
 .rg <|
 .qc30 116 [qv4 x1] fun y5 =>
 .qc19 93 [qv1 y4.1,qv1 y5] fun y6 =>
 .rg <|
 .qc30 118 [qv2 x0] fun y7 =>
 .qc19 117 [qv1 y7,qv1 y6.1] fun y8 =>
 .qc31 119 [.string x0.1,qv1 y8.1,.int .i64 x2] fun y9 =>
 .qc32 120 [qv2 x0,qv2 y9.1] fun y10 =>
 .bn y9.2.2.1 (.ret [qv2 (({ data:={ toList:=[]:Array UInt8 }:ByteArray }),(false),nilS,()),qv2 (({ data:={ toList:=[]:Array UInt8 }:ByteArray }),(false),nilS,()),qv1 ((false),nilS,nilS,()),.bool (false)]) <|
 .bn y10.2.1 (.ret [qv2 (({ data:={ toList:=[]:Array UInt8 }:ByteArray }),(false),nilS,()),qv2 (({ data:={ toList:=[]:Array UInt8 }:ByteArray }),(false),nilS,()),qv1 ((false),nilS,nilS,()),.bool (false)]) <|
 .rg <|
 .ret [qv2 y9.1,qv2 y10.1,qv1 y9.2.1,.bool (true)]
theorem fS_TaxIn x0 x1 x2:qft qa0 65 [qv2 x0,qv4 x1,.int .i64 x2] (tS_TaxIn x0 x1 x2) :=fitK (by kernel_rfl)
def aS_l21Legs:An:=⟨[(2,[.s 17,.c 4 0,.c 4 1,.c 4 2,.c 4 3],[.o (.o (.i .i64)),.o (.o (.l)),.o (.o (.l)),.o (.o (.s)),.o (.o (.l))]),(8,[.s 31,.c 4 0,.c 4 1,.c 4 2,.c 4 3],[.o (.o (.i .i64)),.o (.o (.l)),.o (.o (.l)),.o (.o (.s)),.o (.o (.l))]),(15,[.s 57,.c 4 0,.c 4 1,.c 4 2,.c 4 3,.c 10 0,.c 10 1,.c 10 2,.c 10 3],[.o (.o (.i .i64)),.o (.o (.l)),.o (.o (.l)),.o (.o (.s)),.o (.o (.l)),.o (.o (.l)),.o (.o (.l)),.o (.o (.s)),.o (.o (.l))])],[],[]⟩
def tS_l21Legs (x0:qy4) (x1:SlV):T :=
 .lp [.o (.o (.i .i64)),.o (.o (.l)),.o (.o (.l)),.o (.o (.s)),.o (.o (.l))] [.v (.int .i64 0),.v (.slice none 0 0),.v (.slice none 0 0),.v (.string ({ data:={ toList:=[]:Array UInt8 }:ByteArray })),.v (.slice none 0 0)] fun y1 =>
 .br (decide (y1.1<(↑x1.n:Int))) (
  .el x1.1 (x1.n) y1.1 fun y2 =>
  .ql17 (y2.add (Int.toNat y1.1*(4:Nat))) fun y3 =>
  .qc0 41 [qv5 (x0.1,()),.string y3.1] fun y4 =>
  .br (decide (y4<(0:Int))) (
   .ret [qv3 (nilS,nilS,({ data:={ toList:=[]:Array UInt8 }:ByteArray }),nilS,()),.int .i64 3]) <|
 .nx 0 [.v (.int .i64 (IntKind.i64.wrap (y1.1+(1:Int)))),.v (Sc.val .l y1.2.1),.v (Sc.val .l y1.2.2.1),.v (.string y1.2.2.2.1),.v (Sc.val .l y1.2.2.2.2.1)]) <|
 .lp [.o (.o (.i .i64)),.o (.o (.l)),.o (.o (.l)),.o (.o (.s)),.o (.o (.l))] [.v (.int .i64 0),.v (Sc.val .l y1.2.1),.v (Sc.val .l y1.2.2.1),.v (.string y1.2.2.2.1),.v (Sc.val .l y1.2.2.2.2.1)] fun y2 =>
 .br (decide (y2.1<(↑x1.n:Int))) (
  .el x1.1 (x1.n) y2.1 fun y3 =>
  .ql17 (y3.add (Int.toNat y2.1*(4:Nat))) fun y4 =>
  .rg <|
 .qc33 41 [qv5 (x0.1,()),.string y4.1] fun y5 =>
  .el x0.1.1 (x0.1.n) y5 fun y6 =>
  .ql26 (((y6.add (y5.toNat*(4:Nat))).add (1:Nat)).add (0:Nat)) fun y7 =>
  .br (!y7.toList == ByteArray.toList y4.2.1) (
   .ret [qv3 (nilS,nilS,({ data:={ toList:=[]:Array UInt8 }:ByteArray }),nilS,()),.int .i64 5]) <|
 .nx 1 [.v (.int .i64 (IntKind.i64.wrap (y2.1+(1:Int)))),.v (Sc.val .l y2.2.1),.v (Sc.val .l y2.2.2.1),.v (.string y2.2.2.2.1),.v (Sc.val .l y2.2.2.2.2.1)]) <|
 .qc5 48 [qv3 x0] fun y3 =>
 .lp [.o (.o (.i .i64)),.o (.o (.l)),.o (.o (.l)),.o (.o (.s)),.o (.o (.l)),.o (.o (.l)),.o (.o (.l)),.o (.o (.s)),.o (.o (.l))] [.v (.int .i64 0),.v (Sc.val .l y2.2.1),.v (Sc.val .l y2.2.2.1),.v (.string y2.2.2.2.1),.v (Sc.val .l y2.2.2.2.2.1),.v (Sc.val .l y3.1),.v (Sc.val .l y3.2.1),.v (.string y3.2.2.1),.v (Sc.val .l y3.2.2.2.1)] fun y4 =>
 .br (decide (y4.1<(↑x1.n:Int))) (
  .el x1.1 (x1.n) y4.1 fun y5 =>
  .ql17 (y5.add (Int.toNat y4.1*(4:Nat))) fun y6 =>
  .qc34 121 [qv5 (y4.2.2.2.2.2.1,()),.string y6.1,qv2 y6.2] fun y7 =>
  .bn y7.2.1 (.ret [qv3 (nilS,nilS,({ data:={ toList:=[]:Array UInt8 }:ByteArray }),nilS,()),.int .i64 8]) <|
 .nx 2 [.v (.int .i64 (IntKind.i64.wrap (y4.1+(1:Int)))),.v (Sc.val .l y4.2.1),.v (Sc.val .l y4.2.2.1),.v (.string y4.2.2.2.1),.v (Sc.val .l y4.2.2.2.2.1),.v (Sc.val .l y7.1.1),.v (Sc.val .l y4.2.2.2.2.2.2.1),.v (.string y4.2.2.2.2.2.2.2.1),.v (Sc.val .l y4.2.2.2.2.2.2.2.2.1)]) <|
 .ret [qv3 y4.2.2.2.2.2,.int .i64 0]
theorem fS_l21Legs x0 x1:qft aS_l21Legs 66 [qv3 x0,Sc.val .l x1] (tS_l21Legs x0 x1) :=fitK (by kernel_rfl)
def tS_l21Less (x0:qy2):T :=
 .rg <|
 .qc18 92 [qv0 x0.2] fun y1 =>
 .ret [qv2 (x0.1,y1.1,y1.2.1,())]
theorem fS_l21Less x0:qft qa0 67 [qv2 x0] (tS_l21Less x0) :=fitK (by kernel_rfl)
def tL_toSigned (x0:qy0):T :=
 .qc10 27 [Sc.val .l x0.2.1] fun y1 =>
 .ret [qv0 (x0.1,y1,())]
theorem fL_toSigned x0:qft qa0 68 [qv0 x0] (tL_toSigned x0) :=fitK (by kernel_rfl)
def tL_eqSigned (x0:qy0) (x1:qy0):T :=
 .br (!x0.1 == x1.1) (
  .rF) <|
 .qc7 30 [Sc.val .l x0.2.1,Sc.val .l x1.2.1] fun y1 =>
 .bF y1 <|
 .rT
theorem fL_eqSigned x0 x1:qft qa0 69 [qv0 x0,qv0 x1] (tL_eqSigned x0 x1) :=fitK (by kernel_rfl)
def tL_markSigned (x0:qy0) (x1:Int):T :=
 .qc0 32 [Sc.val .l x0.2.1,.int .i64 x1] fun y1 =>
 .ret [.int .i64 y1]
theorem fL_markSigned x0 x1:qft qa0 70 [qv0 x0,.int .i64 x1] (tL_markSigned x0 x1) :=fitK (by kernel_rfl)
def aL_markText:An:=⟨[(4,[.s 0,.s 3],[.o (.o (.i .i64)),.o (.o (.s))])],[],[]⟩
def tL_markText (x0:Int):T :=
 .br (decide (x0≤(0:Int))) (
  .ret [.string ({ data:={ toList:=[(109:UInt8),(48:UInt8)]:Array UInt8 }:ByteArray })]) <|
 .lp [.o (.o (.i .i64)),.o (.o (.s))] [.v (.int .i64 x0),.v (.string ({ data:={ toList:=[]:Array UInt8 }:ByteArray }))] fun y1 =>
 .br (decide (y1.1 > (0:Int))) (
  .rq ((10:Int)≠(0:Int)) <|
 .fz ((1:Nat)) [.int .u8 (IntKind.u8.wrap (IntKind.i64.wrap ((48:Int)+Int.tmod y1.1 (10:Int))))] 5 fun b2 c2 =>
  .rd ({ a:=some { block:=b2,off:=(0:Nat):Addr },n:=(1:Nat),c:=c2:SlV }) ((1:Nat)) fun y3 =>
  .rq (bytesOf y3≠none) <|
 .rq ((bytesD y3).size+ByteArray.size y1.2.1≤(9223372036854775807:Nat)) <|
 .rq ((10:Int)≠(0:Int)) <|
 .nx 0 [.v (.int .i64 (IntKind.i64.wrap (Int.tdiv y1.1 (10:Int)))),.v (.string (bytesD y3++y1.2.1))]) <|
 .rq ({ data:={ toList:=[(109:UInt8)]:Array UInt8 }:ByteArray }.size+ByteArray.size y1.2.1≤(9223372036854775807:Nat)) <|
 .ret [.string ({ data:={ toList:=[(109:UInt8)]:Array UInt8 }:ByteArray }++y1.2.1)]
theorem fL_markText x0:qft aL_markText 74 [.int .i64 x0] (tL_markText x0) :=fitK (by kernel_rfl)
def aL_szAcctS:An:=⟨[(5,[.s 1,.s 5],[.o (.o (.i .i64)),.o (.o (.i .i64))])],[],[]⟩
def tL_szAcctS (x0:SlV) (x1:Int):T :=
 .br (decide (IntKind.i64.wrap (x1-(↑x0.n:Int))<(0:Int))) (
  .rM) <|
 .lp [.o (.o (.i .i64)),.o (.o (.i .i64))] [.v (.int .i64 (IntKind.i64.wrap (x1-(↑x0.n:Int)))),.v (.int .i64 0)] fun y1 =>
 .br (decide (y1.2.1<(↑x0.n:Int))) (
  .el x0.1 (x0.n) y1.2.1 fun y2 =>
  .ql17 (y2.add (Int.toNat y1.2.1*(4:Nat))) fun y3 =>
  .qc0 127 [qv8 y3,.int .i64 y1.1] fun y4 =>
  .br (decide (y4<(0:Int))) (
   .rM) <|
 .nx 0 [.v (.int .i64 y4),.v (.int .i64 (IntKind.i64.wrap (y1.2.1+(1:Int))))]) <|
 .ret [.int .i64 y1.1]
theorem fL_szAcctS x0 x1:qft aL_szAcctS 76 [Sc.val .l x0,.int .i64 x1] (tL_szAcctS x0 x1) :=fitK (by kernel_rfl)
def tL_szRest (x0:qy9) (x1:Int):T :=
 .br (decide (IntKind.i64.wrap (x1-(↑(ByteArray.size x0.1):Int))<(0:Int))) (
  .rM) <|
 .qc0 128 [qv1 x0.2,.int .i64 (IntKind.i64.wrap (x1-(↑(ByteArray.size x0.1):Int)))] fun y1 =>
 .br (decide (y1<(0:Int))) (
  .rM) <|
 .ret [.int .i64 y1]
theorem fL_szRest x0 x1:qft qa0 77 [qv9 x0,.int .i64 x1] (tL_szRest x0 x1) :=fitK (by kernel_rfl)
def aL_szRateS:An:=⟨[(5,[.s 1,.s 5],[.o (.o (.i .i64)),.o (.o (.i .i64))])],[],[]⟩
def tL_szRateS (x0:SlV) (x1:Int):T :=
 .br (decide (IntKind.i64.wrap (x1-(↑x0.n:Int))<(0:Int))) (
  .rM) <|
 .lp [.o (.o (.i .i64)),.o (.o (.i .i64))] [.v (.int .i64 (IntKind.i64.wrap (x1-(↑x0.n:Int)))),.v (.int .i64 0)] fun y1 =>
 .br (decide (y1.2.1<(↑x0.n:Int))) (
  .el x0.1 (x0.n) y1.2.1 fun y2 =>
  .ql35 (y2.add (Int.toNat y1.2.1*(5:Nat))) fun y3 =>
  .qc0 129 [qv7 y3,.int .i64 y1.1] fun y4 =>
  .br (decide (y4<(0:Int))) (
   .rM) <|
 .nx 0 [.v (.int .i64 y4),.v (.int .i64 (IntKind.i64.wrap (y1.2.1+(1:Int))))]) <|
 .ret [.int .i64 y1.1]
theorem fL_szRateS x0 x1:qft aL_szRateS 78 [Sc.val .l x0,.int .i64 x1] (tL_szRateS x0 x1) :=fitK (by kernel_rfl)
def aS_BookOk:An:=⟨[(2,[.s 8],[.o (.o (.i .i64))])],[],[]⟩
def tS_BookOk (x0:qy5):T :=
 .lp [.o (.o (.i .i64))] [.v (.int .i64 0)] fun y1 =>
 .br (decide (y1.1<(↑x0.1.n:Int))) (
  .el x0.1.1 (x0.1.n) y1.1 fun y2 =>
  .ql17 (y2.add (Int.toNat y1.1*(4:Nat))) fun y3 =>
  .rg <|
 .qc29 39 [.string y3.1] fun y4 =>
  .bF y4 <|
 .qc29 90 [qv2 y3.2] fun y5 =>
  .bF y5 <|
 .br (decide (y1.1 > (0:Int))) (
   .el x0.1.1 (x0.1.n) (IntKind.i64.wrap (y1.1-(1:Int))) fun y6 =>
   .ql26 ((y6.add ((IntKind.i64.wrap (y1.1-(1:Int))).toNat*(4:Nat))).add (0:Nat)) fun y7 =>
   .br (!Op.bytesLess y7.toList (ByteArray.toList y3.1)) (
    .rF) <|
 .nx 0 [.v (.int .i64 (IntKind.i64.wrap (y1.1+(1:Int))))]) <|
 .nx 0 [.v (.int .i64 (IntKind.i64.wrap (y1.1+(1:Int))))]) <|
 .ret [.bool (decide ((↑x0.1.n:Int)≤(12:Int)))]
theorem fS_BookOk x0:qft aS_BookOk 79 [qv5 x0] (tS_BookOk x0) :=fitK (by kernel_rfl)
def aS_RestsOk:An:=⟨[(2,[.s 7],[.o (.o (.i .i64))])],[],[]⟩
def tS_RestsOk (x0:SlV):T :=
 .lp [.o (.o (.i .i64))] [.v (.int .i64 0)] fun y1 =>
 .br (decide (y1.1<(↑x0.n:Int))) (
  .el x0.1 (x0.n) y1.1 fun y2 =>
  .ql16 (y2.add (Int.toNat y1.1*(4:Nat))) fun y3 =>
  .rg <|
 .qc29 95 [.string y3.1] fun y4 =>
  .bF y4 <|
 .qc29 130 [qv1 y3.2] fun y5 =>
  .bF y5 <|
 .qc33 97 [qv1 y3.2] fun y6 =>
  .br (y6 == (0:Int)) (
   .rF) <|
 .br (decide (y1.1 > (0:Int))) (
   .el x0.1 (x0.n) (IntKind.i64.wrap (y1.1-(1:Int))) fun y7 =>
   .ql26 ((y7.add ((IntKind.i64.wrap (y1.1-(1:Int))).toNat*(4:Nat))).add (0:Nat)) fun y8 =>
   .br (!Op.bytesLess y8.toList (ByteArray.toList y3.1)) (
    .rF) <|
 .nx 0 [.v (.int .i64 (IntKind.i64.wrap (y1.1+(1:Int))))]) <|
 .nx 0 [.v (.int .i64 (IntKind.i64.wrap (y1.1+(1:Int))))]) <|
 .rT
theorem fS_RestsOk x0:qft aS_RestsOk 80 [Sc.val .l x0] (tS_RestsOk x0) :=fitK (by kernel_rfl)
def aS_RatesOk:An:=⟨[(4,[.s 18],[.o (.o (.i .i64))])],[],[]⟩
def tS_RatesOk (x0:qy6):T :=
 .qc7 95 [.string x0.1] fun y1 =>
 .bF y1 <|
 .br (decide ((↑x0.2.1.n:Int) > (12:Int))) (
  .rF) <|
 .lp [.o (.o (.i .i64))] [.v (.int .i64 0)] fun y2 =>
 .br (decide (y2.1<(↑x0.2.1.n:Int))) (
  .el x0.2.1.1 (x0.2.1.n) y2.1 fun y3 =>
  .ql35 (y3.add (Int.toNat y2.1*(5:Nat))) fun y4 =>
  .qc7 131 [qv7 y4] fun y5 =>
  .bF y5 <|
 .qc0 132 [Sc.val .l x0.2.1,.string y4.1,.string y4.2.1] fun y6 =>
  .br (y6 != y2.1) (
   .rF) <|
 .nx 0 [.v (.int .i64 (IntKind.i64.wrap (y2.1+(1:Int))))]) <|
 .rT
theorem fS_RatesOk x0:qft aS_RatesOk 81 [qv6 x0] (tS_RatesOk x0) :=fitK (by kernel_rfl)
def aS_l01All:An:=⟨[(2,[.s 11],[.o (.o (.i .i64))])],[],[]⟩
def tS_l01All (x0:ByteArray) (x1:Int) (x2:Int) (x3:Int) (x4:Int):T :=
 .lp [.o (.o (.i .i64))] [.v (.int .i64 0)] fun y1 =>
 .br (decide (y1.1<(↑x0.size:Int))) (
  .rq ((0:Int)≤y1.1∧y1.1<(↑x0.size:Int)) <|
 .br (decide (at0 x0 (Int.toNat y1.1)<x1)) (
   .rq ((0:Int)≤y1.1∧y1.1<(↑x0.size:Int)) <|
 .br (decide (at0 x0 (Int.toNat y1.1)<x3)) (
    .rF) <|
 .rq ((0:Int)≤y1.1∧y1.1<(↑x0.size:Int)) <|
 .br (decide (at0 x0 (Int.toNat y1.1) > x4)) (
    .rF) <|
 .nx 0 [.v (.int .i64 (IntKind.i64.wrap (y1.1+(1:Int))))]) <|
 .rq ((0:Int)≤y1.1∧y1.1<(↑x0.size:Int)) <|
 .br (decide (at0 x0 (Int.toNat y1.1) > x2)) (
   .rq ((0:Int)≤y1.1∧y1.1<(↑x0.size:Int)) <|
 .br (decide (at0 x0 (Int.toNat y1.1)<x3)) (
    .rF) <|
 .rq ((0:Int)≤y1.1∧y1.1<(↑x0.size:Int)) <|
 .br (decide (at0 x0 (Int.toNat y1.1) > x4)) (
    .rF) <|
 .nx 0 [.v (.int .i64 (IntKind.i64.wrap (y1.1+(1:Int))))]) <|
 .nx 0 [.v (.int .i64 (IntKind.i64.wrap (y1.1+(1:Int))))]) <|
 .ret [.bool (decide ((↑x0.size:Int) > (0:Int)))]
theorem fS_l01All x0 x1 x2 x3 x4:qft aS_l01All 82 [.string x0,.int .u8 x1,.int .u8 x2,.int .u8 x3,.int .u8 x4] (tS_l01All x0 x1 x2 x3 x4) :=fitK (by kernel_rfl)
def tS_l01In (x0:Int) (x1:Int) (x2:Int):T :=
 .br (decide (x0≥x1)) (
  .ret [.bool (decide (x0≤x2))]) <|
 .rF
theorem fS_l01In x0 x1 x2:qft qa0 83 [.int .i64 x0,.int .i64 x1,.int .i64 x2] (tS_l01In x0 x1 x2) :=fitK (by kernel_rfl)
def tS_IntOk (x0:qy0):T :=
 .qc7 133 [Sc.val .l x0.2.1] fun y1 =>
 .br y1 (
  .br (!x0.1) (
   .rT) <|
 .ret [.bool (decide ((↑x0.2.1.n:Int) > (0:Int)))]) <|
 .rF
theorem fS_IntOk x0:qft qa0 84 [qv0 x0] (tS_IntOk x0) :=fitK (by kernel_rfl)
def tS_RatMake (x0:qy0) (x1:qy0):T :=
 .qc7 84 [qv0 x0] fun y1 =>
 .bn y1 (.ret [qv1 ((false),nilS,nilS,()),.bool (false)]) <|
 .qc7 84 [qv0 x1] fun y2 =>
 .bn y2 (.ret [qv1 ((false),nilS,nilS,()),.bool (false)]) <|
 .qc19 134 [.bool (!x0.1 == x1.1),Sc.val .l x0.2.1,Sc.val .l x1.2.1] fun y3 =>
 .ret [qv1 y3.1,.bool y3.2.1]
theorem fS_RatMake x0 x1:qft qa0 85 [qv0 x0,qv0 x1] (tS_RatMake x0 x1) :=fitK (by kernel_rfl)
def tS_IntOf (x0:Int):T :=
 .br (x0 == (-9223372036854775808:Int)) (
  .fz ((3:Nat)) [.int .i64 854775808,.int .i64 223372036,.int .i64 9] 3 fun b1 c1 =>
  .qc13 135 [.bool (true),.slice (some { block:=b1,off:=(0:Nat):Addr }) ((3:Nat)) (c1)] fun y2 =>
  .ret [qv0 y2]) <|
 .br (decide (x0<(0:Int))) (
  .qc10 136 [.int .i64 (IntKind.i64.wrap ((0:Int)-x0))] fun y1 =>
  .qc13 135 [.bool (true),Sc.val .l y1] fun y2 =>
  .ret [qv0 y2]) <|
 .qc10 136 [.int .i64 x0] fun y1 =>
 .qc13 135 [.bool (false),Sc.val .l y1] fun y2 =>
 .ret [qv0 y2]
theorem fS_IntOf x0:qft qa0 86 [.int .i64 x0] (tS_IntOf x0) :=fitK (by kernel_rfl)
def tS_IntMul (x0:qy0) (x1:qy0):T :=
 .qc7 84 [qv0 x0] fun y1 =>
 .bn y1 (.ret [qv0 ((false),nilS,())]) <|
 .qc7 84 [qv0 x1] fun y2 =>
 .bn y2 (.ret [qv0 ((false),nilS,())]) <|
 .rg <|
 .qc21 137 [Sc.val .l x0.2.1,Sc.val .l x1.2.1] fun y3 =>
 .qc13 135 [.bool (!x0.1 == x1.1),Sc.val .l y3] fun y4 =>
 .ret [qv0 y4]
theorem fS_IntMul x0 x1:qft qa0 87 [qv0 x0,qv0 x1] (tS_IntMul x0 x1) :=fitK (by kernel_rfl)
def tS_l06Round (x0:qy1) (x1:Int):T :=
 .qc36 138 [Sc.val .l x0.2.1,Sc.val .l x0.2.2.1] fun y1 =>
 .br (decide ((↑y1.2.1.n:Int) > (0:Int))) (
  .qc7 139 [.bool x0.1,Sc.val .l y1.1,Sc.val .l y1.2.1,Sc.val .l x0.2.2.1,.int .i64 x1] fun y2 =>
  .br y2 (
   .fz ((1:Nat)) [.int .i64 1] 3 fun b3 c3 =>
   .qc10 140 [Sc.val .l y1.1,.slice (some { block:=b3,off:=(0:Nat):Addr }) ((1:Nat)) (c3)] fun y4 =>
   .qc13 135 [.bool x0.1,Sc.val .l y4] fun y5 =>
   .ret [qv0 y5]) <|
 .qc13 135 [.bool x0.1,Sc.val .l y1.1] fun y3 =>
  .ret [qv0 y3]) <|
 .qc13 135 [.bool x0.1,Sc.val .l y1.1] fun y2 =>
 .ret [qv0 y2]
theorem fS_l06Round x0 x1:qft qa0 88 [qv1 x0,.int .i64 x1] (tS_l06Round x0 x1) :=fitK (by kernel_rfl)
def aS_l08Find:An:=⟨[(2,[.s 7,.c 2 0,.c 2 1,.c 2 2,.c 2 3],[.o (.o (.i .i64)),.o (.o (.s)),.o (.o (.s)),.o (.o (.i .i64)),.o (.o (.i .i64))])],[],[]⟩
def tS_l08Find (x0:ByteArray):T :=
 .qc10 141 [] fun y1 =>
 .lp [.o (.o (.i .i64)),.o (.o (.s)),.o (.o (.s)),.o (.o (.i .i64)),.o (.o (.i .i64))] [.v (.int .i64 0),.v (.string ({ data:={ toList:=[]:Array UInt8 }:ByteArray })),.v (.string ({ data:={ toList:=[]:Array UInt8 }:ByteArray })),.v (.int .i64 0),.v (.int .i64 0)] fun y2 =>
 .br (decide (y2.1<(↑y1.n:Int))) (
  .el y1.1 (y1.n) y2.1 fun y3 =>
  .ql37 (y3.add (Int.toNat y2.1*(4:Nat))) fun y4 =>
  .br (ByteArray.toList y4.1 == x0.toList) (
   .ret [qv11 y4]) <|
 .nx 0 [.v (.int .i64 (IntKind.i64.wrap (y2.1+(1:Int)))),.v (.string y2.2.1),.v (.string y2.2.2.1),.v (.int .i64 y2.2.2.2.1),.v (.int .i64 y2.2.2.2.2.1)]) <|
 .ret [qv11 (({ data:={ toList:=[]:Array UInt8 }:ByteArray }),({ data:={ toList:=[]:Array UInt8 }:ByteArray }),(((0:Int)):Int),(((0:Int)):Int),())]
theorem fS_l08Find x0:qft aS_l08Find 89 [.string x0] (tS_l08Find x0) :=fitK (by kernel_rfl)
def tS_MoneyOk (x0:qy2):T :=
 .qc7 95 [.string x0.1] fun y1 =>
 .br y1 (
  .qc7 84 [qv0 x0.2] fun y2 =>
  .br y2 (
   .ret [.bool (decide ((↑x0.2.2.1.n:Int)≤(4:Int)))]) <|
 .rF) <|
 .rF
theorem fS_MoneyOk x0:qft qa0 90 [qv2 x0] (tS_MoneyOk x0) :=fitK (by kernel_rfl)
def tS_l04Add (x0:qy0) (x1:qy0):T :=
 .br (x0.1 == x1.1) (
  .rg <|
 .qc21 140 [Sc.val .l x0.2.1,Sc.val .l x1.2.1] fun y1 =>
  .qc13 135 [.bool x0.1,Sc.val .l y1] fun y2 =>
  .ret [qv0 y2]) <|
 .qc0 142 [Sc.val .l x0.2.1,Sc.val .l x1.2.1] fun y1 =>
 .br (decide (y1≥(0:Int))) (
  .rg <|
 .qc21 143 [Sc.val .l x0.2.1,Sc.val .l x1.2.1] fun y2 =>
  .qc13 135 [.bool x0.1,Sc.val .l y2] fun y3 =>
  .ret [qv0 y3]) <|
 .rg <|
 .qc21 143 [Sc.val .l x1.2.1,Sc.val .l x0.2.1] fun y2 =>
 .qc13 135 [.bool x1.1,Sc.val .l y2] fun y3 =>
 .ret [qv0 y3]
theorem fS_l04Add x0 x1:qft qa0 91 [qv0 x0,qv0 x1] (tS_l04Add x0 x1) :=fitK (by kernel_rfl)
def tS_IntNeg (x0:qy0):T :=
 .qc7 84 [qv0 x0] fun y1 =>
 .bn y1 (.ret [qv0 ((false),nilS,())]) <|
 .qc13 135 [.bool (!x0.1),Sc.val .l x0.2.1] fun y2 =>
 .ret [qv0 y2]
theorem fS_IntNeg x0:qft qa0 92 [qv0 x0] (tS_IntNeg x0) :=fitK (by kernel_rfl)
def tS_RatAdd (x0:qy1) (x1:qy1):T :=
 .qc7 130 [qv1 x0] fun y1 =>
 .bn y1 (.ret [qv1 ((false),nilS,nilS,()),.bool (false)]) <|
 .qc7 130 [qv1 x1] fun y2 =>
 .bn y2 (.ret [qv1 ((false),nilS,nilS,()),.bool (false)]) <|
 .rg <|
 .qc21 137 [Sc.val .l x0.2.1,Sc.val .l x1.2.2.1] fun y3 =>
 .qc13 135 [.bool x0.1,Sc.val .l y3] fun y4 =>
 .rg <|
 .qc21 137 [Sc.val .l x1.2.1,Sc.val .l x0.2.2.1] fun y5 =>
 .qc13 135 [.bool x1.1,Sc.val .l y5] fun y6 =>
 .qc13 91 [qv0 y4,qv0 y6] fun y7 =>
 .rg <|
 .qc21 137 [Sc.val .l x0.2.2.1,Sc.val .l x1.2.2.1] fun y8 =>
 .qc19 134 [.bool y7.1,Sc.val .l y7.2.1,Sc.val .l y8] fun y9 =>
 .ret [qv1 y9.1,.bool y9.2.1]
theorem fS_RatAdd x0 x1:qft qa0 93 [qv1 x0,qv1 x1] (tS_RatAdd x0 x1) :=fitK (by kernel_rfl)
def tS_CurKnown (x0:ByteArray):T :=
 .qc38 89 [.string x0] fun y1 =>
 .ret [.bool (!ByteArray.toList y1.1 == { data:={ toList:=[]:Array UInt8 }:ByteArray }.toList)]
theorem fS_CurKnown x0:qft qa0 95 [.string x0] (tS_CurKnown x0) :=fitK (by kernel_rfl)
def aS_l19Copy:An:=⟨[(3,[.s 3,.s 9],[.o (.o (.l)),.o (.o (.i .i64))])],[],[]⟩
def tS_l19Copy (x0:SlV):T :=
 .fz ((0:Nat)) [] 164 fun b1 c1 =>
 .lp [.o (.o (.l)),.o (.o (.i .i64))] [.v (.slice (some { block:=b1,off:=(0:Nat):Addr }) ((0:Nat)) (c1)),.v (.int .i64 0)] fun y2 =>
 .br (decide (y2.2.1<(↑x0.n:Int))) (
  .el x0.1 (x0.n) y2.2.1 fun y3 =>
  .ql16 (y3.add (Int.toNat y2.2.1*(4:Nat))) fun y4 =>
  .rg <|
 .qc30 144 [qv1 y4.2] fun y5 =>
  .rq ([Value.string y4.1,Value.bool y5.1,Value.slice y5.2.1.1 y5.2.1.n y5.2.1.c,Value.slice y5.2.2.1.1 y5.2.2.1.n y5.2.2.1.c].length=(1:Nat)*(4:Nat)) <|
 .rq (one [Value.string y4.1,Value.bool y5.1,Value.slice y5.2.1.1 y5.2.1.n y5.2.1.c,Value.slice y5.2.2.1.1 y5.2.2.1.n y5.2.2.1.c]=true) <|
 .ap ({ a:=y2.1.1,n:=y2.1.n,c:=y2.1.c:SlV }) 4 72 [.string y4.1,.bool y5.1,Sc.val .l y5.2.1,Sc.val .l y5.2.2.1] ((1:Nat)) 164 fun y6 =>
  .nx 0 [.v (Sc.val .l y6),.v (.int .i64 (IntKind.i64.wrap (y2.2.1+(1:Int))))]) <|
 .ret [Sc.val .l y2.1]
theorem fS_l19Copy x0:qft aS_l19Copy 96 [Sc.val .l x0] (tS_l19Copy x0) :=fitK (by kernel_rfl)
def tS_RatSign (x0:qy1):T :=
 .rg <|
 .qc30 145 [] fun y1 =>
 .qc0 146 [qv1 x0,qv1 y1] fun y2 =>
 .ret [.int .i64 y2]
theorem fS_RatSign x0:qft qa0 97 [qv1 x0] (tS_RatSign x0) :=fitK (by kernel_rfl)
def aS_l17Copy:An:=⟨[(3,[.s 10,.c 3 0],[.o (.o (.i .i64)),.o (.o (.l))])],[],[]⟩
def tS_l17Copy (x0:qy5):T :=
 .lp [.o (.o (.i .i64)),.o (.o (.l))] [.v (.int .i64 0),.v (.slice none 0 0)] fun y1 =>
 .br (decide (y1.1<(↑x0.1.n:Int))) (
  .el x0.1.1 (x0.1.n) y1.1 fun y2 =>
  .ql17 (y2.add (Int.toNat y1.1*(4:Nat))) fun y3 =>
  .rg <|
 .qc2 147 [qv2 y3.2] fun y4 =>
  .rq ([Value.string y3.1,Value.string y4.1,Value.bool y4.2.1,Value.slice y4.2.2.1.1 y4.2.2.1.n y4.2.2.1.c].length=(1:Nat)*(4:Nat)) <|
 .rq (one [Value.string y3.1,Value.string y4.1,Value.bool y4.2.1,Value.slice y4.2.2.1.1 y4.2.2.1.n y4.2.2.1.c]=true) <|
 .ap ({ a:=y1.2.1.1,n:=y1.2.1.n,c:=y1.2.1.c:SlV }) 4 64 [.string y3.1,.string y4.1,.bool y4.2.1,Sc.val .l y4.2.2.1] ((1:Nat)) 88 fun y5 =>
  .nx 0 [.v (.int .i64 (IntKind.i64.wrap (y1.1+(1:Int)))),.v (Sc.val .l y5)]) <|
 .ret [qv5 y1.2]
theorem fS_l17Copy x0:qft aS_l17Copy 98 [qv5 x0] (tS_l17Copy x0) :=fitK (by kernel_rfl)
def aS_l20Rates:An:=⟨[(3,[.s 12,.c 3 0,.c 3 1],[.o (.o (.i .i64)),.o (.o (.s)),.o (.o (.l))])],[],[]⟩
def tS_l20Rates (x0:qy6):T :=
 .lp [.o (.o (.i .i64)),.o (.o (.s)),.o (.o (.l))] [.v (.int .i64 0),.v (.string x0.1),.v (.slice none 0 0)] fun y1 =>
 .br (decide (y1.1<(↑x0.2.1.n:Int))) (
  .el x0.2.1.1 (x0.2.1.n) y1.1 fun y2 =>
  .ql35 (y2.add (Int.toNat y1.1*(5:Nat))) fun y3 =>
  .rg <|
 .es [] 3 fun b4 =>
  .ra ({ a:=y3.2.2.2.1.1,n:=y3.2.2.2.1.n,c:=y3.2.2.2.1.c:SlV }) ((1:Nat)) fun y5 =>
  .rq (one y5=true∧y3.2.2.2.1.n*(8:Nat)≤(140737488355328:Nat)∧y3.2.2.2.1.n≤(9223372036854775807:Nat)) <|
 .br (decide (y3.2.2.2.1.n=(0:Nat))) (
   .rq ([Value.string y3.1,Value.string y3.2.1,Value.bool y3.2.2.1,Value.slice (some { block:=b4,off:=(0:Nat):Addr }) (0:Nat) (0:Nat),Value.int IntKind.i64 y3.2.2.2.2.1].length=(1:Nat)*(5:Nat)) <|
 .rq (one [Value.string y3.1,Value.string y3.2.1,Value.bool y3.2.2.1,Value.slice (some { block:=b4,off:=(0:Nat):Addr }) (0:Nat) (0:Nat),Value.int IntKind.i64 y3.2.2.2.2.1]=true) <|
 .ap ({ a:=y1.2.2.1.1,n:=y1.2.2.1.n,c:=y1.2.2.1.c:SlV }) 5 72 [.string y3.1,.string y3.2.1,.bool y3.2.2.1,.slice (some { block:=b4,off:=(0:Nat):Addr }) ((0:Nat)) ((0:Nat)),.int .i64 y3.2.2.2.2.1] ((1:Nat)) 204 fun y6 =>
   .nx 0 [.v (.int .i64 (IntKind.i64.wrap (y1.1+(1:Int)))),.v (.string y1.2.1),.v (Sc.val .l y6)]) <|
 .fz (y3.2.2.2.1.n) y5 3 fun b6 c6 =>
  .rq ([Value.string y3.1,Value.string y3.2.1,Value.bool y3.2.2.1,Value.slice (some { block:=b6,off:=(0:Nat):Addr }) y3.2.2.2.1.n c6,Value.int IntKind.i64 y3.2.2.2.2.1].length=(1:Nat)*(5:Nat)) <|
 .rq (one [Value.string y3.1,Value.string y3.2.1,Value.bool y3.2.2.1,Value.slice (some { block:=b6,off:=(0:Nat):Addr }) y3.2.2.2.1.n c6,Value.int IntKind.i64 y3.2.2.2.2.1]=true) <|
 .ap ({ a:=y1.2.2.1.1,n:=y1.2.2.1.n,c:=y1.2.2.1.c:SlV }) 5 72 [.string y3.1,.string y3.2.1,.bool y3.2.2.1,.slice (some { block:=b6,off:=(0:Nat):Addr }) (y3.2.2.2.1.n) (c6),.int .i64 y3.2.2.2.2.1] ((1:Nat)) 204 fun y7 =>
  .nx 0 [.v (.int .i64 (IntKind.i64.wrap (y1.1+(1:Int)))),.v (.string y1.2.1),.v (Sc.val .l y7)]) <|
 .ret [qv6 y1.2]
theorem fS_l20Rates x0:qft aS_l20Rates 99 [qv6 x0] (tS_l20Rates x0) :=fitK (by kernel_rfl)
def aL_toAcctS:An:=⟨[(3,[.s 3,.s 4],[.a 88,.o (.o (.i .i64))])],[],[]⟩
def tL_toAcctS (x0:SlV):T :=
 .rq ((0:Int)≤(↑x0.n:Int)∧(↑x0.n:Int)≤(↑x0.n:Int)∧(↑(64:Nat):Int)*(↑x0.n:Int)≤(281474976710656:Int)∧(↑x0.n:Int)≤(9223372036854775807:Int)) <|
 .lp [.a 88,.o (.o (.i .i64))] [.a 88 ((↑x0.n:Int).toNat) ((madeCells { toList:=[Value.string { data:={ toList:=[]:Array UInt8 }:ByteArray },Value.string { data:={ toList:=[]:Array UInt8 }:ByteArray },Value.bool false,Value.slice none (0:Nat) (0:Nat)]:Array Value } ((↑x0.n:Int).toNat*(4:Nat))).toList),.v (.int .i64 0)] fun y1 =>
 .br (decide (y1.2.1<(↑x0.n:Int))) (
  .el x0.1 (x0.n) y1.2.1 fun y2 =>
  .ql17 (y2.add (Int.toNat y1.2.1*(4:Nat))) fun y3 =>
  .qc39 148 [qv8 y3] fun y4 =>
  .rq ((0:Int)≤y1.2.1∧y1.2.1<(↑y1.1.1:Int)) <|
 .rq (Int.toNat y1.2.1*(4:Nat)+[Value.string y4.1,Value.string y4.2.1,Value.bool y4.2.2.1,Value.slice y4.2.2.2.1.1 y4.2.2.2.1.n y4.2.2.2.1.c].length≤y1.1.2.length) <|
 .nx 0 [.a 88 y1.1.1 (setl y1.1.2 (Int.toNat y1.2.1*(4:Nat)) [Value.string y4.1,Value.string y4.2.1,Value.bool y4.2.2.1,Value.slice y4.2.2.2.1.1 y4.2.2.2.1.n y4.2.2.2.1.c]),.v (.int .i64 (IntKind.i64.wrap (y1.2.1+(1:Int))))]) <|
 .fz y1.1.1 y1.1.2 88 fun b2 c2 =>
 .ret [.slice (some { block:=b2,off:=(0:Nat):Addr }) y1.1.1 (c2)]
theorem fL_toAcctS x0:qft aL_toAcctS 100 [Sc.val .l x0] (tL_toAcctS x0) :=fitK (by kernel_rfl)
def tL_toRest (x0:qy9):T :=
 .qc40 149 [qv1 x0.2] fun y1 =>
 .ret [qv9 (x0.1,y1.1,y1.2.1,y1.2.2.1,())]
theorem fL_toRest x0:qft qa0 101 [qv9 x0] (tL_toRest x0) :=fitK (by kernel_rfl)
def aL_toRateS:An:=⟨[(3,[.s 3,.s 4],[.a 204,.o (.o (.i .i64))])],[],[]⟩
def tL_toRateS (x0:SlV):T :=
 .rq ((0:Int)≤(↑x0.n:Int)∧(↑x0.n:Int)≤(↑x0.n:Int)∧(↑(72:Nat):Int)*(↑x0.n:Int)≤(281474976710656:Int)∧(↑x0.n:Int)≤(9223372036854775807:Int)) <|
 .lp [.a 204,.o (.o (.i .i64))] [.a 204 ((↑x0.n:Int).toNat) ((madeCells { toList:=[Value.string { data:={ toList:=[]:Array UInt8 }:ByteArray },Value.string { data:={ toList:=[]:Array UInt8 }:ByteArray },Value.bool false,Value.slice none (0:Nat) (0:Nat),Value.int IntKind.i64 (0:Int)]:Array Value } ((↑x0.n:Int).toNat*(5:Nat))).toList),.v (.int .i64 0)] fun y1 =>
 .br (decide (y1.2.1<(↑x0.n:Int))) (
  .el x0.1 (x0.n) y1.2.1 fun y2 =>
  .ql35 (y2.add (Int.toNat y1.2.1*(5:Nat))) fun y3 =>
  .qc41 150 [qv7 y3] fun y4 =>
  .rq ((0:Int)≤y1.2.1∧y1.2.1<(↑y1.1.1:Int)) <|
 .rq (Int.toNat y1.2.1*(5:Nat)+[Value.string y4.1,Value.string y4.2.1,Value.bool y4.2.2.1,Value.slice y4.2.2.2.1.1 y4.2.2.2.1.n y4.2.2.2.1.c,Value.int IntKind.i64 y4.2.2.2.2.1].length≤y1.1.2.length) <|
 .nx 0 [.a 204 y1.1.1 (setl y1.1.2 (Int.toNat y1.2.1*(5:Nat)) [Value.string y4.1,Value.string y4.2.1,Value.bool y4.2.2.1,Value.slice y4.2.2.2.1.1 y4.2.2.2.1.n y4.2.2.2.1.c,Value.int IntKind.i64 y4.2.2.2.2.1]),.v (.int .i64 (IntKind.i64.wrap (y1.2.1+(1:Int))))]) <|
 .fz y1.1.1 y1.1.2 204 fun b2 c2 =>
 .ret [.slice (some { block:=b2,off:=(0:Nat):Addr }) y1.1.1 (c2)]
theorem fL_toRateS x0:qft aL_toRateS 102 [Sc.val .l x0] (tL_toRateS x0) :=fitK (by kernel_rfl)
def tI_LedgerOk (x0:qy4):T :=
 .qc7 151 [qv5 (x0.1,())] fun y1 =>
 .br y1 (
  .qc7 152 [Sc.val .l x0.2.1] fun y2 =>
  .br y2 (
   .qc7 153 [qv6 x0.2.2] fun y3 =>
   .ret [.bool y3]) <|
 .rF) <|
 .rF
theorem fI_LedgerOk x0:qft qa0 103 [qv3 x0] (tI_LedgerOk x0) :=fitK (by kernel_rfl)
def tI_ledgerCopy (x0:qy4):T :=
 .rg <|
 .qc20 154 [qv5 (x0.1,())] fun y1 =>
 .qc21 155 [Sc.val .l x0.2.1] fun y2 =>
 .qc11 156 [qv6 x0.2.2] fun y3 =>
 .ret [qv3 (y1.1,y2,y3.1,y3.2.1,())]
theorem fI_ledgerCopy x0:qft qa0 104 [qv3 x0] (tI_ledgerCopy x0) :=fitK (by kernel_rfl)
def aL_eqAcctS:An:=⟨[(4,[.s 5],[.o (.o (.i .i64))])],[],[]⟩
def tL_eqAcctS (x0:SlV) (x1:SlV):T :=
 .br ((↑x0.n:Int) != (↑x1.n:Int)) (
  .rF) <|
 .lp [.o (.o (.i .i64))] [.v (.int .i64 0)] fun y1 =>
 .br (decide (y1.1<(↑x0.n:Int))) (
  .rg <|
 .el x0.1 (x0.n) y1.1 fun y2 =>
  .ql42 (y2.add (Int.toNat y1.1*(4:Nat))) fun y3 =>
  .el x1.1 (x1.n) y1.1 fun y4 =>
  .ql42 (y4.add (Int.toNat y1.1*(4:Nat))) fun y5 =>
  .qc7 157 [qv8 y3,qv8 y5] fun y6 =>
  .bF y6 <|
 .nx 0 [.v (.int .i64 (IntKind.i64.wrap (y1.1+(1:Int))))]) <|
 .rT
theorem fL_eqAcctS x0 x1:qft aL_eqAcctS 105 [Sc.val .l x0,Sc.val .l x1] (tL_eqAcctS x0 x1) :=fitK (by kernel_rfl)
def tL_eqRest (x0:qy9) (x1:qy9):T :=
 .br (!ByteArray.toList x0.1 == ByteArray.toList x1.1) (
  .rF) <|
 .qc7 158 [qv1 x0.2,qv1 x1.2] fun y1 =>
 .bF y1 <|
 .rT
theorem fL_eqRest x0 x1:qft qa0 106 [qv9 x0,qv9 x1] (tL_eqRest x0 x1) :=fitK (by kernel_rfl)
def aL_eqRateS:An:=⟨[(4,[.s 5],[.o (.o (.i .i64))])],[],[]⟩
def tL_eqRateS (x0:SlV) (x1:SlV):T :=
 .br ((↑x0.n:Int) != (↑x1.n:Int)) (
  .rF) <|
 .lp [.o (.o (.i .i64))] [.v (.int .i64 0)] fun y1 =>
 .br (decide (y1.1<(↑x0.n:Int))) (
  .rg <|
 .el x0.1 (x0.n) y1.1 fun y2 =>
  .ql43 (y2.add (Int.toNat y1.1*(5:Nat))) fun y3 =>
  .el x1.1 (x1.n) y1.1 fun y4 =>
  .ql43 (y4.add (Int.toNat y1.1*(5:Nat))) fun y5 =>
  .qc7 159 [qv7 y3,qv7 y5] fun y6 =>
  .bF y6 <|
 .nx 0 [.v (.int .i64 (IntKind.i64.wrap (y1.1+(1:Int))))]) <|
 .rT
theorem fL_eqRateS x0 x1:qft aL_eqRateS 107 [Sc.val .l x0,Sc.val .l x1] (tL_eqRateS x0 x1) :=fitK (by kernel_rfl)
def aL_markAcctS:An:=⟨[(2,[.s 1,.s 5],[.o (.o (.i .i64)),.o (.o (.i .i64))])],[],[]⟩
def tL_markAcctS (x0:SlV) (x1:Int):T :=
 .lp [.o (.o (.i .i64)),.o (.o (.i .i64))] [.v (.int .i64 x1),.v (.int .i64 0)] fun y1 =>
 .br (decide (y1.2.1<(↑x0.n:Int))) (
  .qc24 74 [.int .i64 y1.1] fun y2 =>
  .el x0.1 (x0.n) y1.2.1 fun y3 =>
  .st ((y3.add (Int.toNat y1.2.1*(4:Nat))).add (0:Nat)) [.string y2] <|
 .qc24 74 [.int .i64 (IntKind.i64.wrap (y1.1+(1:Int)))] fun y4 =>
  .el x0.1 (x0.n) y1.2.1 fun y5 =>
  .st (((y5.add (Int.toNat y1.2.1*(4:Nat))).add (1:Nat)).add (0:Nat)) [.string y4] <|
 .rq ((3:Int)≠(0:Int)) <|
 .el x0.1 (x0.n) y1.2.1 fun y6 =>
  .st ((((y6.add (Int.toNat y1.2.1*(4:Nat))).add (1:Nat)).add (1:Nat)).add (0:Nat)) [.bool ((IntKind.i64.wrap (IntKind.i64.wrap (y1.1+(1:Int))+(1:Int))).tmod (3:Int) == (0:Int))] <|
 .el x0.1 (x0.n) y1.2.1 fun y7 =>
  .ql25 ((((y7.add (Int.toNat y1.2.1*(4:Nat))).add (1:Nat)).add (1:Nat)).add (1:Nat)) fun y8 =>
  .qc0 32 [Sc.val .l y8,.int .i64 (IntKind.i64.wrap (IntKind.i64.wrap (IntKind.i64.wrap (y1.1+(1:Int))+(1:Int))+(1:Int)))] fun y9 =>
  .nx 0 [.v (.int .i64 y9),.v (.int .i64 (IntKind.i64.wrap (y1.2.1+(1:Int))))]) <|
 .ret [.int .i64 y1.1]
theorem fL_markAcctS x0 x1:qft aL_markAcctS 108 [Sc.val .l x0,.int .i64 x1] (tL_markAcctS x0 x1) :=fitK (by kernel_rfl)
def aL_markRateS:An:=⟨[(2,[.s 1,.s 5],[.o (.o (.i .i64)),.o (.o (.i .i64))])],[],[]⟩
def tL_markRateS (x0:SlV) (x1:Int):T :=
 .lp [.o (.o (.i .i64)),.o (.o (.i .i64))] [.v (.int .i64 x1),.v (.int .i64 0)] fun y1 =>
 .br (decide (y1.2.1<(↑x0.n:Int))) (
  .qc24 74 [.int .i64 y1.1] fun y2 =>
  .el x0.1 (x0.n) y1.2.1 fun y3 =>
  .st ((y3.add (Int.toNat y1.2.1*(5:Nat))).add (0:Nat)) [.string y2] <|
 .qc24 74 [.int .i64 (IntKind.i64.wrap (y1.1+(1:Int)))] fun y4 =>
  .el x0.1 (x0.n) y1.2.1 fun y5 =>
  .st ((y5.add (Int.toNat y1.2.1*(5:Nat))).add (1:Nat)) [.string y4] <|
 .rq ((3:Int)≠(0:Int)) <|
 .el x0.1 (x0.n) y1.2.1 fun y6 =>
  .st ((((y6.add (Int.toNat y1.2.1*(5:Nat))).add (2:Nat)).add (0:Nat)).add (0:Nat)) [.bool ((IntKind.i64.wrap (IntKind.i64.wrap (y1.1+(1:Int))+(1:Int))).tmod (3:Int) == (0:Int))] <|
 .el x0.1 (x0.n) y1.2.1 fun y7 =>
  .ql25 ((((y7.add (Int.toNat y1.2.1*(5:Nat))).add (2:Nat)).add (0:Nat)).add (1:Nat)) fun y8 =>
  .qc0 32 [Sc.val .l y8,.int .i64 (IntKind.i64.wrap (IntKind.i64.wrap (IntKind.i64.wrap (y1.1+(1:Int))+(1:Int))+(1:Int)))] fun y9 =>
  .el x0.1 (x0.n) y1.2.1 fun y10 =>
  .st (((y10.add (Int.toNat y1.2.1*(5:Nat))).add (2:Nat)).add (2:Nat)) [.int .i64 y9] <|
 .nx 0 [.v (.int .i64 (IntKind.i64.wrap (y9+(1:Int)))),.v (.int .i64 (IntKind.i64.wrap (y1.2.1+(1:Int))))]) <|
 .ret [.int .i64 y1.1]
theorem fL_markRateS x0 x1:qft aL_markRateS 109 [Sc.val .l x0,.int .i64 x1] (tL_markRateS x0 x1) :=fitK (by kernel_rfl)
def aL_heldAcctS:An:=⟨[(2,[.s 1,.s 5],[.o (.o (.i .i64)),.o (.o (.i .i64))])],[],[]⟩
def tL_heldAcctS (x0:SlV) (x1:Int):T :=
 .lp [.o (.o (.i .i64)),.o (.o (.i .i64))] [.v (.int .i64 x1),.v (.int .i64 0)] fun y1 =>
 .br (decide (y1.2.1<(↑x0.n:Int))) (
  .rg <|
 .el x0.1 (x0.n) y1.2.1 fun y2 =>
  .ql26 ((y2.add (Int.toNat y1.2.1*(4:Nat))).add (0:Nat)) fun y3 =>
  .qc27 74 [.int .i64 y1.1] fun y4 =>
  .br (!y3.toList == y4.toList) (
   .rM) <|
 .rg <|
 .el x0.1 (x0.n) y1.2.1 fun y5 =>
  .ql26 (((y5.add (Int.toNat y1.2.1*(4:Nat))).add (1:Nat)).add (0:Nat)) fun y6 =>
  .qc27 74 [.int .i64 (IntKind.i64.wrap (y1.1+(1:Int)))] fun y7 =>
  .br (!y6.toList == y7.toList) (
   .rM) <|
 .el x0.1 (x0.n) y1.2.1 fun y8 =>
  .ql28 ((((y8.add (Int.toNat y1.2.1*(4:Nat))).add (1:Nat)).add (1:Nat)).add (0:Nat)) fun y9 =>
  .rq ((3:Int)≠(0:Int)) <|
 .br (!y9 == ((IntKind.i64.wrap (IntKind.i64.wrap (y1.1+(1:Int))+(1:Int))).tmod (3:Int) == (0:Int))) (
   .rM) <|
 .el x0.1 (x0.n) y1.2.1 fun y10 =>
  .ql25 ((((y10.add (Int.toNat y1.2.1*(4:Nat))).add (1:Nat)).add (1:Nat)).add (1:Nat)) fun y11 =>
  .qc0 111 [Sc.val .l y11,.int .i64 (IntKind.i64.wrap (IntKind.i64.wrap (IntKind.i64.wrap (y1.1+(1:Int))+(1:Int))+(1:Int)))] fun y12 =>
  .br (decide (y12<(0:Int))) (
   .rM) <|
 .nx 0 [.v (.int .i64 y12),.v (.int .i64 (IntKind.i64.wrap (y1.2.1+(1:Int))))]) <|
 .ret [.int .i64 y1.1]
theorem fL_heldAcctS x0 x1:qft aL_heldAcctS 110 [Sc.val .l x0,.int .i64 x1] (tL_heldAcctS x0 x1) :=fitK (by kernel_rfl)
def aL_heldIntS:An:=⟨[(2,[.s 1,.s 5],[.o (.o (.i .i64)),.o (.o (.i .i64))])],[],[]⟩
def tL_heldIntS (x0:SlV) (x1:Int):T :=
 .lp [.o (.o (.i .i64)),.o (.o (.i .i64))] [.v (.int .i64 x1),.v (.int .i64 0)] fun y1 =>
 .br (decide (y1.2.1<(↑x0.n:Int))) (
  .el x0.1 (x0.n) y1.2.1 fun y2 =>
  .ql14 (y2.add (Int.toNat y1.2.1*(1:Nat))) fun y3 =>
  .br (y3 != y1.1) (
   .rM) <|
 .nx 0 [.v (.int .i64 (IntKind.i64.wrap (y1.1+(1:Int)))),.v (.int .i64 (IntKind.i64.wrap (y1.2.1+(1:Int))))]) <|
 .ret [.int .i64 y1.1]
theorem fL_heldIntS x0 x1:qft aL_heldIntS 111 [Sc.val .l x0,.int .i64 x1] (tL_heldIntS x0 x1) :=fitK (by kernel_rfl)
def aL_heldRateS:An:=⟨[(2,[.s 1,.s 5],[.o (.o (.i .i64)),.o (.o (.i .i64))])],[],[]⟩
def tL_heldRateS (x0:SlV) (x1:Int):T :=
 .lp [.o (.o (.i .i64)),.o (.o (.i .i64))] [.v (.int .i64 x1),.v (.int .i64 0)] fun y1 =>
 .br (decide (y1.2.1<(↑x0.n:Int))) (
  .rg <|
 .el x0.1 (x0.n) y1.2.1 fun y2 =>
  .ql26 ((y2.add (Int.toNat y1.2.1*(5:Nat))).add (0:Nat)) fun y3 =>
  .qc27 74 [.int .i64 y1.1] fun y4 =>
  .br (!y3.toList == y4.toList) (
   .rM) <|
 .rg <|
 .el x0.1 (x0.n) y1.2.1 fun y5 =>
  .ql26 ((y5.add (Int.toNat y1.2.1*(5:Nat))).add (1:Nat)) fun y6 =>
  .qc27 74 [.int .i64 (IntKind.i64.wrap (y1.1+(1:Int)))] fun y7 =>
  .br (!y6.toList == y7.toList) (
   .rM) <|
 .el x0.1 (x0.n) y1.2.1 fun y8 =>
  .ql28 ((((y8.add (Int.toNat y1.2.1*(5:Nat))).add (2:Nat)).add (0:Nat)).add (0:Nat)) fun y9 =>
  .rq ((3:Int)≠(0:Int)) <|
 .br (!y9 == ((IntKind.i64.wrap (IntKind.i64.wrap (y1.1+(1:Int))+(1:Int))).tmod (3:Int) == (0:Int))) (
   .rM) <|
 .el x0.1 (x0.n) y1.2.1 fun y10 =>
  .ql25 ((((y10.add (Int.toNat y1.2.1*(5:Nat))).add (2:Nat)).add (0:Nat)).add (1:Nat)) fun y11 =>
  .qc0 111 [Sc.val .l y11,.int .i64 (IntKind.i64.wrap (IntKind.i64.wrap (IntKind.i64.wrap (y1.1+(1:Int))+(1:Int))+(1:Int)))] fun y12 =>
  .br (decide (y12<(0:Int))) (
   .rM) <|
 .el x0.1 (x0.n) y1.2.1 fun y13 =>
  .ql14 (((y13.add (Int.toNat y1.2.1*(5:Nat))).add (2:Nat)).add (2:Nat)) fun y14 =>
  .br (y14 != y12) (
   .rM) <|
 .nx 0 [.v (.int .i64 (IntKind.i64.wrap (y12+(1:Int)))),.v (.int .i64 (IntKind.i64.wrap (y1.2.1+(1:Int))))]) <|
 .ret [.int .i64 y1.1]
theorem fL_heldRateS x0 x1:qft aL_heldRateS 112 [Sc.val .l x0,.int .i64 x1] (tL_heldRateS x0 x1) :=fitK (by kernel_rfl)
def tL_szIntS (x0:SlV) (x1:Int):T :=
 .br (decide (IntKind.i64.wrap (x1-(↑x0.n:Int))<(0:Int))) (
  .rM) <|
 .ret [.int .i64 (IntKind.i64.wrap (x1-(↑x0.n:Int)))]
theorem fL_szIntS x0 x1:qft qa0 113 [Sc.val .l x0,.int .i64 x1] (tL_szIntS x0 x1) :=fitK (by kernel_rfl)
def tS_DecOk (x0:qy3):T :=
 .qc7 84 [qv0 (x0.1,x0.2.1,())] fun y1 =>
 .br y1 (
  .br (decide ((↑x0.2.1.n:Int)≤(6:Int))) (
   .qc7 83 [.int .i64 x0.2.2.1,.int .i64 0,.int .i64 30] fun y2 =>
   .ret [.bool y2]) <|
 .rF) <|
 .rF
theorem fS_DecOk x0:qft qa0 114 [qv4 x0] (tS_DecOk x0) :=fitK (by kernel_rfl)
def tS_DecCmp (x0:qy3) (x1:qy3):T :=
 .qc7 114 [qv4 x0] fun y1 =>
 .bn y1 (.ret [.int .i64 0]) <|
 .qc7 114 [qv4 x1] fun y2 =>
 .bn y2 (.ret [.int .i64 0]) <|
 .qc44 160 [qv4 x0,qv4 x1] fun y3 =>
 .qc0 161 [qv0 y3.1,qv0 y3.2.1] fun y4 =>
 .ret [.int .i64 y4]
theorem fS_DecCmp x0 x1:qft qa0 115 [qv4 x0,qv4 x1] (tS_DecCmp x0 x1) :=fitK (by kernel_rfl)
def tS_DecRat (x0:qy3):T :=
 .qc7 114 [qv4 x0] fun y1 =>
 .bn y1 (.ret [qv1 ((false),nilS,nilS,())]) <|
 .rg <|
 .qc18 162 [.int .i64 x0.2.2.1] fun y2 =>
 .qc19 85 [qv0 (x0.1,x0.2.1,()),qv0 y2] fun y3 =>
 .ret [qv1 y3.1]
theorem fS_DecRat x0:qft qa0 116 [qv4 x0] (tS_DecRat x0) :=fitK (by kernel_rfl)
def tS_RatDiv (x0:qy1) (x1:qy1):T :=
 .qc7 130 [qv1 x0] fun y1 =>
 .bn y1 (.ret [qv1 ((false),nilS,nilS,()),.bool (false)]) <|
 .qc7 130 [qv1 x1] fun y2 =>
 .bn y2 (.ret [qv1 ((false),nilS,nilS,()),.bool (false)]) <|
 .rg <|
 .qc21 137 [Sc.val .l x0.2.1,Sc.val .l x1.2.2.1] fun y3 =>
 .qc21 137 [Sc.val .l x0.2.2.1,Sc.val .l x1.2.1] fun y4 =>
 .qc19 134 [.bool (!x0.1 == x1.1),Sc.val .l y3,Sc.val .l y4] fun y5 =>
 .ret [qv1 y5.1,.bool y5.2.1]
theorem fS_RatDiv x0 x1:qft qa0 117 [qv1 x0,qv1 x1] (tS_RatDiv x0 x1) :=fitK (by kernel_rfl)
def tS_MoneyRat (x0:qy2):T :=
 .qc7 90 [qv2 x0] fun y1 =>
 .bn y1 (.ret [qv1 ((false),nilS,nilS,())]) <|
 .qc19 45 [qv0 x0.2] fun y2 =>
 .ret [qv1 y2.1]
theorem fS_MoneyRat x0:qft qa0 118 [qv2 x0] (tS_MoneyRat x0) :=fitK (by kernel_rfl)
def tS_RatMoney (x0:ByteArray) (x1:qy1) (x2:Int):T :=
 .qc45 163 [qv1 x1,.int .i64 x2] fun y1 =>
 .qc32 44 [.string x0,qv0 y1.1] fun y2 =>
 .bn y1.2.2.1 (.ret [qv2 (({ data:={ toList:=[]:Array UInt8 }:ByteArray }),(false),nilS,()),qv1 ((false),nilS,nilS,()),.bool (false)]) <|
 .bn y2.2.1 (.ret [qv2 (({ data:={ toList:=[]:Array UInt8 }:ByteArray }),(false),nilS,()),qv1 ((false),nilS,nilS,()),.bool (false)]) <|
 .rg <|
 .ret [qv2 y2.1,qv1 y1.2.1,.bool (true)]
theorem fS_RatMoney x0 x1 x2:qft qa0 119 [.string x0,qv1 x1,.int .i64 x2] (tS_RatMoney x0 x1 x2) :=fitK (by kernel_rfl)
def tS_MoneySub (x0:qy2) (x1:qy2):T :=
 .qc7 164 [qv2 x0,qv2 x1] fun y1 =>
 .bn y1 (.ret [qv2 (({ data:={ toList:=[]:Array UInt8 }:ByteArray }),(false),nilS,()),.bool (false)]) <|
 .rg <|
 .qc18 46 [qv0 x0.2,qv0 x1.2] fun y2 =>
 .qc32 44 [.string x0.1,qv0 y2] fun y3 =>
 .ret [qv2 y3.1,.bool y3.2.1]
theorem fS_MoneySub x0 x1:qft qa0 120 [qv2 x0,qv2 x1] (tS_MoneySub x0 x1) :=fitK (by kernel_rfl)
def tS_BookPost (x0:qy5) (x1:ByteArray) (x2:qy2):T :=
 .qc0 41 [qv5 x0,.string x1] fun y1 =>
 .qc7 79 [qv5 x0] fun y2 =>
 .bn y2 (.ret [qv5 (nilS,()),.bool (false)]) <|
 .br (decide (y1<(0:Int))) (
  .ret [qv5 (nilS,()),.bool (false)]) <|
 .rg <|
 .el x0.1.1 (x0.1.n) y1 fun y3 =>
 .ql46 ((y3.add (y1.toNat*(4:Nat))).add (1:Nat)) fun y4 =>
 .qc32 165 [qv2 y4,qv2 x2] fun y5 =>
 .bn y5.2.1 (.ret [qv5 (nilS,()),.bool (false)]) <|
 .qc9 98 [qv5 x0] fun y6 =>
 .el y6.1.1 (y6.1.n) y1 fun y7 =>
 .st ((y7.add (y1.toNat*(4:Nat))).add (1:Nat)) [.string y5.1.1,.bool y5.1.2.1,Sc.val .l y5.1.2.2.1] <|
 .ret [qv5 y6,.bool (true)]
theorem fS_BookPost x0 x1 x2:qft qa0 121 [qv5 x0,.string x1,qv2 x2] (tS_BookPost x0 x1 x2) :=fitK (by kernel_rfl)
def tL_szAcct (x0:qy8) (x1:Int):T :=
 .br (decide (IntKind.i64.wrap (x1-(↑(ByteArray.size x0.1):Int))<(0:Int))) (
  .rM) <|
 .qc0 14 [qv2 x0.2,.int .i64 (IntKind.i64.wrap (x1-(↑(ByteArray.size x0.1):Int)))] fun y1 =>
 .br (decide (y1<(0:Int))) (
  .rM) <|
 .ret [.int .i64 y1]
theorem fL_szAcct x0 x1:qft qa0 127 [qv8 x0,.int .i64 x1] (tL_szAcct x0 x1) :=fitK (by kernel_rfl)
def tL_szRat (x0:qy1) (x1:Int):T :=
 .qc0 62 [qv0 (x0.1,x0.2.1,()),.int .i64 x1] fun y1 =>
 .br (decide (y1<(0:Int))) (
  .rM) <|
 .qc0 113 [Sc.val .l x0.2.2.1,.int .i64 y1] fun y2 =>
 .br (decide (y2<(0:Int))) (
  .rM) <|
 .ret [.int .i64 y2]
theorem fL_szRat x0 x1:qft qa0 128 [qv1 x0,.int .i64 x1] (tL_szRat x0 x1) :=fitK (by kernel_rfl)
def tL_szRate (x0:qy7) (x1:Int):T :=
 .br (decide (IntKind.i64.wrap (x1-(↑(ByteArray.size x0.1):Int))<(0:Int))) (
  .rM) <|
 .br (decide (IntKind.i64.wrap (IntKind.i64.wrap (x1-(↑(ByteArray.size x0.1):Int))-(↑(ByteArray.size x0.2.1):Int))<(0:Int))) (
  .rM) <|
 .qc0 15 [qv4 x0.2.2,.int .i64 (IntKind.i64.wrap (IntKind.i64.wrap (x1-(↑(ByteArray.size x0.1):Int))-(↑(ByteArray.size x0.2.1):Int)))] fun y1 =>
 .br (decide (y1<(0:Int))) (
  .rM) <|
 .ret [.int .i64 y1]
theorem fL_szRate x0 x1:qft qa0 129 [qv7 x0,.int .i64 x1] (tL_szRate x0 x1) :=fitK (by kernel_rfl)
def tS_RatOk (x0:qy1):T :=
 .qc7 84 [qv0 (x0.1,x0.2.1,())] fun y1 =>
 .bF y1 <|
 .qc7 133 [Sc.val .l x0.2.2.1] fun y2 =>
 .bF y2 <|
 .br ((↑x0.2.2.1.n:Int) == (0:Int)) (
  .rF) <|
 .br (decide ((↑x0.2.2.1.n:Int) > (18:Int))) (
  .rF) <|
 .br (decide ((↑x0.2.1.n:Int) > (18:Int))) (
  .rF) <|
 .qc10 176 [Sc.val .l x0.2.1,Sc.val .l x0.2.2.1] fun y3 =>
 .fz ((1:Nat)) [.int .i64 1] 3 fun b4 c4 =>
 .qc0 142 [Sc.val .l y3,.slice (some { block:=b4,off:=(0:Nat):Addr }) ((1:Nat)) (c4)] fun y5 =>
 .ret [.bool (y5 == (0:Int))]
theorem fS_RatOk x0:qft qa0 130 [qv1 x0] (tS_RatOk x0) :=fitK (by kernel_rfl)
def tS_RateOk (x0:qy7):T :=
 .qc7 95 [.string x0.1] fun y1 =>
 .br y1 (
  .qc7 95 [.string x0.2.1] fun y2 =>
  .br y2 (
   .br (!ByteArray.toList x0.1 == ByteArray.toList x0.2.1) (
    .qc7 114 [qv4 x0.2.2] fun y3 =>
    .br y3 (
     .qc0 177 [qv0 (x0.2.2.1,x0.2.2.2.1,())] fun y4 =>
     .br (decide (y4 > (0:Int))) (
      .ret [.bool (decide ((↑x0.2.2.2.1.n:Int)≤(2:Int)))]) <|
 .rF) <|
 .rF) <|
 .rF) <|
 .rF) <|
 .rF
theorem fS_RateOk x0:qft qa0 131 [qv7 x0] (tS_RateOk x0) :=fitK (by kernel_rfl)
def aS_l10At:An:=⟨[(2,[.s 11],[.o (.o (.i .i64))])],[],[]⟩
def tS_l10At (x0:SlV) (x1:ByteArray) (x2:ByteArray):T :=
 .lp [.o (.o (.i .i64))] [.v (.int .i64 0)] fun y1 =>
 .br (decide (y1.1<(↑x0.n:Int))) (
  .el x0.1 (x0.n) y1.1 fun y2 =>
  .ql35 (y2.add (Int.toNat y1.1*(5:Nat))) fun y3 =>
  .br (ByteArray.toList y3.1 == x1.toList) (
   .br (ByteArray.toList y3.2.1 == x2.toList) (
    .ret [.int .i64 y1.1]) <|
 .nx 0 [.v (.int .i64 (IntKind.i64.wrap (y1.1+(1:Int))))]) <|
 .nx 0 [.v (.int .i64 (IntKind.i64.wrap (y1.1+(1:Int))))]) <|
 .rM
theorem fS_l10At x0 x1 x2:qft aS_l10At 132 [Sc.val .l x0,.string x1,.string x2] (tS_l10At x0 x1 x2) :=fitK (by kernel_rfl)
def aS_NatOk:An:=⟨[(2,[.s 7],[.o (.o (.i .i64))])],[],[]⟩
def tS_NatOk (x0:SlV):T :=
 .lp [.o (.o (.i .i64))] [.v (.int .i64 0)] fun y1 =>
 .br (decide (y1.1<(↑x0.n:Int))) (
  .el x0.1 (x0.n) y1.1 fun y2 =>
  .ql14 (y2.add (Int.toNat y1.1*(1:Nat))) fun y3 =>
  .qc7 83 [.int .i64 y3,.int .i64 0,.int .i64 999999999] fun y4 =>
  .bF y4 <|
 .nx 0 [.v (.int .i64 (IntKind.i64.wrap (y1.1+(1:Int))))]) <|
 .br (decide ((↑x0.n:Int)≤(50:Int))) (
  .br ((↑x0.n:Int) == (0:Int)) (
   .rT) <|
 .el x0.1 (x0.n) (IntKind.i64.wrap ((↑x0.n:Int)-(1:Int))) fun y2 =>
  .ql14 (y2.add ((IntKind.i64.wrap ((↑x0.n:Int)-(1:Int))).toNat*(1:Nat))) fun y3 =>
  .ret [.bool (y3 != (0:Int))]) <|
 .rF
theorem fS_NatOk x0:qft aS_NatOk 133 [Sc.val .l x0] (tS_NatOk x0) :=fitK (by kernel_rfl)
def tS_l05Low (x0:Bool) (x1:SlV) (x2:SlV):T :=
 .qc10 178 [Sc.val .l x1] fun y1 =>
 .qc10 178 [Sc.val .l x2] fun y2 =>
 .br ((↑y2.n:Int) == (0:Int)) (
  .ret [qv1 ((false),nilS,nilS,()),.bool (false)]) <|
 .qc10 179 [Sc.val .l y1,Sc.val .l y2] fun y3 =>
 .qc36 138 [Sc.val .l y1,Sc.val .l y3] fun y4 =>
 .qc36 138 [Sc.val .l y2,Sc.val .l y3] fun y5 =>
 .br (decide ((↑y4.1.n:Int) > (18:Int))) (
  .ret [qv1 ((false),nilS,nilS,()),.bool (false)]) <|
 .br (decide ((↑y5.1.n:Int) > (18:Int))) (
  .ret [qv1 ((false),nilS,nilS,()),.bool (false)]) <|
 .qc13 135 [.bool x0,Sc.val .l y4.1] fun y6 =>
 .rd ({ a:=y5.1.1,n:=y5.1.n,c:=y5.1.c:SlV }) ((1:Nat)) fun y7 =>
 .rq (one y7=true∧((0:Nat)+y5.1.n)*(8:Nat)≤(140737488355328:Nat)∧(0:Nat)+y5.1.n≤(9223372036854775807:Nat)) <|
 .fz ((0:Nat)+y5.1.n) ([]++y7) 3 fun b8 c8 =>
 .ret [qv1 (y6.1,y6.2.1,(⟨(some { block:=b8,off:=(0:Nat):Addr }),((0:Nat)+y5.1.n),(c8)⟩:SlV),()),.bool (true)]
theorem fS_l05Low x0 x1 x2:qft qa0 134 [.bool x0,Sc.val .l x1,Sc.val .l x2] (tS_l05Low x0 x1 x2) :=fitK (by kernel_rfl)
def tS_l04Make (x0:Bool) (x1:SlV):T :=
 .qc10 180 [Sc.val .l x1] fun y1 =>
 .br x0 (
  .rd ({ a:=y1.1,n:=y1.n,c:=y1.c:SlV }) ((1:Nat)) fun y2 =>
  .rq (one y2=true∧((0:Nat)+y1.n)*(8:Nat)≤(140737488355328:Nat)∧(0:Nat)+y1.n≤(9223372036854775807:Nat)) <|
 .fz ((0:Nat)+y1.n) ([]++y2) 3 fun b3 c3 =>
  .ret [qv0 ((decide ((↑y1.n:Int) > (0:Int))),(⟨(some { block:=b3,off:=(0:Nat):Addr }),((0:Nat)+y1.n),(c3)⟩:SlV),())]) <|
 .rd ({ a:=y1.1,n:=y1.n,c:=y1.c:SlV }) ((1:Nat)) fun y2 =>
 .rq (one y2=true∧((0:Nat)+y1.n)*(8:Nat)≤(140737488355328:Nat)∧(0:Nat)+y1.n≤(9223372036854775807:Nat)) <|
 .fz ((0:Nat)+y1.n) ([]++y2) 3 fun b3 c3 =>
 .ret [qv0 ((false),(⟨(some { block:=b3,off:=(0:Nat):Addr }),((0:Nat)+y1.n),(c3)⟩:SlV),())]
theorem fS_l04Make x0 x1:qft qa0 135 [.bool x0,Sc.val .l x1] (tS_l04Make x0 x1) :=fitK (by kernel_rfl)
def aS_NatOf:An:=⟨[(2,[.s 0,.s 3],[.o (.o (.i .i64)),.a 3])],[],[]⟩
def tS_NatOf (x0:Int):T :=
 .lp [.o (.o (.i .i64)),.a 3] [.v (.int .i64 x0),.a 3 ((0:Nat)) []] fun y1 =>
 .br (decide (y1.1 > (0:Int))) (
  .rq ((1000000000:Int)≠(0:Int)) <|
 .rq ([Value.int IntKind.i64 (Int.tmod y1.1 (1000000000:Int))].length=(1:Nat)*(1:Nat)) <|
 .rq (one [Value.int IntKind.i64 (Int.tmod y1.1 (1000000000:Int))]=true∧(y1.2.1.1+(1:Nat))*(8:Nat)≤(140737488355328:Nat)∧y1.2.1.1+(1:Nat)≤(9223372036854775807:Nat)) <|
 .rq ((1000000000:Int)≠(0:Int)) <|
 .nx 0 [.v (.int .i64 (IntKind.i64.wrap (Int.tdiv y1.1 (1000000000:Int)))),.a 3 (y1.2.1.1+(1:Nat)) (y1.2.1.2++[Value.int IntKind.i64 (Int.tmod y1.1 (1000000000:Int))])]) <|
 .fz y1.2.1.1 y1.2.1.2 3 fun b2 c2 =>
 .ret [.slice (some { block:=b2,off:=(0:Nat):Addr }) y1.2.1.1 (c2)]
theorem fS_NatOf x0:qft aS_NatOf 136 [.int .i64 x0] (tS_NatOf x0) :=fitK (by kernel_rfl)
def aS_l02Mul:An:=⟨[(5,[.s 5,.s 28],[.a 3,.o (.o (.i .i64))]),(9,[.s 5,.s 8,.s 35],[.a 3,.o (.o (.i .i64)),.o (.o (.i .i64))])],[],[]⟩
def tS_l02Mul (x0:SlV) (x1:SlV):T :=
 .br ((↑x0.n:Int) == (0:Int)) (
  .ret [.slice none 0 0]) <|
 .br ((↑x1.n:Int) == (0:Int)) (
  .ret [.slice none 0 0]) <|
 .rq ((0:Int)≤IntKind.i64.wrap ((↑x0.n:Int)+(↑x1.n:Int))∧IntKind.i64.wrap ((↑x0.n:Int)+(↑x1.n:Int))≤IntKind.i64.wrap ((↑x0.n:Int)+(↑x1.n:Int))∧(↑(8:Nat):Int)*IntKind.i64.wrap ((↑x0.n:Int)+(↑x1.n:Int))≤(281474976710656:Int)∧IntKind.i64.wrap ((↑x0.n:Int)+(↑x1.n:Int))≤(9223372036854775807:Int)) <|
 .lp [.a 3,.o (.o (.i .i64))] [.a 3 ((IntKind.i64.wrap ((↑x0.n:Int)+(↑x1.n:Int))).toNat) ((madeCells { toList:=[Value.int IntKind.i64 (0:Int)]:Array Value } ((IntKind.i64.wrap ((↑x0.n:Int)+(↑x1.n:Int))).toNat*(1:Nat))).toList),.v (.int .i64 0)] fun y1 =>
 .br (decide (y1.2.1<(↑x0.n:Int))) (
  .el x0.1 (x0.n) y1.2.1 fun y2 =>
  .ql14 (y2.add (Int.toNat y1.2.1*(1:Nat))) fun y3 =>
  .lp [.a 3,.o (.o (.i .i64)),.o (.o (.i .i64))] [.a 3 y1.1.1 y1.1.2,.v (.int .i64 0),.v (.int .i64 0)] fun y4 =>
  .br (decide (y4.2.2.1<(↑x1.n:Int))) (
   .el x1.1 (x1.n) y4.2.2.1 fun y5 =>
   .ql14 (y5.add (Int.toNat y4.2.2.1*(1:Nat))) fun y6 =>
   .rq ((0:Int)≤IntKind.i64.wrap (y1.2.1+y4.2.2.1)∧IntKind.i64.wrap (y1.2.1+y4.2.2.1)<(↑y4.1.1:Int)) <|
 .xs y4.1.2 ((IntKind.i64.wrap (y1.2.1+y4.2.2.1)).toNat*(1:Nat)) (.o (.i .i64)) fun y7 =>
   .rq ((1000000000:Int)≠(0:Int)) <|
 .rq ((0:Int)≤IntKind.i64.wrap (y1.2.1+y4.2.2.1)∧IntKind.i64.wrap (y1.2.1+y4.2.2.1)<(↑y4.1.1:Int)) <|
 .rq ((IntKind.i64.wrap (y1.2.1+y4.2.2.1)).toNat*(1:Nat)+[Value.int IntKind.i64 ((IntKind.i64.wrap (IntKind.i64.wrap (y7+IntKind.i64.wrap (y3*y6))+y4.2.1)).tmod (1000000000:Int))].length≤y4.1.2.length) <|
 .rq ((1000000000:Int)≠(0:Int)) <|
 .nx 1 [.a 3 y4.1.1 (setl y4.1.2 ((IntKind.i64.wrap (y1.2.1+y4.2.2.1)).toNat*(1:Nat)) [Value.int IntKind.i64 ((IntKind.i64.wrap (IntKind.i64.wrap (y7+IntKind.i64.wrap (y3*y6))+y4.2.1)).tmod (1000000000:Int))]),.v (.int .i64 (IntKind.i64.wrap ((IntKind.i64.wrap (IntKind.i64.wrap (y7+IntKind.i64.wrap (y3*y6))+y4.2.1)).tdiv (1000000000:Int)))),.v (.int .i64 (IntKind.i64.wrap (y4.2.2.1+(1:Int))))]) <|
 .rq ((0:Int)≤IntKind.i64.wrap (y1.2.1+(↑x1.n:Int))∧IntKind.i64.wrap (y1.2.1+(↑x1.n:Int))<(↑y4.1.1:Int)) <|
 .rq ((IntKind.i64.wrap (y1.2.1+(↑x1.n:Int))).toNat*(1:Nat)+[(Sh1.o (Sc.i IntKind.i64)).val y4.2.1].length≤y4.1.2.length) <|
 .nx 0 [.a 3 y4.1.1 (setl y4.1.2 ((IntKind.i64.wrap (y1.2.1+(↑x1.n:Int))).toNat*(1:Nat)) [(Sh1.o (Sc.i IntKind.i64)).val y4.2.1]),.v (.int .i64 (IntKind.i64.wrap (y1.2.1+(1:Int))))]) <|
 .fz y1.1.1 y1.1.2 3 fun b2 c2 =>
 .qc10 178 [.slice (some { block:=b2,off:=(0:Nat):Addr }) y1.1.1 (c2)] fun y3 =>
 .ret [Sc.val .l y3]
theorem fS_l02Mul x0 x1:qft aS_l02Mul 137 [Sc.val .l x0,Sc.val .l x1] (tS_l02Mul x0 x1) :=fitK (by kernel_rfl)
end
end Go.Proofs.YtceoihhldnnenaaGreatDoor
