/-
  What each function of the seat comes to, as a tree; each tree is checked against the code.
-/
import Derived.Test.YtfiakghfncempaaGreatDoorEngD
import Derived.Test.YtfiakghfncempaaGreatDoorChecked
import Derived.KernelRfl
namespace Go.Proofs.YtfiakghfncempaaGreatDoor
open Sx
set_option maxRecDepth 100000
noncomputable section
abbrev qft:=@fits Tryz.prog
abbrev qa0:An:=⟨[],[],[]⟩
abbrev _root_.Sx.T.rF:T:=.ret [.bool false]
abbrev _root_.Sx.T.rT:T:=.ret [.bool true]
abbrev _root_.Sx.T.rM:T:=.ret [.int .i64 (-1)]
abbrev _root_.Sx.T.bF (b:Bool) (y:T):T:=.br (!b) (.ret [.bool false]) y
abbrev _root_.Sx.T.bn (b:Bool) (x:T) (y:T):T:=.br (!b) x y
abbrev _root_.Sx.T.qc0 (g:Nat) (l:List Value) (k:Sh.ty (.v (.o (.i .i64)))→T):T:=.call false g l (.v (.o (.i .i64))) k
abbrev _root_.Sx.T.qc1 (g:Nat) (l:List Value) (k:Sh.ty (.v (.g [.l,.l,.s,.l]))→T):T:=.call true g l (.v (.g [.l,.l,.s,.l])) k
abbrev _root_.Sx.T.qc2 (g:Nat) (l:List Value) (k:Sh.ty (.v (.o (.l)))→T):T:=.call true g l (.v (.o (.l))) k
abbrev _root_.Sx.T.qc3 (g:Nat) (l:List Value) (k:Sh.ty (.v (.g [.s,.b,.l]))→T):T:=.call false g l (.v (.g [.s,.b,.l])) k
abbrev _root_.Sx.T.qc4 (g:Nat) (l:List Value) (k:Sh.ty (.t [(.g [.l,.l,.s,.l]),(.o (.i .i64))])→T):T:=.call false g l (.t [(.g [.l,.l,.s,.l]),(.o (.i .i64))]) k
abbrev _root_.Sx.T.qc5 (g:Nat) (l:List Value) (k:Sh.ty (.v (.g [.l,.l,.s,.l]))→T):T:=.call false g l (.v (.g [.l,.l,.s,.l])) k
abbrev _root_.Sx.T.qc6 (g:Nat) (l:List Value) (k:Sh.ty (.v (.o (.l)))→T):T:=.call false g l (.v (.o (.l))) k
abbrev _root_.Sx.T.qc7 (g:Nat) (l:List Value) (k:Sh.ty (.v (.o (.b)))→T):T:=.call false g l (.v (.o (.b))) k
abbrev _root_.Sx.T.qc8 (g:Nat) (l:List Value) (k:Sh.ty (.v (.g [.s,.b,.l]))→T):T:=.call true g l (.v (.g [.s,.b,.l])) k
abbrev _root_.Sx.T.ql9 (a:Addr) (k:Sh1.ty (.g [.s,.b,.l])→T):T:=.ld false a (.g [.s,.b,.l]) k
abbrev _root_.Sx.T.ql10 (a:Addr) (k:Sh1.ty (.o (.s))→T):T:=.ld false a (.o (.s)) k
abbrev _root_.Sx.T.qc11 (g:Nat) (l:List Value) (k:Sh.ty (.t [(.o (.l)),(.o (.b))])→T):T:=.call false g l (.t [(.o (.l)),(.o (.b))]) k
abbrev _root_.Sx.T.ql12 (a:Addr) (k:Sh1.ty (.o (.s))→T):T:=.ld true a (.o (.s)) k
abbrev _root_.Sx.T.qc13 (g:Nat) (l:List Value) (k:Sh.ty (.v (.g [.l]))→T):T:=.call false g l (.v (.g [.l])) k
abbrev _root_.Sx.T.qc14 (g:Nat) (l:List Value) (k:Sh.ty (.v (.g [.s,.l]))→T):T:=.call false g l (.v (.g [.s,.l])) k
abbrev _root_.Sx.T.ql15 (a:Addr) (k:Sh1.ty (.o (.i .i64))→T):T:=.ld false a (.o (.i .i64)) k
abbrev _root_.Sx.T.qc16 (g:Nat) (l:List Value) (k:Sh.ty (.v (.g [.b,.l]))→T):T:=.call false g l (.v (.g [.b,.l])) k
abbrev _root_.Sx.T.ql17 (a:Addr) (k:Sh1.ty (.o (.i .i64))→T):T:=.ld true a (.o (.i .i64)) k
abbrev _root_.Sx.T.qc18 (g:Nat) (l:List Value) (k:Sh.ty (.v (.o (.s)))→T):T:=.call false g l (.v (.o (.s))) k
abbrev _root_.Sx.T.ql19 (a:Addr) (k:Sh1.ty (.g [.s,.s,.i .i64,.i .i64,.s,.s,.i .i64,.i .i64,.s,.s,.i .i64,.i .i64,.s,.s,.i .i64,.i .i64,.s,.s,.i .i64,.i .i64,.s,.s,.i .i64,.i .i64,.s,.s,.i .i64,.i .i64,.s,.s,.i .i64,.i .i64,.s,.s,.i .i64,.i .i64,.s,.s,.i .i64,.i .i64,.s,.s,.i .i64,.i .i64,.s,.s,.i .i64,.i .i64,.s,.s,.i .i64,.i .i64,.s,.s,.i .i64,.i .i64,.s,.s,.i .i64,.i .i64,.s,.s,.i .i64,.i .i64,.s,.s,.i .i64,.i .i64,.s,.s,.i .i64,.i .i64,.s,.s,.i .i64,.i .i64,.s,.s,.i .i64,.i .i64])→T):T:=.ld false a (.g [.s,.s,.i .i64,.i .i64,.s,.s,.i .i64,.i .i64,.s,.s,.i .i64,.i .i64,.s,.s,.i .i64,.i .i64,.s,.s,.i .i64,.i .i64,.s,.s,.i .i64,.i .i64,.s,.s,.i .i64,.i .i64,.s,.s,.i .i64,.i .i64,.s,.s,.i .i64,.i .i64,.s,.s,.i .i64,.i .i64,.s,.s,.i .i64,.i .i64,.s,.s,.i .i64,.i .i64,.s,.s,.i .i64,.i .i64,.s,.s,.i .i64,.i .i64,.s,.s,.i .i64,.i .i64,.s,.s,.i .i64,.i .i64,.s,.s,.i .i64,.i .i64,.s,.s,.i .i64,.i .i64,.s,.s,.i .i64,.i .i64,.s,.s,.i .i64,.i .i64]) k
abbrev _root_.Sx.T.qc20 (g:Nat) (l:List Value) (k:Sh.ty (.t [(.o (.l)),(.o (.i .i64))])→T):T:=.call false g l (.t [(.o (.l)),(.o (.i .i64))]) k
abbrev _root_.Sx.T.qc21 (g:Nat) (l:List Value) (k:Sh.ty (.v (.g [.b,.l]))→T):T:=.call true g l (.v (.g [.b,.l])) k
abbrev _root_.Sx.T.ql22 (a:Addr) (k:Sh1.ty (.g [.s,.b,.l,.l])→T):T:=.ld false a (.g [.s,.b,.l,.l]) k
abbrev _root_.Sx.T.ql23 (a:Addr) (k:Sh1.ty (.g [.b,.l])→T):T:=.ld false a (.g [.b,.l]) k
abbrev _root_.Sx.T.ql24 (a:Addr) (k:Sh1.ty (.g [.s,.s,.b,.l])→T):T:=.ld false a (.g [.s,.s,.b,.l]) k
abbrev _root_.Sx.T.qc25 (g:Nat) (l:List Value) (k:Sh.ty (.v (.o (.i .i64)))→T):T:=.call true g l (.v (.o (.i .i64))) k
abbrev _root_.Sx.T.qc26 (g:Nat) (l:List Value) (k:Sh.ty (.t [(.g [.l]),(.o (.b))])→T):T:=.call false g l (.t [(.g [.l]),(.o (.b))]) k
abbrev _root_.Sx.T.qc27 (g:Nat) (l:List Value) (k:Sh.ty (.v (.g [.s,.b,.l,.l]))→T):T:=.call false g l (.v (.g [.s,.b,.l,.l])) k
abbrev _root_.Sx.T.ql28 (a:Addr) (k:Sh1.ty (.g [.s,.b,.l,.l])→T):T:=.ld true a (.g [.s,.b,.l,.l]) k
abbrev _root_.Sx.T.ql29 (a:Addr) (k:Sh1.ty (.o (.l))→T):T:=.ld false a (.o (.l)) k
abbrev _root_.Sx.T.qc30 (g:Nat) (l:List Value) (k:Sh.ty (.v (.o (.s)))→T):T:=.call true g l (.v (.o (.s))) k
abbrev _root_.Sx.T.ql31 (a:Addr) (k:Sh1.ty (.o (.b))→T):T:=.ld false a (.o (.b)) k
abbrev _root_.Sx.T.qc32 (g:Nat) (l:List Value) (k:Sh.ty (.v (.g [.l]))→T):T:=.call true g l (.v (.g [.l])) k
abbrev _root_.Sx.T.qc33 (g:Nat) (l:List Value) (k:Sh.ty (.t [])→T):T:=.call false g l (.t []) k
abbrev _root_.Sx.T.qc34 (g:Nat) (l:List Value) (k:Sh.ty (.t [(.o (.l)),(.o (.l))])→T):T:=.call false g l (.t [(.o (.l)),(.o (.l))]) k
abbrev _root_.Sx.T.qc35 (g:Nat) (l:List Value) (k:Sh.ty (.t [(.g [.s,.s,.i .i64,.i .i64]),(.o (.b))])→T):T:=.call false g l (.t [(.g [.s,.s,.i .i64,.i .i64]),(.o (.b))]) k
abbrev _root_.Sx.T.ql36 (a:Addr) (k:Sh1.ty (.g [.s,.s,.b,.l,.i .i64])→T):T:=.ld false a (.g [.s,.s,.b,.l,.i .i64]) k
abbrev _root_.Sx.T.qc37 (g:Nat) (l:List Value) (k:Sh.ty (.v (.o (.b)))→T):T:=.call true g l (.v (.o (.b))) k
abbrev _root_.Sx.T.qc38 (g:Nat) (l:List Value) (k:Sh.ty (.t [(.g [.b,.l,.l]),(.o (.b))])→T):T:=.call false g l (.t [(.g [.b,.l,.l]),(.o (.b))]) k
abbrev _root_.Sx.T.qc39 (g:Nat) (l:List Value) (k:Sh.ty (.t [(.g [.b,.l]),(.o (.b))])→T):T:=.call false g l (.t [(.g [.b,.l]),(.o (.b))]) k
abbrev _root_.Sx.T.qc40 (g:Nat) (l:List Value) (k:Sh.ty (.v (.g [.b,.l,.l]))→T):T:=.call false g l (.v (.g [.b,.l,.l])) k
abbrev _root_.Sx.T.qc41 (g:Nat) (l:List Value) (k:Sh.ty (.t [(.o (.i .i64)),(.o (.b))])→T):T:=.call false g l (.t [(.o (.i .i64)),(.o (.b))]) k
abbrev _root_.Sx.T.ql42 (a:Addr) (k:Sh1.ty (.g [.b,.l,.l])→T):T:=.ld false a (.g [.b,.l,.l]) k
abbrev _root_.Sx.T.ql43 (a:Addr) (k:Sh1.ty (.g [.b,.l,.l])→T):T:=.ld true a (.g [.b,.l,.l]) k
abbrev _root_.Sx.T.ql44 (a:Addr) (k:Sh1.ty (.g [.b,.l])→T):T:=.ld true a (.g [.b,.l]) k
abbrev _root_.Sx.T.ql45 (a:Addr) (k:Sh1.ty (.g [.s,.b,.l])→T):T:=.ld true a (.g [.s,.b,.l]) k
abbrev _root_.Sx.T.qc46 (g:Nat) (l:List Value) (k:Sh.ty (.t [(.g [.s,.b,.l]),(.o (.b))])→T):T:=.call false g l (.t [(.g [.s,.b,.l]),(.o (.b))]) k
abbrev _root_.Sx.T.qc47 (g:Nat) (l:List Value) (k:Sh.ty (.v (.g [.s,.s,.b,.l]))→T):T:=.call false g l (.v (.g [.s,.s,.b,.l])) k
abbrev _root_.Sx.T.qc48 (g:Nat) (l:List Value) (k:Sh.ty (.v (.g [.s,.s,.b,.l,.i .i64]))→T):T:=.call false g l (.v (.g [.s,.s,.b,.l,.i .i64])) k
abbrev _root_.Sx.T.ql49 (a:Addr) (k:Sh1.ty (.g [.s,.s,.b,.l])→T):T:=.ld true a (.g [.s,.s,.b,.l]) k
abbrev _root_.Sx.T.ql50 (a:Addr) (k:Sh1.ty (.g [.s,.s,.b,.l,.i .i64])→T):T:=.ld true a (.g [.s,.s,.b,.l,.i .i64]) k
abbrev _root_.Sx.T.qc51 (g:Nat) (l:List Value) (k:Sh.ty (.v (.g [.s,.s,.i .i64,.i .i64]))→T):T:=.call false g l (.v (.g [.s,.s,.i .i64,.i .i64])) k
abbrev _root_.Sx.T.qc52 (g:Nat) (l:List Value) (k:Sh.ty (.v (.g [.b,.l,.l]))→T):T:=.call true g l (.v (.g [.b,.l,.l])) k
abbrev _root_.Sx.T.qc53 (g:Nat) (l:List Value) (k:Sh.ty (.v (.g [.s,.s,.b,.l,.i .i64]))→T):T:=.call true g l (.v (.g [.s,.s,.b,.l,.i .i64])) k
abbrev _root_.Sx.T.qc54 (g:Nat) (l:List Value) (k:Sh.ty (.t [(.g [.b,.l]),(.g [.b,.l,.l]),(.o (.b))])→T):T:=.call false g l (.t [(.g [.b,.l]),(.g [.b,.l,.l]),(.o (.b))]) k
abbrev _root_.Sx.T.qc55 (g:Nat) (l:List Value) (k:Sh.ty (.v (.g [.b,.l,.i .i64]))→T):T:=.call false g l (.v (.g [.b,.l,.i .i64])) k
abbrev _root_.Sx.T.ql56 (a:Addr) (k:Sh1.ty (.g [.s,.s,.i .i64,.i .i64])→T):T:=.ld false a (.g [.s,.s,.i .i64,.i .i64]) k
abbrev _root_.Sx.T.qc57 (g:Nat) (l:List Value) (k:Sh.ty (.v (.g [.b,.l,.i .i64]))→T):T:=.call true g l (.v (.g [.b,.l,.i .i64])) k
abbrev _root_.Sx.T.ql58 (a:Addr) (k:Sh1.ty (.g [.i .i64,.l])→T):T:=.ld false a (.g [.i .i64,.l]) k
abbrev _root_.Sx.T.ql59 (a:Addr) (k:Sh1.ty (.g [.l])→T):T:=.ld false a (.g [.l]) k
abbrev _root_.Sx.T.ql60 (a:Addr) (k:Sh1.ty (.o (.l))→T):T:=.ld true a (.o (.l)) k
abbrev _root_.Sx.T.ql61 (a:Addr) (k:Sh1.ty (.g [.i .i64,.l])→T):T:=.ld true a (.g [.i .i64,.l]) k
def tL_FnExactDoDeal (x0:qy3) (x1:ByteArray) (x2:SlV) (x3:SlV) (x4:qy1):T :=
 .br (decide ((↑x1.size:Int) > (1048576:Int))) (
  .rT) <|
 .br (decide ((↑x3.n:Int) > (1048576:Int))) (
  .rT) <|
 .qc0 22 [qv3 x0,.int .i64 1048576] fun y1 =>
 .br (decide (y1<(0:Int))) (
  .rT) <|
 .qc0 23 [Sc.val .l x2,.int .i64 y1] fun y2 =>
 .br (decide (y2<(0:Int))) (
  .rT) <|
 .qc0 24 [qv2 x4,.int .i64 y2] fun y3 =>
 .br (decide (y3<(0:Int))) (
  .rT) <|
 .rg <|
 .qc1 26 [qv3 x0] fun y4 =>
 .qc2 27 [Sc.val .l x2] fun y5 =>
 .qc2 28 [Sc.val .l x3] fun y6 =>
 .qc3 29 [qv2 x4] fun y7 =>
 .qc4 25 [qv3 y4,.string x1,Sc.val .l y5,Sc.val .l y6,qv2 y7] fun y8 =>
 .qc5 26 [qv3 x0] fun y9 =>
 .qc6 27 [Sc.val .l x2] fun y10 =>
 .qc6 28 [Sc.val .l x3] fun y11 =>
 .qc3 29 [qv2 x4] fun y12 =>
 .qc4 30 [qv3 y9,.string x1,Sc.val .l y10,Sc.val .l y11,qv2 y12] fun y13 =>
 .qc7 31 [qv3 y13.1,qv3 y8.1] fun y14 =>
 .bF y14 <|
 .br (y13.2.1 != y8.2.1) (
  .rF) <|
 .rg <|
 .qc1 26 [qv3 x0] fun y15 =>
 .qc7 31 [qv3 y9,qv3 y15] fun y16 =>
 .bF y16 <|
 .qc6 27 [Sc.val .l x2] fun y17 =>
 .qc7 32 [Sc.val .l y10,Sc.val .l y17] fun y18 =>
 .bF y18 <|
 .qc6 28 [Sc.val .l x3] fun y19 =>
 .qc7 33 [Sc.val .l y11,Sc.val .l y19] fun y20 =>
 .bF y20 <|
 .rg <|
 .qc8 29 [qv2 x4] fun y21 =>
 .qc7 34 [qv2 y12,qv2 y21] fun y22 =>
 .bF y22 <|
 .qc0 35 [qv3 y9,.int .i64 1] fun y23 =>
 .qc0 36 [Sc.val .l y10,.int .i64 y23] fun y24 =>
 .qc0 37 [Sc.val .l y11,.int .i64 y24] fun y25 =>
 .qc0 38 [qv2 y12,.int .i64 y25] fun y26 =>
 .br (decide (y26<(0:Int))) (
  .rF) <|
 .qc7 31 [qv3 y13.1,qv3 y8.1] fun y27 =>
 .bF y27 <|
 .br (y13.2.1 != y8.2.1) (
  .rF) <|
 .qc0 35 [qv3 y13.1,.int .i64 1] fun y28 =>
 .qc0 39 [qv3 y13.1,.int .i64 1] fun y29 =>
 .br (decide (y29<(0:Int))) (
  .rF) <|
 .br (y29 != y28) (
  .rF) <|
 .rg <|
 .qc1 26 [qv3 x0] fun y30 =>
 .qc2 27 [Sc.val .l x2] fun y31 =>
 .qc2 28 [Sc.val .l x3] fun y32 =>
 .qc3 29 [qv2 x4] fun y33 =>
 .qc4 30 [qv3 y30,.string x1,Sc.val .l y31,Sc.val .l y32,qv2 y33] fun y34 =>
 .qc7 31 [qv3 y34.1,qv3 y8.1] fun y35 =>
 .bF y35 <|
 .br (y34.2.1 != y8.2.1) (
  .rF) <|
 .qc0 39 [qv3 y13.1,.int .i64 1] fun y36 =>
 .br (decide (y36<(0:Int))) (
  .rF) <|
 .br (y36 != y28) (
  .rF) <|
 .rT
theorem fL_FnExactDoDeal x0 x1 x2 x3 x4:qft qa0 4 [qv3 x0,.string x1,Sc.val .l x2,Sc.val .l x3,qv2 x4] (tL_FnExactDoDeal x0 x1 x2 x3 x4) :=fitK (by kernel_rfl)
def tI_BalanceOf (x0:qy4) (x1:ByteArray):T :=
 .qc0 43 [qv4 x0,.string x1] fun y1 =>
 .br (decide (y1<(0:Int))) (
  .ret [qv2 (({ data:={ toList:=[]:Array UInt8 }:ByteArray }),(false),nilS,()),.bool (false)]) <|
 .el x0.1.1 (x0.1.n) y1 fun y2 =>
 .ql9 ((y2.add (y1.toNat*(4:Nat))).add (1:Nat)) fun y3 =>
 .qc3 44 [qv2 y3] fun y4 =>
 .ret [qv2 y4,.bool (true)]
theorem fI_BalanceOf x0 x1:qft qa0 7 [qv4 x0,.string x1] (tI_BalanceOf x0 x1) :=fitK (by kernel_rfl)
def tI_NatOf (x0:Int):T :=
 .br (decide (x0<(0:Int))) (
  .ret [.slice none 0 0]) <|
 .qc6 50 [.int .u64 (IntKind.u64.wrap x0)] fun y1 =>
 .ret [Sc.val .l y1]
theorem fI_NatOf x0:qft qa0 12 [.int .i64 x0] (tI_NatOf x0) :=fitK (by kernel_rfl)
def tL_szLedger (x0:qy3) (x1:Int):T :=
 .qc0 67 [qv4 (x0.1,()),.int .i64 x1] fun y1 =>
 .br (decide (y1<(0:Int))) (
  .rM) <|
 .qc0 68 [Sc.val .l x0.2.1,.int .i64 y1] fun y2 =>
 .br (decide (y2<(0:Int))) (
  .rM) <|
 .qc0 69 [qv5 x0.2.2,.int .i64 y2] fun y3 =>
 .br (decide (y3<(0:Int))) (
  .rM) <|
 .ret [.int .i64 y3]
theorem fL_szLedger x0 x1:qft qa0 22 [qv3 x0,.int .i64 x1] (tL_szLedger x0 x1) :=fitK (by kernel_rfl)
def aL_szStringS:An:=⟨[(5,[.s 1,.s 5],[.o (.o (.i .i64)),.o (.o (.i .i64))])],[],[]⟩
def tL_szStringS (x0:SlV) (x1:Int):T :=
 .br (decide (IntKind.i64.wrap (x1-(↑x0.n:Int))<(0:Int))) (
  .rM) <|
 .lp [.o (.o (.i .i64)),.o (.o (.i .i64))] [.v (.int .i64 (IntKind.i64.wrap (x1-(↑x0.n:Int)))),.v (.int .i64 0)] fun y1 =>
 .br (decide (y1.2.1<(↑x0.n:Int))) (
  .el x0.1 (x0.n) y1.2.1 fun y2 =>
  .ql10 (y2.add (Int.toNat y1.2.1*(1:Nat))) fun y3 =>
  .br (decide (IntKind.i64.wrap (y1.1-(↑y3.size:Int))<(0:Int))) (
   .rM) <|
 .nx 0 [.v (.int .i64 (IntKind.i64.wrap (y1.1-(↑y3.size:Int)))),.v (.int .i64 (IntKind.i64.wrap (y1.2.1+(1:Int))))]) <|
 .ret [.int .i64 y1.1]
theorem fL_szStringS x0 x1:qft aL_szStringS 23 [Sc.val .l x0,.int .i64 x1] (tL_szStringS x0 x1) :=fitK (by kernel_rfl)
def tL_szMoney (x0:qy1) (x1:Int):T :=
 .br (decide (IntKind.i64.wrap (x1-(↑(ByteArray.size x0.1):Int))<(0:Int))) (
  .rM) <|
 .qc0 70 [qv0 x0.2,.int .i64 (IntKind.i64.wrap (x1-(↑(ByteArray.size x0.1):Int)))] fun y1 =>
 .br (decide (y1<(0:Int))) (
  .rM) <|
 .ret [.int .i64 y1]
theorem fL_szMoney x0 x1:qft qa0 24 [qv2 x0,.int .i64 x1] (tL_szMoney x0 x1) :=fitK (by kernel_rfl)
def aS_DoDeal:An:=⟨[(8,[.s 14,.s 60],[.a 133,.o (.o (.i .i64))])],[],[]⟩
def tS_DoDeal (x0:qy3) (x1:ByteArray) (x2:SlV) (x3:SlV) (x4:qy1):T :=
 .qc7 71 [qv3 x0] fun y1 =>
 .bn y1 (.ret [qv3 (nilS,nilS,({ data:={ toList:=[]:Array UInt8 }:ByteArray }),nilS,()),.int .i64 1]) <|
 .qc7 72 [.string x1] fun y2 =>
 .bn y2 (.ret [qv3 (nilS,nilS,({ data:={ toList:=[]:Array UInt8 }:ByteArray }),nilS,()),.int .i64 1]) <|
 .qc7 73 [Sc.val .l x2] fun y3 =>
 .bn y3 (.ret [qv3 (nilS,nilS,({ data:={ toList:=[]:Array UInt8 }:ByteArray }),nilS,()),.int .i64 1]) <|
 .br ((↑x2.n:Int) != (↑x3.n:Int)) (
  .ret [qv3 (nilS,nilS,({ data:={ toList:=[]:Array UInt8 }:ByteArray }),nilS,()),.int .i64 1]) <|
 .qc7 74 [qv2 x4] fun y4 =>
 .bn y4 (.ret [qv3 (nilS,nilS,({ data:={ toList:=[]:Array UInt8 }:ByteArray }),nilS,()),.int .i64 1]) <|
 .qc7 75 [Sc.val .l x3] fun y5 =>
 .bn y5 (.ret [qv3 (nilS,nilS,({ data:={ toList:=[]:Array UInt8 }:ByteArray }),nilS,()),.int .i64 7]) <|
 .qc11 76 [qv2 x4,Sc.val .l x3] fun y6 =>
 .qc3 77 [qv2 x4] fun y7 =>
 .lp [.a 133,.o (.o (.i .i64))] [.a 133 ((1:Nat)) [.string x1,.string y7.1,.bool y7.2.1,Sc.val .l y7.2.2.1],.v (.int .i64 0)] fun y8 =>
 .br (decide (y8.2.1<(↑y6.1.n:Int))) (
  .el y6.1.1 (y6.1.n) y8.2.1 fun y9 =>
  .ql9 (y9.add (Int.toNat y8.2.1*(3:Nat))) fun y10 =>
  .rg <|
 .el x2.1 (x2.n) y8.2.1 fun y11 =>
  .ql12 (y11.add (Int.toNat y8.2.1*(1:Nat))) fun y12 =>
  .rq ([Value.string y12,Value.string y10.1,Value.bool y10.2.1,Value.slice y10.2.2.1.1 y10.2.2.1.n y10.2.2.1.c].length=(1:Nat)*(4:Nat)) <|
 .rq (one [Value.string y12,Value.string y10.1,Value.bool y10.2.1,Value.slice y10.2.2.1.1 y10.2.2.1.n y10.2.2.1.c]=true∧(y8.1.1+(1:Nat))*(64:Nat)≤(140737488355328:Nat)∧y8.1.1+(1:Nat)≤(9223372036854775807:Nat)) <|
 .nx 0 [.a 133 (y8.1.1+(1:Nat)) (y8.1.2++[Value.string y12,Value.string y10.1,Value.bool y10.2.1,Value.slice y10.2.2.1.1 y10.2.2.1.n y10.2.2.1.c]),.v (.int .i64 (IntKind.i64.wrap (y8.2.1+(1:Int))))]) <|
 .fz y8.1.1 y8.1.2 133 fun b9 c9 =>
 .qc4 78 [qv3 x0,.slice (some { block:=b9,off:=(0:Nat):Addr }) y8.1.1 (c9)] fun y10 =>
 .ret [qv3 y10.1,.int .i64 y10.2.1]
theorem fS_DoDeal x0 x1 x2 x3 x4:qft aS_DoDeal 25 [qv3 x0,.string x1,Sc.val .l x2,Sc.val .l x3,qv2 x4] (tS_DoDeal x0 x1 x2 x3 x4) :=fitK (by kernel_rfl)
def tL_toLedger (x0:qy3):T :=
 .qc13 79 [qv4 (x0.1,())] fun y1 =>
 .qc6 80 [Sc.val .l x0.2.1] fun y2 =>
 .qc14 81 [qv5 x0.2.2] fun y3 =>
 .ret [qv3 (y1.1,y2,y3.1,y3.2.1,())]
theorem fL_toLedger x0:qft qa0 26 [qv3 x0] (tL_toLedger x0) :=fitK (by kernel_rfl)
def aL_toStringS:An:=⟨[(3,[.s 3,.s 4],[.a 9,.o (.o (.i .i64))])],[],[]⟩
def tL_toStringS (x0:SlV):T :=
 .rq ((0:Int)≤(↑x0.n:Int)∧(↑x0.n:Int)≤(↑x0.n:Int)∧(↑(16:Nat):Int)*(↑x0.n:Int)≤(281474976710656:Int)∧(↑x0.n:Int)≤(9223372036854775807:Int)) <|
 .lp [.a 9,.o (.o (.i .i64))] [.a 9 ((↑x0.n:Int).toNat) ((madeCells { toList:=[Value.string { data:={ toList:=[]:Array UInt8 }:ByteArray }]:Array Value } ((↑x0.n:Int).toNat*(1:Nat))).toList),.v (.int .i64 0)] fun y1 =>
 .br (decide (y1.2.1<(↑x0.n:Int))) (
  .el x0.1 (x0.n) y1.2.1 fun y2 =>
  .ql10 (y2.add (Int.toNat y1.2.1*(1:Nat))) fun y3 =>
  .rq ((0:Int)≤y1.2.1∧y1.2.1<(↑y1.1.1:Int)) <|
 .rq (Int.toNat y1.2.1*(1:Nat)+[(Sh1.o Sc.s).val y3].length≤y1.1.2.length) <|
 .nx 0 [.a 9 y1.1.1 (setl y1.1.2 (Int.toNat y1.2.1*(1:Nat)) [(Sh1.o Sc.s).val y3]),.v (.int .i64 (IntKind.i64.wrap (y1.2.1+(1:Int))))]) <|
 .fz y1.1.1 y1.1.2 9 fun b2 c2 =>
 .ret [.slice (some { block:=b2,off:=(0:Nat):Addr }) y1.1.1 (c2)]
theorem fL_toStringS x0:qft aL_toStringS 27 [Sc.val .l x0] (tL_toStringS x0) :=fitK (by kernel_rfl)
def aL_toIntS:An:=⟨[(3,[.s 3,.s 4],[.a 3,.o (.o (.i .i64))])],[],[]⟩
def tL_toIntS (x0:SlV):T :=
 .rq ((0:Int)≤(↑x0.n:Int)∧(↑x0.n:Int)≤(↑x0.n:Int)∧(↑(8:Nat):Int)*(↑x0.n:Int)≤(281474976710656:Int)∧(↑x0.n:Int)≤(9223372036854775807:Int)) <|
 .lp [.a 3,.o (.o (.i .i64))] [.a 3 ((↑x0.n:Int).toNat) ((madeCells { toList:=[Value.int IntKind.i64 (0:Int)]:Array Value } ((↑x0.n:Int).toNat*(1:Nat))).toList),.v (.int .i64 0)] fun y1 =>
 .br (decide (y1.2.1<(↑x0.n:Int))) (
  .el x0.1 (x0.n) y1.2.1 fun y2 =>
  .ql15 (y2.add (Int.toNat y1.2.1*(1:Nat))) fun y3 =>
  .rq ((0:Int)≤y1.2.1∧y1.2.1<(↑y1.1.1:Int)) <|
 .rq (Int.toNat y1.2.1*(1:Nat)+[(Sh1.o (Sc.i IntKind.i64)).val y3].length≤y1.1.2.length) <|
 .nx 0 [.a 3 y1.1.1 (setl y1.1.2 (Int.toNat y1.2.1*(1:Nat)) [(Sh1.o (Sc.i IntKind.i64)).val y3]),.v (.int .i64 (IntKind.i64.wrap (y1.2.1+(1:Int))))]) <|
 .fz y1.1.1 y1.1.2 3 fun b2 c2 =>
 .ret [.slice (some { block:=b2,off:=(0:Nat):Addr }) y1.1.1 (c2)]
theorem fL_toIntS x0:qft aL_toIntS 28 [Sc.val .l x0] (tL_toIntS x0) :=fitK (by kernel_rfl)
def tL_toMoney (x0:qy1):T :=
 .qc16 82 [qv0 x0.2] fun y1 =>
 .ret [qv2 (x0.1,y1.1,y1.2.1,())]
theorem fL_toMoney x0:qft qa0 29 [qv2 x0] (tL_toMoney x0) :=fitK (by kernel_rfl)
def tI_DoDeal (x0:qy3) (x1:ByteArray) (x2:SlV) (x3:SlV) (x4:qy1):T :=
 .qc4 45 [qv3 x0,.iface 141 (qv11 (x1,x2,x3,x4.1,x4.2.1,x4.2.2.1,()))] fun y1 =>
 .ret [qv3 y1.1,.int .i64 y1.2.1]
theorem fI_DoDeal x0 x1 x2 x3 x4:qft qa0 30 [qv3 x0,.string x1,Sc.val .l x2,Sc.val .l x3,qv2 x4] (tI_DoDeal x0 x1 x2 x3 x4) :=fitK (by kernel_rfl)
def tL_eqLedger (x0:qy3) (x1:qy3):T :=
 .qc7 83 [qv4 (x0.1,()),qv4 (x1.1,())] fun y1 =>
 .bF y1 <|
 .qc7 84 [Sc.val .l x0.2.1,Sc.val .l x1.2.1] fun y2 =>
 .bF y2 <|
 .qc7 85 [qv5 x0.2.2,qv5 x1.2.2] fun y3 =>
 .bF y3 <|
 .rT
theorem fL_eqLedger x0 x1:qft qa0 31 [qv3 x0,qv3 x1] (tL_eqLedger x0 x1) :=fitK (by kernel_rfl)
def aL_eqStringS:An:=⟨[(4,[.s 5],[.o (.o (.i .i64))])],[],[]⟩
def tL_eqStringS (x0:SlV) (x1:SlV):T :=
 .br ((↑x0.n:Int) != (↑x1.n:Int)) (
  .rF) <|
 .lp [.o (.o (.i .i64))] [.v (.int .i64 0)] fun y1 =>
 .br (decide (y1.1<(↑x0.n:Int))) (
  .rg <|
 .el x0.1 (x0.n) y1.1 fun y2 =>
  .ql12 (y2.add (Int.toNat y1.1*(1:Nat))) fun y3 =>
  .el x1.1 (x1.n) y1.1 fun y4 =>
  .ql12 (y4.add (Int.toNat y1.1*(1:Nat))) fun y5 =>
  .br (!y3.toList == y5.toList) (
   .rF) <|
 .nx 0 [.v (.int .i64 (IntKind.i64.wrap (y1.1+(1:Int))))]) <|
 .rT
theorem fL_eqStringS x0 x1:qft aL_eqStringS 32 [Sc.val .l x0,Sc.val .l x1] (tL_eqStringS x0 x1) :=fitK (by kernel_rfl)
def aL_eqIntS:An:=⟨[(4,[.s 5],[.o (.o (.i .i64))])],[],[]⟩
def tL_eqIntS (x0:SlV) (x1:SlV):T :=
 .br ((↑x0.n:Int) != (↑x1.n:Int)) (
  .rF) <|
 .lp [.o (.o (.i .i64))] [.v (.int .i64 0)] fun y1 =>
 .br (decide (y1.1<(↑x0.n:Int))) (
  .rg <|
 .el x0.1 (x0.n) y1.1 fun y2 =>
  .ql17 (y2.add (Int.toNat y1.1*(1:Nat))) fun y3 =>
  .el x1.1 (x1.n) y1.1 fun y4 =>
  .ql17 (y4.add (Int.toNat y1.1*(1:Nat))) fun y5 =>
  .br (y3 != y5) (
   .rF) <|
 .nx 0 [.v (.int .i64 (IntKind.i64.wrap (y1.1+(1:Int))))]) <|
 .rT
theorem fL_eqIntS x0 x1:qft aL_eqIntS 33 [Sc.val .l x0,Sc.val .l x1] (tL_eqIntS x0 x1) :=fitK (by kernel_rfl)
def tL_eqMoney (x0:qy1) (x1:qy1):T :=
 .br (!ByteArray.toList x0.1 == ByteArray.toList x1.1) (
  .rF) <|
 .qc7 86 [qv0 x0.2,qv0 x1.2] fun y1 =>
 .bF y1 <|
 .rT
theorem fL_eqMoney x0 x1:qft qa0 34 [qv2 x0,qv2 x1] (tL_eqMoney x0 x1) :=fitK (by kernel_rfl)
def tL_markLedger (x0:qy3) (x1:Int):T :=
 .qc0 87 [qv4 (x0.1,()),.int .i64 x1] fun y1 =>
 .qc0 88 [Sc.val .l x0.2.1,.int .i64 y1] fun y2 =>
 .qc0 89 [qv5 x0.2.2,.int .i64 y2] fun y3 =>
 .ret [.int .i64 y3]
theorem fL_markLedger x0 x1:qft qa0 35 [qv3 x0,.int .i64 x1] (tL_markLedger x0 x1) :=fitK (by kernel_rfl)
def aL_markStringS:An:=⟨[(2,[.s 1,.s 5],[.o (.o (.i .i64)),.o (.o (.i .i64))])],[],[]⟩
def tL_markStringS (x0:SlV) (x1:Int):T :=
 .lp [.o (.o (.i .i64)),.o (.o (.i .i64))] [.v (.int .i64 x1),.v (.int .i64 0)] fun y1 =>
 .br (decide (y1.2.1<(↑x0.n:Int))) (
  .qc18 90 [.int .i64 y1.1] fun y2 =>
  .el x0.1 (x0.n) y1.2.1 fun y3 =>
  .st (y3.add (Int.toNat y1.2.1*(1:Nat))) [.string y2] <|
 .nx 0 [.v (.int .i64 (IntKind.i64.wrap (y1.1+(1:Int)))),.v (.int .i64 (IntKind.i64.wrap (y1.2.1+(1:Int))))]) <|
 .ret [.int .i64 y1.1]
theorem fL_markStringS x0 x1:qft aL_markStringS 36 [Sc.val .l x0,.int .i64 x1] (tL_markStringS x0 x1) :=fitK (by kernel_rfl)
def aL_markIntS:An:=⟨[(2,[.s 1,.s 5],[.o (.o (.i .i64)),.o (.o (.i .i64))])],[],[]⟩
def tL_markIntS (x0:SlV) (x1:Int):T :=
 .lp [.o (.o (.i .i64)),.o (.o (.i .i64))] [.v (.int .i64 x1),.v (.int .i64 0)] fun y1 =>
 .br (decide (y1.2.1<(↑x0.n:Int))) (
  .el x0.1 (x0.n) y1.2.1 fun y2 =>
  .st (y2.add (Int.toNat y1.2.1*(1:Nat))) [.int .i64 y1.1] <|
 .nx 0 [.v (.int .i64 (IntKind.i64.wrap (y1.1+(1:Int)))),.v (.int .i64 (IntKind.i64.wrap (y1.2.1+(1:Int))))]) <|
 .ret [.int .i64 y1.1]
theorem fL_markIntS x0 x1:qft aL_markIntS 37 [Sc.val .l x0,.int .i64 x1] (tL_markIntS x0 x1) :=fitK (by kernel_rfl)
def tL_markMoney (x0:qy1) (x1:Int):T :=
 .qc0 91 [qv0 x0.2,.int .i64 x1] fun y1 =>
 .ret [.int .i64 y1]
theorem fL_markMoney x0 x1:qft qa0 38 [qv2 x0,.int .i64 x1] (tL_markMoney x0 x1) :=fitK (by kernel_rfl)
def tL_heldLedger (x0:qy3) (x1:Int):T :=
 .qc0 92 [qv4 (x0.1,()),.int .i64 x1] fun y1 =>
 .br (decide (y1<(0:Int))) (
  .rM) <|
 .qc0 93 [Sc.val .l x0.2.1,.int .i64 y1] fun y2 =>
 .br (decide (y2<(0:Int))) (
  .rM) <|
 .qc0 94 [qv5 x0.2.2,.int .i64 y2] fun y3 =>
 .br (decide (y3<(0:Int))) (
  .rM) <|
 .ret [.int .i64 y3]
theorem fL_heldLedger x0 x1:qft qa0 39 [qv3 x0,.int .i64 x1] (tL_heldLedger x0 x1) :=fitK (by kernel_rfl)
def tI_AcctAt (x0:qy4) (x1:ByteArray):T :=
 .es [.string x1] 9 fun b1 =>
 .qc0 102 [Sc.val .l x0.1,(Value.func (Fn.func (103:Nat)) { toList:=[]:Array Value } { toList:=[Value.pointer (some { block:=b1,off:=(0:Nat):Addr })]:Array Value })] fun y2 =>
 .ret [.int .i64 y2]
theorem fI_AcctAt x0 x1:qft qa0 43 [qv4 x0,.string x1] (tI_AcctAt x0 x1) :=fitK (by kernel_rfl)
def aI_moneyCopy:An:=⟨[],[],[(3,[.s 3])]⟩
def tI_moneyCopy (x0:qy1):T :=
 .rq ((0:Int)≤(↑x0.2.2.1.n:Int)∧(↑x0.2.2.1.n:Int)≤(↑x0.2.2.1.n:Int)∧(↑(8:Nat):Int)*(↑x0.2.2.1.n:Int)≤(281474976710656:Int)∧(↑x0.2.2.1.n:Int)≤(9223372036854775807:Int)) <|
 .rd ({ a:=x0.2.2.1.1,n:=x0.2.2.1.n,c:=x0.2.2.1.c:SlV }) ((1:Nat)) fun y1 =>
 .rq (one y1=true) <|
 .fz ((↑x0.2.2.1.n:Int).toNat) (setl (madeCells { toList:=[Value.int IntKind.i64 (0:Int)]:Array Value } ((↑x0.2.2.1.n:Int).toNat*(1:Nat))).toList (0:Nat) (List.take (x0.2.2.1.n.min (↑x0.2.2.1.n:Int).toNat) y1)) 3 fun b2 c2 =>
 .rg <|
 .rq ((0:Int)≤(0:Int)∧(0:Int)≤(↑(↑x0.2.2.1.n:Int).toNat:Int)∧(↑(↑x0.2.2.1.n:Int).toNat:Int)≤(↑(↑x0.2.2.1.n:Int).toNat:Int)∧(↑(↑x0.2.2.1.n:Int).toNat:Int)≤(↑c2:Int)) <|
 .ret [qv2 (x0.1,x0.2.1,(⟨(if (↑(↑x0.2.2.1.n:Int).toNat:Int).toNat=Int.toNat (0:Int) then some { block:=b2,off:=(0:Nat):Addr } else Option.map (fun x=>x.add (Int.toNat (0:Int)*Go.Proofs.Tryz.prog.types[(3:Nat)].size)) (some { block:=b2,off:=(0:Nat):Addr })),((↑(↑x0.2.2.1.n:Int).toNat:Int).toNat-Int.toNat (0:Int)),((↑(↑x0.2.2.1.n:Int).toNat:Int).toNat-Int.toNat (0:Int))⟩:SlV),())]
theorem fI_moneyCopy x0:qft aI_moneyCopy 44 [qv2 x0] (tI_moneyCopy x0) :=fitK (by kernel_rfl)
def aI_currencyOf:An:=⟨[(2,[.s 7,.c 2 0,.c 2 1,.c 2 2,.c 2 3],[.o (.o (.i .i64)),.o (.o (.s)),.o (.o (.s)),.o (.o (.i .i64)),.o (.o (.i .i64))])],[],[]⟩
def tI_currencyOf (x0:ByteArray):T :=
 .ql19 ({ block:=(0:Nat),off:=(0:Nat):Addr }) fun y1 =>
 .lp [.o (.o (.i .i64)),.o (.o (.s)),.o (.o (.s)),.o (.o (.i .i64)),.o (.o (.i .i64))] [.v (.int .i64 0),.v (.string ({ data:={ toList:=[]:Array UInt8 }:ByteArray })),.v (.string ({ data:={ toList:=[]:Array UInt8 }:ByteArray })),.v (.int .i64 0),.v (.int .i64 0)] fun y2 =>
 .br (decide (y2.1<(20:Int))) (
  .rq ((0:Int)≤y2.1∧y2.1<(↑(20:Nat):Int)) <|
 .xs [.string y1.1,.string y1.2.1,.int .i64 y1.2.2.1,.int .i64 y1.2.2.2.1,.string y1.2.2.2.2.1,.string y1.2.2.2.2.2.1,.int .i64 y1.2.2.2.2.2.2.1,.int .i64 y1.2.2.2.2.2.2.2.1,.string y1.2.2.2.2.2.2.2.2.1,.string y1.2.2.2.2.2.2.2.2.2.1,.int .i64 y1.2.2.2.2.2.2.2.2.2.2.1,.int .i64 y1.2.2.2.2.2.2.2.2.2.2.2.1,.string y1.2.2.2.2.2.2.2.2.2.2.2.2.1,.string y1.2.2.2.2.2.2.2.2.2.2.2.2.2.1,.int .i64 y1.2.2.2.2.2.2.2.2.2.2.2.2.2.2.1,.int .i64 y1.2.2.2.2.2.2.2.2.2.2.2.2.2.2.2.1,.string y1.2.2.2.2.2.2.2.2.2.2.2.2.2.2.2.2.1,.string y1.2.2.2.2.2.2.2.2.2.2.2.2.2.2.2.2.2.1,.int .i64 y1.2.2.2.2.2.2.2.2.2.2.2.2.2.2.2.2.2.2.1,.int .i64 y1.2.2.2.2.2.2.2.2.2.2.2.2.2.2.2.2.2.2.2.1,.string y1.2.2.2.2.2.2.2.2.2.2.2.2.2.2.2.2.2.2.2.2.1,.string y1.2.2.2.2.2.2.2.2.2.2.2.2.2.2.2.2.2.2.2.2.2.1,.int .i64 y1.2.2.2.2.2.2.2.2.2.2.2.2.2.2.2.2.2.2.2.2.2.2.1,.int .i64 y1.2.2.2.2.2.2.2.2.2.2.2.2.2.2.2.2.2.2.2.2.2.2.2.1,.string y1.2.2.2.2.2.2.2.2.2.2.2.2.2.2.2.2.2.2.2.2.2.2.2.2.1,.string y1.2.2.2.2.2.2.2.2.2.2.2.2.2.2.2.2.2.2.2.2.2.2.2.2.2.1,.int .i64 y1.2.2.2.2.2.2.2.2.2.2.2.2.2.2.2.2.2.2.2.2.2.2.2.2.2.2.1,.int .i64 y1.2.2.2.2.2.2.2.2.2.2.2.2.2.2.2.2.2.2.2.2.2.2.2.2.2.2.2.1,.string y1.2.2.2.2.2.2.2.2.2.2.2.2.2.2.2.2.2.2.2.2.2.2.2.2.2.2.2.2.1,.string y1.2.2.2.2.2.2.2.2.2.2.2.2.2.2.2.2.2.2.2.2.2.2.2.2.2.2.2.2.2.1,.int .i64 y1.2.2.2.2.2.2.2.2.2.2.2.2.2.2.2.2.2.2.2.2.2.2.2.2.2.2.2.2.2.2.1,.int .i64 y1.2.2.2.2.2.2.2.2.2.2.2.2.2.2.2.2.2.2.2.2.2.2.2.2.2.2.2.2.2.2.2.1,.string y1.2.2.2.2.2.2.2.2.2.2.2.2.2.2.2.2.2.2.2.2.2.2.2.2.2.2.2.2.2.2.2.2.1,.string y1.2.2.2.2.2.2.2.2.2.2.2.2.2.2.2.2.2.2.2.2.2.2.2.2.2.2.2.2.2.2.2.2.2.1,.int .i64 y1.2.2.2.2.2.2.2.2.2.2.2.2.2.2.2.2.2.2.2.2.2.2.2.2.2.2.2.2.2.2.2.2.2.2.1,.int .i64 y1.2.2.2.2.2.2.2.2.2.2.2.2.2.2.2.2.2.2.2.2.2.2.2.2.2.2.2.2.2.2.2.2.2.2.2.1,.string y1.2.2.2.2.2.2.2.2.2.2.2.2.2.2.2.2.2.2.2.2.2.2.2.2.2.2.2.2.2.2.2.2.2.2.2.2.1,.string y1.2.2.2.2.2.2.2.2.2.2.2.2.2.2.2.2.2.2.2.2.2.2.2.2.2.2.2.2.2.2.2.2.2.2.2.2.2.1,.int .i64 y1.2.2.2.2.2.2.2.2.2.2.2.2.2.2.2.2.2.2.2.2.2.2.2.2.2.2.2.2.2.2.2.2.2.2.2.2.2.2.1,.int .i64 y1.2.2.2.2.2.2.2.2.2.2.2.2.2.2.2.2.2.2.2.2.2.2.2.2.2.2.2.2.2.2.2.2.2.2.2.2.2.2.2.1,.string y1.2.2.2.2.2.2.2.2.2.2.2.2.2.2.2.2.2.2.2.2.2.2.2.2.2.2.2.2.2.2.2.2.2.2.2.2.2.2.2.2.1,.string y1.2.2.2.2.2.2.2.2.2.2.2.2.2.2.2.2.2.2.2.2.2.2.2.2.2.2.2.2.2.2.2.2.2.2.2.2.2.2.2.2.2.1,.int .i64 y1.2.2.2.2.2.2.2.2.2.2.2.2.2.2.2.2.2.2.2.2.2.2.2.2.2.2.2.2.2.2.2.2.2.2.2.2.2.2.2.2.2.2.1,.int .i64 y1.2.2.2.2.2.2.2.2.2.2.2.2.2.2.2.2.2.2.2.2.2.2.2.2.2.2.2.2.2.2.2.2.2.2.2.2.2.2.2.2.2.2.2.1,.string y1.2.2.2.2.2.2.2.2.2.2.2.2.2.2.2.2.2.2.2.2.2.2.2.2.2.2.2.2.2.2.2.2.2.2.2.2.2.2.2.2.2.2.2.2.1,.string y1.2.2.2.2.2.2.2.2.2.2.2.2.2.2.2.2.2.2.2.2.2.2.2.2.2.2.2.2.2.2.2.2.2.2.2.2.2.2.2.2.2.2.2.2.2.1,.int .i64 y1.2.2.2.2.2.2.2.2.2.2.2.2.2.2.2.2.2.2.2.2.2.2.2.2.2.2.2.2.2.2.2.2.2.2.2.2.2.2.2.2.2.2.2.2.2.2.1,.int .i64 y1.2.2.2.2.2.2.2.2.2.2.2.2.2.2.2.2.2.2.2.2.2.2.2.2.2.2.2.2.2.2.2.2.2.2.2.2.2.2.2.2.2.2.2.2.2.2.2.1,.string y1.2.2.2.2.2.2.2.2.2.2.2.2.2.2.2.2.2.2.2.2.2.2.2.2.2.2.2.2.2.2.2.2.2.2.2.2.2.2.2.2.2.2.2.2.2.2.2.2.1,.string y1.2.2.2.2.2.2.2.2.2.2.2.2.2.2.2.2.2.2.2.2.2.2.2.2.2.2.2.2.2.2.2.2.2.2.2.2.2.2.2.2.2.2.2.2.2.2.2.2.2.1,.int .i64 y1.2.2.2.2.2.2.2.2.2.2.2.2.2.2.2.2.2.2.2.2.2.2.2.2.2.2.2.2.2.2.2.2.2.2.2.2.2.2.2.2.2.2.2.2.2.2.2.2.2.2.1,.int .i64 y1.2.2.2.2.2.2.2.2.2.2.2.2.2.2.2.2.2.2.2.2.2.2.2.2.2.2.2.2.2.2.2.2.2.2.2.2.2.2.2.2.2.2.2.2.2.2.2.2.2.2.2.1,.string y1.2.2.2.2.2.2.2.2.2.2.2.2.2.2.2.2.2.2.2.2.2.2.2.2.2.2.2.2.2.2.2.2.2.2.2.2.2.2.2.2.2.2.2.2.2.2.2.2.2.2.2.2.1,.string y1.2.2.2.2.2.2.2.2.2.2.2.2.2.2.2.2.2.2.2.2.2.2.2.2.2.2.2.2.2.2.2.2.2.2.2.2.2.2.2.2.2.2.2.2.2.2.2.2.2.2.2.2.2.1,.int .i64 y1.2.2.2.2.2.2.2.2.2.2.2.2.2.2.2.2.2.2.2.2.2.2.2.2.2.2.2.2.2.2.2.2.2.2.2.2.2.2.2.2.2.2.2.2.2.2.2.2.2.2.2.2.2.2.1,.int .i64 y1.2.2.2.2.2.2.2.2.2.2.2.2.2.2.2.2.2.2.2.2.2.2.2.2.2.2.2.2.2.2.2.2.2.2.2.2.2.2.2.2.2.2.2.2.2.2.2.2.2.2.2.2.2.2.2.1,.string y1.2.2.2.2.2.2.2.2.2.2.2.2.2.2.2.2.2.2.2.2.2.2.2.2.2.2.2.2.2.2.2.2.2.2.2.2.2.2.2.2.2.2.2.2.2.2.2.2.2.2.2.2.2.2.2.2.1,.string y1.2.2.2.2.2.2.2.2.2.2.2.2.2.2.2.2.2.2.2.2.2.2.2.2.2.2.2.2.2.2.2.2.2.2.2.2.2.2.2.2.2.2.2.2.2.2.2.2.2.2.2.2.2.2.2.2.2.1,.int .i64 y1.2.2.2.2.2.2.2.2.2.2.2.2.2.2.2.2.2.2.2.2.2.2.2.2.2.2.2.2.2.2.2.2.2.2.2.2.2.2.2.2.2.2.2.2.2.2.2.2.2.2.2.2.2.2.2.2.2.2.1,.int .i64 y1.2.2.2.2.2.2.2.2.2.2.2.2.2.2.2.2.2.2.2.2.2.2.2.2.2.2.2.2.2.2.2.2.2.2.2.2.2.2.2.2.2.2.2.2.2.2.2.2.2.2.2.2.2.2.2.2.2.2.2.1,.string y1.2.2.2.2.2.2.2.2.2.2.2.2.2.2.2.2.2.2.2.2.2.2.2.2.2.2.2.2.2.2.2.2.2.2.2.2.2.2.2.2.2.2.2.2.2.2.2.2.2.2.2.2.2.2.2.2.2.2.2.2.1,.string y1.2.2.2.2.2.2.2.2.2.2.2.2.2.2.2.2.2.2.2.2.2.2.2.2.2.2.2.2.2.2.2.2.2.2.2.2.2.2.2.2.2.2.2.2.2.2.2.2.2.2.2.2.2.2.2.2.2.2.2.2.2.1,.int .i64 y1.2.2.2.2.2.2.2.2.2.2.2.2.2.2.2.2.2.2.2.2.2.2.2.2.2.2.2.2.2.2.2.2.2.2.2.2.2.2.2.2.2.2.2.2.2.2.2.2.2.2.2.2.2.2.2.2.2.2.2.2.2.2.1,.int .i64 y1.2.2.2.2.2.2.2.2.2.2.2.2.2.2.2.2.2.2.2.2.2.2.2.2.2.2.2.2.2.2.2.2.2.2.2.2.2.2.2.2.2.2.2.2.2.2.2.2.2.2.2.2.2.2.2.2.2.2.2.2.2.2.2.1,.string y1.2.2.2.2.2.2.2.2.2.2.2.2.2.2.2.2.2.2.2.2.2.2.2.2.2.2.2.2.2.2.2.2.2.2.2.2.2.2.2.2.2.2.2.2.2.2.2.2.2.2.2.2.2.2.2.2.2.2.2.2.2.2.2.2.1,.string y1.2.2.2.2.2.2.2.2.2.2.2.2.2.2.2.2.2.2.2.2.2.2.2.2.2.2.2.2.2.2.2.2.2.2.2.2.2.2.2.2.2.2.2.2.2.2.2.2.2.2.2.2.2.2.2.2.2.2.2.2.2.2.2.2.2.1,.int .i64 y1.2.2.2.2.2.2.2.2.2.2.2.2.2.2.2.2.2.2.2.2.2.2.2.2.2.2.2.2.2.2.2.2.2.2.2.2.2.2.2.2.2.2.2.2.2.2.2.2.2.2.2.2.2.2.2.2.2.2.2.2.2.2.2.2.2.2.1,.int .i64 y1.2.2.2.2.2.2.2.2.2.2.2.2.2.2.2.2.2.2.2.2.2.2.2.2.2.2.2.2.2.2.2.2.2.2.2.2.2.2.2.2.2.2.2.2.2.2.2.2.2.2.2.2.2.2.2.2.2.2.2.2.2.2.2.2.2.2.2.1,.string y1.2.2.2.2.2.2.2.2.2.2.2.2.2.2.2.2.2.2.2.2.2.2.2.2.2.2.2.2.2.2.2.2.2.2.2.2.2.2.2.2.2.2.2.2.2.2.2.2.2.2.2.2.2.2.2.2.2.2.2.2.2.2.2.2.2.2.2.2.1,.string y1.2.2.2.2.2.2.2.2.2.2.2.2.2.2.2.2.2.2.2.2.2.2.2.2.2.2.2.2.2.2.2.2.2.2.2.2.2.2.2.2.2.2.2.2.2.2.2.2.2.2.2.2.2.2.2.2.2.2.2.2.2.2.2.2.2.2.2.2.2.1,.int .i64 y1.2.2.2.2.2.2.2.2.2.2.2.2.2.2.2.2.2.2.2.2.2.2.2.2.2.2.2.2.2.2.2.2.2.2.2.2.2.2.2.2.2.2.2.2.2.2.2.2.2.2.2.2.2.2.2.2.2.2.2.2.2.2.2.2.2.2.2.2.2.2.1,.int .i64 y1.2.2.2.2.2.2.2.2.2.2.2.2.2.2.2.2.2.2.2.2.2.2.2.2.2.2.2.2.2.2.2.2.2.2.2.2.2.2.2.2.2.2.2.2.2.2.2.2.2.2.2.2.2.2.2.2.2.2.2.2.2.2.2.2.2.2.2.2.2.2.2.1,.string y1.2.2.2.2.2.2.2.2.2.2.2.2.2.2.2.2.2.2.2.2.2.2.2.2.2.2.2.2.2.2.2.2.2.2.2.2.2.2.2.2.2.2.2.2.2.2.2.2.2.2.2.2.2.2.2.2.2.2.2.2.2.2.2.2.2.2.2.2.2.2.2.2.1,.string y1.2.2.2.2.2.2.2.2.2.2.2.2.2.2.2.2.2.2.2.2.2.2.2.2.2.2.2.2.2.2.2.2.2.2.2.2.2.2.2.2.2.2.2.2.2.2.2.2.2.2.2.2.2.2.2.2.2.2.2.2.2.2.2.2.2.2.2.2.2.2.2.2.2.1,.int .i64 y1.2.2.2.2.2.2.2.2.2.2.2.2.2.2.2.2.2.2.2.2.2.2.2.2.2.2.2.2.2.2.2.2.2.2.2.2.2.2.2.2.2.2.2.2.2.2.2.2.2.2.2.2.2.2.2.2.2.2.2.2.2.2.2.2.2.2.2.2.2.2.2.2.2.2.1,.int .i64 y1.2.2.2.2.2.2.2.2.2.2.2.2.2.2.2.2.2.2.2.2.2.2.2.2.2.2.2.2.2.2.2.2.2.2.2.2.2.2.2.2.2.2.2.2.2.2.2.2.2.2.2.2.2.2.2.2.2.2.2.2.2.2.2.2.2.2.2.2.2.2.2.2.2.2.2.1,.string y1.2.2.2.2.2.2.2.2.2.2.2.2.2.2.2.2.2.2.2.2.2.2.2.2.2.2.2.2.2.2.2.2.2.2.2.2.2.2.2.2.2.2.2.2.2.2.2.2.2.2.2.2.2.2.2.2.2.2.2.2.2.2.2.2.2.2.2.2.2.2.2.2.2.2.2.2.1,.string y1.2.2.2.2.2.2.2.2.2.2.2.2.2.2.2.2.2.2.2.2.2.2.2.2.2.2.2.2.2.2.2.2.2.2.2.2.2.2.2.2.2.2.2.2.2.2.2.2.2.2.2.2.2.2.2.2.2.2.2.2.2.2.2.2.2.2.2.2.2.2.2.2.2.2.2.2.2.1,.int .i64 y1.2.2.2.2.2.2.2.2.2.2.2.2.2.2.2.2.2.2.2.2.2.2.2.2.2.2.2.2.2.2.2.2.2.2.2.2.2.2.2.2.2.2.2.2.2.2.2.2.2.2.2.2.2.2.2.2.2.2.2.2.2.2.2.2.2.2.2.2.2.2.2.2.2.2.2.2.2.2.1,.int .i64 y1.2.2.2.2.2.2.2.2.2.2.2.2.2.2.2.2.2.2.2.2.2.2.2.2.2.2.2.2.2.2.2.2.2.2.2.2.2.2.2.2.2.2.2.2.2.2.2.2.2.2.2.2.2.2.2.2.2.2.2.2.2.2.2.2.2.2.2.2.2.2.2.2.2.2.2.2.2.2.2.1] (Int.toNat y2.1*(4:Nat)) (.g [.s,.s,.i .i64,.i .i64]) fun y3 =>
  .br (ByteArray.toList y3.1 == x0.toList) (
   .ret [qv12 y3,.bool (true)]) <|
 .nx 0 [.v (.int .i64 (IntKind.i64.wrap (y2.1+(1:Int)))),.v (.string y2.2.1),.v (.string y2.2.2.1),.v (.int .i64 y2.2.2.2.1),.v (.int .i64 y2.2.2.2.2.1)]) <|
 .ret [qv12 (({ data:={ toList:=[]:Array UInt8 }:ByteArray }),({ data:={ toList:=[]:Array UInt8 }:ByteArray }),(((0:Int)):Int),(((0:Int)):Int),()),.bool (false)]
theorem fI_currencyOf x0:qft aI_currencyOf 47 [.string x0] (tI_currencyOf x0) :=fitK (by kernel_rfl)
def aI_natDiv:An:=⟨[(9,[.s 9],[.o (.o (.l))]),(14,[.s 12,.s 13],[.a 3,.o (.o (.i .i64))])],[],[]⟩
def tI_natDiv (x0:SlV) (x1:SlV):T :=
 .qc0 108 [Sc.val .l x0,Sc.val .l x1] fun y1 =>
 .br (decide (y1<(0:Int))) (
  .qc6 63 [Sc.val .l x0] fun y2 =>
  .fz ((0:Nat)) [] 3 fun b3 c3 =>
  .ret [.slice (some { block:=b3,off:=(0:Nat):Addr }) ((0:Nat)) (c3),Sc.val .l y2]) <|
 .br ((↑x1.n:Int) == (1:Int)) (
  .el x1.1 (x1.n) ((0:Int)) fun y2 =>
  .ql15 (y2.add (Int.toNat (0:Int)*(1:Nat))) fun y3 =>
  .qc20 109 [Sc.val .l x0,.int .i64 y3] fun y4 =>
  .qc6 12 [.int .i64 y4.2.1] fun y5 =>
  .ret [Sc.val .l y4.1,Sc.val .l y5]) <|
 .el x1.1 (x1.n) (IntKind.i64.wrap ((↑x1.n:Int)-(1:Int))) fun y2 =>
 .ql15 (y2.add ((IntKind.i64.wrap ((↑x1.n:Int)-(1:Int))).toNat*(1:Nat))) fun y3 =>
 .rq (IntKind.i64.wrap (y3+(1:Int))≠(0:Int)) <|
 .fz ((1:Nat)) [.int .i64 (IntKind.i64.wrap (Int.tdiv (1000000000:Int) (IntKind.i64.wrap (y3+(1:Int)))))] 3 fun b4 c4 =>
 .qc6 110 [Sc.val .l x0,.slice (some { block:=b4,off:=(0:Nat):Addr }) ((1:Nat)) (c4)] fun y5 =>
 .fz ((1:Nat)) [.int .i64 (IntKind.i64.wrap (Int.tdiv (1000000000:Int) (IntKind.i64.wrap (y3+(1:Int)))))] 3 fun b6 c6 =>
 .qc6 110 [Sc.val .l x1,.slice (some { block:=b6,off:=(0:Nat):Addr }) ((1:Nat)) (c6)] fun y7 =>
 .lp [.o (.o (.l))] [.v (Sc.val .l y5)] fun y8 =>
 .br (decide ((↑y8.1.n:Int)≤(↑x0.n:Int))) (
  .rq ([Value.int IntKind.i64 (0:Int)].length=(1:Nat)*(1:Nat)) <|
 .rq (one [Value.int IntKind.i64 (0:Int)]=true) <|
 .ap ({ a:=y8.1.1,n:=y8.1.n,c:=y8.1.c:SlV }) 1 8 [.int .i64 0] ((1:Nat)) 3 fun y9 =>
  .nx 0 [.v (Sc.val .l y9)]) <|
 .rq ((0:Int)≤IntKind.i64.wrap ((↑y8.1.n:Int)-(↑y7.n:Int))∧IntKind.i64.wrap ((↑y8.1.n:Int)-(↑y7.n:Int))≤IntKind.i64.wrap ((↑y8.1.n:Int)-(↑y7.n:Int))∧(↑(8:Nat):Int)*IntKind.i64.wrap ((↑y8.1.n:Int)-(↑y7.n:Int))≤(281474976710656:Int)∧IntKind.i64.wrap ((↑y8.1.n:Int)-(↑y7.n:Int))≤(9223372036854775807:Int)) <|
 .lp [.a 3,.o (.o (.i .i64))] [.a 3 ((IntKind.i64.wrap ((↑y8.1.n:Int)-(↑y7.n:Int))).toNat) ((madeCells { toList:=[Value.int IntKind.i64 (0:Int)]:Array Value } ((IntKind.i64.wrap ((↑y8.1.n:Int)-(↑y7.n:Int))).toNat*(1:Nat))).toList),.v (.int .i64 (IntKind.i64.wrap ((↑(IntKind.i64.wrap ((↑y8.1.n:Int)-(↑y7.n:Int))).toNat:Int)-(1:Int))))] fun y9 =>
 .br (decide (y9.2.1≥(0:Int))) (
  .rq ((0:Int)≤y9.2.1∧y9.2.1≤IntKind.i64.wrap (IntKind.i64.wrap (y9.2.1+(↑y7.n:Int))+(1:Int))∧IntKind.i64.wrap (IntKind.i64.wrap (y9.2.1+(↑y7.n:Int))+(1:Int))≤(↑y8.1.c:Int)∧(↑y8.1.c:Int)≤(↑y8.1.c:Int)) <|
 .qc0 111 [.slice (if (↑y8.1.c:Int).toNat=Int.toNat y9.2.1 then y8.1.1 else Option.map (fun x=>x.add (Int.toNat y9.2.1*Go.Proofs.Tryz.prog.types[(3:Nat)].size)) y8.1.1) ((IntKind.i64.wrap (IntKind.i64.wrap (y9.2.1+(↑y7.n:Int))+(1:Int))).toNat-Int.toNat y9.2.1) ((↑y8.1.c:Int).toNat-Int.toNat y9.2.1),Sc.val .l y7] fun y10 =>
  .rq ((0:Int)≤y9.2.1∧y9.2.1<(↑y9.1.1:Int)) <|
 .rq (Int.toNat y9.2.1*(1:Nat)+[Value.int IntKind.i64 y10].length≤y9.1.2.length) <|
 .nx 1 [.a 3 y9.1.1 (setl y9.1.2 (Int.toNat y9.2.1*(1:Nat)) [Value.int IntKind.i64 y10]),.v (.int .i64 (IntKind.i64.wrap (y9.2.1-(1:Int))))]) <|
 .qc6 112 [Sc.val .l y8.1] fun y10 =>
 .qc20 109 [Sc.val .l y10,.int .i64 (IntKind.i64.wrap (Int.tdiv (1000000000:Int) (IntKind.i64.wrap (y3+(1:Int)))))] fun y11 =>
 .fz y9.1.1 y9.1.2 3 fun b12 c12 =>
 .qc6 112 [.slice (some { block:=b12,off:=(0:Nat):Addr }) y9.1.1 (c12)] fun y13 =>
 .ret [Sc.val .l y13,Sc.val .l y11.1]
theorem fI_natDiv x0 x1:qft aI_natDiv 49 [Sc.val .l x0,Sc.val .l x1] (tI_natDiv x0 x1) :=fitK (by kernel_rfl)
def aI_natOf:An:=⟨[(2,[.s 0,.s 3],[.o (.o (.i .u64)),.a 3])],[],[]⟩
def tI_natOf (x0:Int):T :=
 .lp [.o (.o (.i .u64)),.a 3] [.v (.int .u64 x0),.a 3 ((0:Nat)) []] fun y1 =>
 .br (decide (y1.1 > (0:Int))) (
  .rq ((1000000000:Int)≠(0:Int)) <|
 .rq ([Value.int IntKind.i64 (IntKind.i64.wrap (Int.tmod y1.1 (1000000000:Int)))].length=(1:Nat)*(1:Nat)) <|
 .rq (one [Value.int IntKind.i64 (IntKind.i64.wrap (Int.tmod y1.1 (1000000000:Int)))]=true∧(y1.2.1.1+(1:Nat))*(8:Nat)≤(140737488355328:Nat)∧y1.2.1.1+(1:Nat)≤(9223372036854775807:Nat)) <|
 .rq ((1000000000:Int)≠(0:Int)) <|
 .nx 0 [.v (.int .u64 (IntKind.u64.wrap (Int.tdiv y1.1 (1000000000:Int)))),.a 3 (y1.2.1.1+(1:Nat)) (y1.2.1.2++[Value.int IntKind.i64 (IntKind.i64.wrap (Int.tmod y1.1 (1000000000:Int)))])]) <|
 .fz y1.2.1.1 y1.2.1.2 3 fun b2 c2 =>
 .ret [.slice (some { block:=b2,off:=(0:Nat):Addr }) y1.2.1.1 (c2)]
theorem fI_natOf x0:qft aI_natOf 50 [.int .u64 x0] (tI_natOf x0) :=fitK (by kernel_rfl)
def tI_alike (x0:qy1) (x1:qy1):T :=
 .qc7 65 [qv2 x0] fun y1 =>
 .br y1 (
  .qc7 65 [qv2 x1] fun y2 =>
  .br y2 (
   .ret [.bool (ByteArray.toList x0.1 == ByteArray.toList x1.1)]) <|
 .rF) <|
 .rF
theorem fI_alike x0 x1:qft qa0 51 [qv2 x0,qv2 x1] (tI_alike x0 x1) :=fitK (by kernel_rfl)
def tI_moneyOf (x0:ByteArray) (x1:qy0):T :=
 .qc7 65 [qv2 (x0,x1.1,x1.2.1,())] fun y1 =>
 .br y1 (
  .ret [qv2 (x0,x1.1,x1.2.1,()),.bool (true)]) <|
 .ret [qv2 (({ data:={ toList:=[]:Array UInt8 }:ByteArray }),(false),nilS,()),.bool (false)]
theorem fI_moneyOf x0 x1:qft qa0 52 [.string x0,qv0 x1] (tI_moneyOf x0 x1) :=fitK (by kernel_rfl)
def tI_intAdd (x0:qy0) (x1:qy0):T :=
 .br (x0.1 == x1.1) (
  .rg <|
 .qc2 114 [Sc.val .l x0.2.1,Sc.val .l x1.2.1] fun y1 =>
  .qc16 113 [.bool x0.1,Sc.val .l y1] fun y2 =>
  .ret [qv0 y2]) <|
 .qc0 108 [Sc.val .l x0.2.1,Sc.val .l x1.2.1] fun y1 =>
 .br (decide (y1<(0:Int))) (
  .rg <|
 .qc2 115 [Sc.val .l x1.2.1,Sc.val .l x0.2.1] fun y2 =>
  .qc16 113 [.bool x1.1,Sc.val .l y2] fun y3 =>
  .ret [qv0 y3]) <|
 .rg <|
 .qc2 115 [Sc.val .l x0.2.1,Sc.val .l x1.2.1] fun y2 =>
 .qc16 113 [.bool x0.1,Sc.val .l y2] fun y3 =>
 .ret [qv0 y3]
theorem fI_intAdd x0 x1:qft qa0 53 [qv0 x0,qv0 x1] (tI_intAdd x0 x1) :=fitK (by kernel_rfl)
def tI_intNeg (x0:qy0):T :=
 .rg <|
 .qc2 63 [Sc.val .l x0.2.1] fun y1 =>
 .qc16 113 [.bool (!x0.1),Sc.val .l y1] fun y2 =>
 .ret [qv0 y2]
theorem fI_intNeg x0:qft qa0 54 [qv0 x0] (tI_intNeg x0) :=fitK (by kernel_rfl)
def tI_ratCopy (x0:qy2):T :=
 .rg <|
 .qc21 66 [qv0 (x0.1,x0.2.1,())] fun y1 =>
 .qc6 63 [Sc.val .l x0.2.2.1] fun y2 =>
 .ret [qv1 (y1.1,y1.2.1,y2,())]
theorem fI_ratCopy x0:qft qa0 58 [qv1 x0] (tI_ratCopy x0) :=fitK (by kernel_rfl)
def tI_IntOk (x0:qy0):T :=
 .qc7 107 [Sc.val .l x0.2.1] fun y1 =>
 .br y1 (
  .br (!x0.1) (
   .rT) <|
 .ret [.bool (decide ((↑x0.2.1.n:Int) > (0:Int)))]) <|
 .rF
theorem fI_IntOk x0:qft qa0 62 [qv0 x0] (tI_IntOk x0) :=fitK (by kernel_rfl)
def tI_natCopy (x0:SlV):T :=
 .rd ({ a:=x0.1,n:=x0.n,c:=x0.c:SlV }) ((1:Nat)) fun y1 =>
 .rq (one y1=true∧((0:Nat)+x0.n)*(8:Nat)≤(140737488355328:Nat)∧(0:Nat)+x0.n≤(9223372036854775807:Nat)) <|
 .fz ((0:Nat)+x0.n) ([]++y1) 3 fun b2 c2 =>
 .ret [.slice (some { block:=b2,off:=(0:Nat):Addr }) ((0:Nat)+x0.n) (c2)]
theorem fI_natCopy x0:qft qa0 63 [Sc.val .l x0] (tI_natCopy x0) :=fitK (by kernel_rfl)
def tI_MoneyOk (x0:qy1):T :=
 .qc7 119 [.string x0.1] fun y1 =>
 .br y1 (
  .qc7 62 [qv0 x0.2] fun y2 =>
  .br y2 (
   .ret [.bool (decide ((↑x0.2.2.1.n:Int)≤(4:Int)))]) <|
 .rF) <|
 .rF
theorem fI_MoneyOk x0:qft qa0 65 [qv2 x0] (tI_MoneyOk x0) :=fitK (by kernel_rfl)
def tI_intCopy (x0:qy0):T :=
 .rg <|
 .qc2 63 [Sc.val .l x0.2.1] fun y1 =>
 .ret [qv0 (x0.1,y1,())]
theorem fI_intCopy x0:qft qa0 66 [qv0 x0] (tI_intCopy x0) :=fitK (by kernel_rfl)
def tL_szBook (x0:qy4) (x1:Int):T :=
 .qc0 120 [Sc.val .l x0.1,.int .i64 x1] fun y1 =>
 .br (decide (y1<(0:Int))) (
  .rM) <|
 .ret [.int .i64 y1]
theorem fL_szBook x0 x1:qft qa0 67 [qv4 x0,.int .i64 x1] (tL_szBook x0 x1) :=fitK (by kernel_rfl)
def aL_szRestS:An:=⟨[(5,[.s 1,.s 5],[.o (.o (.i .i64)),.o (.o (.i .i64))])],[],[]⟩
def tL_szRestS (x0:SlV) (x1:Int):T :=
 .br (decide (IntKind.i64.wrap (x1-(↑x0.n:Int))<(0:Int))) (
  .rM) <|
 .lp [.o (.o (.i .i64)),.o (.o (.i .i64))] [.v (.int .i64 (IntKind.i64.wrap (x1-(↑x0.n:Int)))),.v (.int .i64 0)] fun y1 =>
 .br (decide (y1.2.1<(↑x0.n:Int))) (
  .el x0.1 (x0.n) y1.2.1 fun y2 =>
  .ql22 (y2.add (Int.toNat y1.2.1*(4:Nat))) fun y3 =>
  .qc0 121 [qv10 y3,.int .i64 y1.1] fun y4 =>
  .br (decide (y4<(0:Int))) (
   .rM) <|
 .nx 0 [.v (.int .i64 y4),.v (.int .i64 (IntKind.i64.wrap (y1.2.1+(1:Int))))]) <|
 .ret [.int .i64 y1.1]
theorem fL_szRestS x0 x1:qft aL_szRestS 68 [Sc.val .l x0,.int .i64 x1] (tL_szRestS x0 x1) :=fitK (by kernel_rfl)
def tL_szRates (x0:qy5) (x1:Int):T :=
 .br (decide (IntKind.i64.wrap (x1-(↑(ByteArray.size x0.1):Int))<(0:Int))) (
  .rM) <|
 .qc0 122 [Sc.val .l x0.2.1,.int .i64 (IntKind.i64.wrap (x1-(↑(ByteArray.size x0.1):Int)))] fun y1 =>
 .br (decide (y1<(0:Int))) (
  .rM) <|
 .ret [.int .i64 y1]
theorem fL_szRates x0 x1:qft qa0 69 [qv5 x0,.int .i64 x1] (tL_szRates x0 x1) :=fitK (by kernel_rfl)
def tL_szSigned (x0:qy0) (x1:Int):T :=
 .qc0 123 [Sc.val .l x0.2.1,.int .i64 x1] fun y1 =>
 .br (decide (y1<(0:Int))) (
  .rM) <|
 .ret [.int .i64 y1]
theorem fL_szSigned x0 x1:qft qa0 70 [qv0 x0,.int .i64 x1] (tL_szSigned x0 x1) :=fitK (by kernel_rfl)
def tS_LedgerOk (x0:qy3):T :=
 .qc7 124 [qv4 (x0.1,())] fun y1 =>
 .br y1 (
  .qc7 125 [Sc.val .l x0.2.1] fun y2 =>
  .br y2 (
   .qc7 126 [qv5 x0.2.2] fun y3 =>
   .ret [.bool y3]) <|
 .rF) <|
 .rF
theorem fS_LedgerOk x0:qft qa0 71 [qv3 x0] (tS_LedgerOk x0) :=fitK (by kernel_rfl)
def tS_IsWord (x0:ByteArray):T :=
 .qc7 127 [.string x0,.int .u8 ((97:Int)),.int .u8 ((122:Int)),.int .u8 ((48:Int)),.int .u8 ((57:Int))] fun y1 =>
 .br y1 (
  .br (decide ((↑x0.size:Int)≤(12:Int))) (
   .rq ((0:Int)≤(0:Int)∧(0:Int)<(↑x0.size:Int)) <|
 .ret [.bool (decide (at0 x0 (Int.toNat (0:Int))≥(97:Int)))]) <|
 .rF) <|
 .rF
theorem fS_IsWord x0:qft qa0 72 [.string x0] (tS_IsWord x0) :=fitK (by kernel_rfl)
def aS_l21Names:An:=⟨[(2,[.s 7],[.o (.o (.i .i64))])],[],[]⟩
def tS_l21Names (x0:SlV):T :=
 .lp [.o (.o (.i .i64))] [.v (.int .i64 0)] fun y1 =>
 .br (decide (y1.1<(↑x0.n:Int))) (
  .el x0.1 (x0.n) y1.1 fun y2 =>
  .ql10 (y2.add (Int.toNat y1.1*(1:Nat))) fun y3 =>
  .qc7 72 [.string y3] fun y4 =>
  .bF y4 <|
 .nx 0 [.v (.int .i64 (IntKind.i64.wrap (y1.1+(1:Int))))]) <|
 .rT
theorem fS_l21Names x0:qft aS_l21Names 73 [Sc.val .l x0] (tS_l21Names x0) :=fitK (by kernel_rfl)
def tS_l21Money (x0:qy1):T :=
 .qc7 128 [qv2 x0] fun y1 =>
 .br y1 (
  .ret [.bool (!x0.2.1)]) <|
 .rF
theorem fS_l21Money x0:qft qa0 74 [qv2 x0] (tS_l21Money x0) :=fitK (by kernel_rfl)
def aS_WeightsOk:An:=⟨[(4,[.s 11],[.o (.o (.i .i64))])],[],[]⟩
def tS_WeightsOk (x0:SlV):T :=
 .qc7 129 [.int .i64 ((↑x0.n:Int)),.int .i64 1,.int .i64 30] fun y1 =>
 .bF y1 <|
 .lp [.o (.o (.i .i64))] [.v (.int .i64 0)] fun y2 =>
 .br (decide (y2.1<(↑x0.n:Int))) (
  .el x0.1 (x0.n) y2.1 fun y3 =>
  .ql15 (y3.add (Int.toNat y2.1*(1:Nat))) fun y4 =>
  .qc7 129 [.int .i64 y4,.int .i64 0,.int .i64 1000000000] fun y5 =>
  .bF y5 <|
 .nx 0 [.v (.int .i64 (IntKind.i64.wrap (y2.1+(1:Int))))]) <|
 .qc0 130 [Sc.val .l x0] fun y3 =>
 .ret [.bool (decide (y3 > (0:Int)))]
theorem fS_WeightsOk x0:qft aS_WeightsOk 75 [Sc.val .l x0] (tS_WeightsOk x0) :=fitK (by kernel_rfl)
def aS_ShareMoney:An:=⟨[(6,[.s 8,.s 28],[.a 38,.o (.o (.i .i64))])],[],[]⟩
def tS_ShareMoney (x0:qy1) (x1:SlV):T :=
 .qc11 131 [qv0 x0.2,Sc.val .l x1] fun y1 =>
 .bn y1.2.1 (.ret [.slice none 0 0,.bool (false)]) <|
 .qc7 128 [qv2 x0] fun y2 =>
 .bn y2 (.ret [.slice none 0 0,.bool (false)]) <|
 .lp [.a 38,.o (.o (.i .i64))] [.a 38 ((0:Nat)) [],.v (.int .i64 0)] fun y3 =>
 .br (decide (y3.2.1<(↑y1.1.n:Int))) (
  .el y1.1.1 (y1.1.n) y3.2.1 fun y4 =>
  .ql23 (y4.add (Int.toNat y3.2.1*(2:Nat))) fun y5 =>
  .rq ([Value.string x0.1,Value.bool y5.1,Value.slice y5.2.1.1 y5.2.1.n y5.2.1.c].length=(1:Nat)*(3:Nat)) <|
 .rq (one [Value.string x0.1,Value.bool y5.1,Value.slice y5.2.1.1 y5.2.1.n y5.2.1.c]=true∧(y3.1.1+(1:Nat))*(48:Nat)≤(140737488355328:Nat)∧y3.1.1+(1:Nat)≤(9223372036854775807:Nat)) <|
 .nx 0 [.a 38 (y3.1.1+(1:Nat)) (y3.1.2++[Value.string x0.1,Value.bool y5.1,Value.slice y5.2.1.1 y5.2.1.n y5.2.1.c]),.v (.int .i64 (IntKind.i64.wrap (y3.2.1+(1:Int))))]) <|
 .fz y3.1.1 y3.1.2 38 fun b4 c4 =>
 .ret [.slice (some { block:=b4,off:=(0:Nat):Addr }) y3.1.1 (c4),.bool (true)]
theorem fS_ShareMoney x0 x1:qft aS_ShareMoney 76 [qv2 x0,Sc.val .l x1] (tS_ShareMoney x0 x1) :=fitK (by kernel_rfl)
def tS_l21Less (x0:qy1):T :=
 .rg <|
 .qc21 132 [qv0 x0.2] fun y1 =>
 .ret [qv2 (x0.1,y1.1,y1.2.1,())]
theorem fS_l21Less x0:qft qa0 77 [qv2 x0] (tS_l21Less x0) :=fitK (by kernel_rfl)
def aS_l21Legs:An:=⟨[(2,[.s 17,.c 4 0,.c 4 1,.c 4 2,.c 4 3],[.o (.o (.i .i64)),.o (.o (.l)),.o (.o (.l)),.o (.o (.s)),.o (.o (.l))]),(8,[.s 31,.c 4 0,.c 4 1,.c 4 2,.c 4 3],[.o (.o (.i .i64)),.o (.o (.l)),.o (.o (.l)),.o (.o (.s)),.o (.o (.l))]),(15,[.s 57,.c 4 0,.c 4 1,.c 4 2,.c 4 3,.c 10 0,.c 10 1,.c 10 2,.c 10 3],[.o (.o (.i .i64)),.o (.o (.l)),.o (.o (.l)),.o (.o (.s)),.o (.o (.l)),.o (.o (.l)),.o (.o (.l)),.o (.o (.s)),.o (.o (.l))])],[],[]⟩
def tS_l21Legs (x0:qy3) (x1:SlV):T :=
 .lp [.o (.o (.i .i64)),.o (.o (.l)),.o (.o (.l)),.o (.o (.s)),.o (.o (.l))] [.v (.int .i64 0),.v (.slice none 0 0),.v (.slice none 0 0),.v (.string ({ data:={ toList:=[]:Array UInt8 }:ByteArray })),.v (.slice none 0 0)] fun y1 =>
 .br (decide (y1.1<(↑x1.n:Int))) (
  .el x1.1 (x1.n) y1.1 fun y2 =>
  .ql24 (y2.add (Int.toNat y1.1*(4:Nat))) fun y3 =>
  .qc0 133 [qv4 (x0.1,()),.string y3.1] fun y4 =>
  .br (decide (y4<(0:Int))) (
   .ret [qv3 (nilS,nilS,({ data:={ toList:=[]:Array UInt8 }:ByteArray }),nilS,()),.int .i64 3]) <|
 .nx 0 [.v (.int .i64 (IntKind.i64.wrap (y1.1+(1:Int)))),.v (Sc.val .l y1.2.1),.v (Sc.val .l y1.2.2.1),.v (.string y1.2.2.2.1),.v (Sc.val .l y1.2.2.2.2.1)]) <|
 .lp [.o (.o (.i .i64)),.o (.o (.l)),.o (.o (.l)),.o (.o (.s)),.o (.o (.l))] [.v (.int .i64 0),.v (Sc.val .l y1.2.1),.v (Sc.val .l y1.2.2.1),.v (.string y1.2.2.2.1),.v (Sc.val .l y1.2.2.2.2.1)] fun y2 =>
 .br (decide (y2.1<(↑x1.n:Int))) (
  .el x1.1 (x1.n) y2.1 fun y3 =>
  .ql24 (y3.add (Int.toNat y2.1*(4:Nat))) fun y4 =>
  .rg <|
 .qc25 133 [qv4 (x0.1,()),.string y4.1] fun y5 =>
  .el x0.1.1 (x0.1.n) y5 fun y6 =>
  .ql12 (((y6.add (y5.toNat*(4:Nat))).add (1:Nat)).add (0:Nat)) fun y7 =>
  .br (!y7.toList == ByteArray.toList y4.2.1) (
   .ret [qv3 (nilS,nilS,({ data:={ toList:=[]:Array UInt8 }:ByteArray }),nilS,()),.int .i64 5]) <|
 .nx 1 [.v (.int .i64 (IntKind.i64.wrap (y2.1+(1:Int)))),.v (Sc.val .l y2.2.1),.v (Sc.val .l y2.2.2.1),.v (.string y2.2.2.2.1),.v (Sc.val .l y2.2.2.2.2.1)]) <|
 .qc5 134 [qv3 x0] fun y3 =>
 .lp [.o (.o (.i .i64)),.o (.o (.l)),.o (.o (.l)),.o (.o (.s)),.o (.o (.l)),.o (.o (.l)),.o (.o (.l)),.o (.o (.s)),.o (.o (.l))] [.v (.int .i64 0),.v (Sc.val .l y2.2.1),.v (Sc.val .l y2.2.2.1),.v (.string y2.2.2.2.1),.v (Sc.val .l y2.2.2.2.2.1),.v (Sc.val .l y3.1),.v (Sc.val .l y3.2.1),.v (.string y3.2.2.1),.v (Sc.val .l y3.2.2.2.1)] fun y4 =>
 .br (decide (y4.1<(↑x1.n:Int))) (
  .el x1.1 (x1.n) y4.1 fun y5 =>
  .ql24 (y5.add (Int.toNat y4.1*(4:Nat))) fun y6 =>
  .qc26 135 [qv4 (y4.2.2.2.2.2.1,()),.string y6.1,qv2 y6.2] fun y7 =>
  .bn y7.2.1 (.ret [qv3 (nilS,nilS,({ data:={ toList:=[]:Array UInt8 }:ByteArray }),nilS,()),.int .i64 8]) <|
 .nx 2 [.v (.int .i64 (IntKind.i64.wrap (y4.1+(1:Int)))),.v (Sc.val .l y4.2.1),.v (Sc.val .l y4.2.2.1),.v (.string y4.2.2.2.1),.v (Sc.val .l y4.2.2.2.2.1),.v (Sc.val .l y7.1.1),.v (Sc.val .l y4.2.2.2.2.2.2.1),.v (.string y4.2.2.2.2.2.2.2.1),.v (Sc.val .l y4.2.2.2.2.2.2.2.2.1)]) <|
 .ret [qv3 y4.2.2.2.2.2,.int .i64 0]
theorem fS_l21Legs x0 x1:qft aS_l21Legs 78 [qv3 x0,Sc.val .l x1] (tS_l21Legs x0 x1) :=fitK (by kernel_rfl)
def tL_toBook (x0:qy4):T :=
 .qc6 136 [Sc.val .l x0.1] fun y1 =>
 .ret [qv4 (y1,())]
theorem fL_toBook x0:qft qa0 79 [qv4 x0] (tL_toBook x0) :=fitK (by kernel_rfl)
def aL_toRestS:An:=⟨[(3,[.s 3,.s 4],[.a 116,.o (.o (.i .i64))])],[],[]⟩
def tL_toRestS (x0:SlV):T :=
 .rq ((0:Int)≤(↑x0.n:Int)∧(↑x0.n:Int)≤(↑x0.n:Int)∧(↑(72:Nat):Int)*(↑x0.n:Int)≤(281474976710656:Int)∧(↑x0.n:Int)≤(9223372036854775807:Int)) <|
 .lp [.a 116,.o (.o (.i .i64))] [.a 116 ((↑x0.n:Int).toNat) ((madeCells { toList:=[Value.string { data:={ toList:=[]:Array UInt8 }:ByteArray },Value.bool false,Value.slice none (0:Nat) (0:Nat),Value.slice none (0:Nat) (0:Nat)]:Array Value } ((↑x0.n:Int).toNat*(4:Nat))).toList),.v (.int .i64 0)] fun y1 =>
 .br (decide (y1.2.1<(↑x0.n:Int))) (
  .el x0.1 (x0.n) y1.2.1 fun y2 =>
  .ql22 (y2.add (Int.toNat y1.2.1*(4:Nat))) fun y3 =>
  .qc27 137 [qv10 y3] fun y4 =>
  .rq ((0:Int)≤y1.2.1∧y1.2.1<(↑y1.1.1:Int)) <|
 .rq (Int.toNat y1.2.1*(4:Nat)+[Value.string y4.1,Value.bool y4.2.1,Value.slice y4.2.2.1.1 y4.2.2.1.n y4.2.2.1.c,Value.slice y4.2.2.2.1.1 y4.2.2.2.1.n y4.2.2.2.1.c].length≤y1.1.2.length) <|
 .nx 0 [.a 116 y1.1.1 (setl y1.1.2 (Int.toNat y1.2.1*(4:Nat)) [Value.string y4.1,Value.bool y4.2.1,Value.slice y4.2.2.1.1 y4.2.2.1.n y4.2.2.1.c,Value.slice y4.2.2.2.1.1 y4.2.2.2.1.n y4.2.2.2.1.c]),.v (.int .i64 (IntKind.i64.wrap (y1.2.1+(1:Int))))]) <|
 .fz y1.1.1 y1.1.2 116 fun b2 c2 =>
 .ret [.slice (some { block:=b2,off:=(0:Nat):Addr }) y1.1.1 (c2)]
theorem fL_toRestS x0:qft aL_toRestS 80 [Sc.val .l x0] (tL_toRestS x0) :=fitK (by kernel_rfl)
def tL_toRates (x0:qy5):T :=
 .qc6 138 [Sc.val .l x0.2.1] fun y1 =>
 .ret [qv5 (x0.1,y1,())]
theorem fL_toRates x0:qft qa0 81 [qv5 x0] (tL_toRates x0) :=fitK (by kernel_rfl)
def tL_toSigned (x0:qy0):T :=
 .qc6 28 [Sc.val .l x0.2.1] fun y1 =>
 .ret [qv0 (x0.1,y1,())]
theorem fL_toSigned x0:qft qa0 82 [qv0 x0] (tL_toSigned x0) :=fitK (by kernel_rfl)
def tL_eqBook (x0:qy4) (x1:qy4):T :=
 .qc7 139 [Sc.val .l x0.1,Sc.val .l x1.1] fun y1 =>
 .bF y1 <|
 .rT
theorem fL_eqBook x0 x1:qft qa0 83 [qv4 x0,qv4 x1] (tL_eqBook x0 x1) :=fitK (by kernel_rfl)
def aL_eqRestS:An:=⟨[(4,[.s 5],[.o (.o (.i .i64))])],[],[]⟩
def tL_eqRestS (x0:SlV) (x1:SlV):T :=
 .br ((↑x0.n:Int) != (↑x1.n:Int)) (
  .rF) <|
 .lp [.o (.o (.i .i64))] [.v (.int .i64 0)] fun y1 =>
 .br (decide (y1.1<(↑x0.n:Int))) (
  .rg <|
 .el x0.1 (x0.n) y1.1 fun y2 =>
  .ql28 (y2.add (Int.toNat y1.1*(4:Nat))) fun y3 =>
  .el x1.1 (x1.n) y1.1 fun y4 =>
  .ql28 (y4.add (Int.toNat y1.1*(4:Nat))) fun y5 =>
  .qc7 140 [qv10 y3,qv10 y5] fun y6 =>
  .bF y6 <|
 .nx 0 [.v (.int .i64 (IntKind.i64.wrap (y1.1+(1:Int))))]) <|
 .rT
theorem fL_eqRestS x0 x1:qft aL_eqRestS 84 [Sc.val .l x0,Sc.val .l x1] (tL_eqRestS x0 x1) :=fitK (by kernel_rfl)
def tL_eqRates (x0:qy5) (x1:qy5):T :=
 .br (!ByteArray.toList x0.1 == ByteArray.toList x1.1) (
  .rF) <|
 .qc7 141 [Sc.val .l x0.2.1,Sc.val .l x1.2.1] fun y1 =>
 .bF y1 <|
 .rT
theorem fL_eqRates x0 x1:qft qa0 85 [qv5 x0,qv5 x1] (tL_eqRates x0 x1) :=fitK (by kernel_rfl)
def tL_eqSigned (x0:qy0) (x1:qy0):T :=
 .br (!x0.1 == x1.1) (
  .rF) <|
 .qc7 33 [Sc.val .l x0.2.1,Sc.val .l x1.2.1] fun y1 =>
 .bF y1 <|
 .rT
theorem fL_eqSigned x0 x1:qft qa0 86 [qv0 x0,qv0 x1] (tL_eqSigned x0 x1) :=fitK (by kernel_rfl)
def tL_markBook (x0:qy4) (x1:Int):T :=
 .qc0 142 [Sc.val .l x0.1,.int .i64 x1] fun y1 =>
 .ret [.int .i64 y1]
theorem fL_markBook x0 x1:qft qa0 87 [qv4 x0,.int .i64 x1] (tL_markBook x0 x1) :=fitK (by kernel_rfl)
def aL_markRestS:An:=⟨[(2,[.s 1,.s 5],[.o (.o (.i .i64)),.o (.o (.i .i64))])],[],[]⟩
def tL_markRestS (x0:SlV) (x1:Int):T :=
 .lp [.o (.o (.i .i64)),.o (.o (.i .i64))] [.v (.int .i64 x1),.v (.int .i64 0)] fun y1 =>
 .br (decide (y1.2.1<(↑x0.n:Int))) (
  .qc18 90 [.int .i64 y1.1] fun y2 =>
  .el x0.1 (x0.n) y1.2.1 fun y3 =>
  .st ((y3.add (Int.toNat y1.2.1*(4:Nat))).add (0:Nat)) [.string y2] <|
 .rq ((3:Int)≠(0:Int)) <|
 .el x0.1 (x0.n) y1.2.1 fun y4 =>
  .st ((((y4.add (Int.toNat y1.2.1*(4:Nat))).add (1:Nat)).add (0:Nat)).add (0:Nat)) [.bool ((IntKind.i64.wrap (y1.1+(1:Int))).tmod (3:Int) == (0:Int))] <|
 .el x0.1 (x0.n) y1.2.1 fun y5 =>
  .ql29 ((((y5.add (Int.toNat y1.2.1*(4:Nat))).add (1:Nat)).add (0:Nat)).add (1:Nat)) fun y6 =>
  .qc0 37 [Sc.val .l y6,.int .i64 (IntKind.i64.wrap (IntKind.i64.wrap (y1.1+(1:Int))+(1:Int)))] fun y7 =>
  .el x0.1 (x0.n) y1.2.1 fun y8 =>
  .ql29 (((y8.add (Int.toNat y1.2.1*(4:Nat))).add (1:Nat)).add (2:Nat)) fun y9 =>
  .qc0 37 [Sc.val .l y9,.int .i64 y7] fun y10 =>
  .nx 0 [.v (.int .i64 y10),.v (.int .i64 (IntKind.i64.wrap (y1.2.1+(1:Int))))]) <|
 .ret [.int .i64 y1.1]
theorem fL_markRestS x0 x1:qft aL_markRestS 88 [Sc.val .l x0,.int .i64 x1] (tL_markRestS x0 x1) :=fitK (by kernel_rfl)
def tL_markRates (x0:qy5) (x1:Int):T :=
 .qc0 143 [Sc.val .l x0.2.1,.int .i64 x1] fun y1 =>
 .ret [.int .i64 y1]
theorem fL_markRates x0 x1:qft qa0 89 [qv5 x0,.int .i64 x1] (tL_markRates x0 x1) :=fitK (by kernel_rfl)
def aL_markText:An:=⟨[(4,[.s 0,.s 3],[.o (.o (.i .i64)),.o (.o (.s))])],[],[]⟩
def tL_markText (x0:Int):T :=
 .br (decide (x0≤(0:Int))) (
  .ret [.string ({ data:={ toList:=[(109:UInt8),(48:UInt8)]:Array UInt8 }:ByteArray })]) <|
 .lp [.o (.o (.i .i64)),.o (.o (.s))] [.v (.int .i64 x0),.v (.string ({ data:={ toList:=[]:Array UInt8 }:ByteArray }))] fun y1 =>
 .br (decide (y1.1 > (0:Int))) (
  .rq ((10:Int)≠(0:Int)) <|
 .fz ((1:Nat)) [.int .u8 (IntKind.u8.wrap (IntKind.i64.wrap ((48:Int)+Int.tmod y1.1 (10:Int))))] 5 fun b2 c2 =>
  .rd ({ a:=some { block:=b2,off:=(0:Nat):Addr },n:=(1:Nat),c:=c2:SlV }) ((1:Nat)) fun y3 =>
  .rq (bytesOf y3≠none) <|
 .rq ((bytesD y3).size+ByteArray.size y1.2.1≤(9223372036854775807:Nat)) <|
 .rq ((10:Int)≠(0:Int)) <|
 .nx 0 [.v (.int .i64 (IntKind.i64.wrap (Int.tdiv y1.1 (10:Int)))),.v (.string (bytesD y3++y1.2.1))]) <|
 .rq ({ data:={ toList:=[(109:UInt8)]:Array UInt8 }:ByteArray }.size+ByteArray.size y1.2.1≤(9223372036854775807:Nat)) <|
 .ret [.string ({ data:={ toList:=[(109:UInt8)]:Array UInt8 }:ByteArray }++y1.2.1)]
theorem fL_markText x0:qft aL_markText 90 [.int .i64 x0] (tL_markText x0) :=fitK (by kernel_rfl)
def tL_markSigned (x0:qy0) (x1:Int):T :=
 .qc0 37 [Sc.val .l x0.2.1,.int .i64 x1] fun y1 =>
 .ret [.int .i64 y1]
theorem fL_markSigned x0 x1:qft qa0 91 [qv0 x0,.int .i64 x1] (tL_markSigned x0 x1) :=fitK (by kernel_rfl)
def tL_heldBook (x0:qy4) (x1:Int):T :=
 .qc0 144 [Sc.val .l x0.1,.int .i64 x1] fun y1 =>
 .br (decide (y1<(0:Int))) (
  .rM) <|
 .ret [.int .i64 y1]
theorem fL_heldBook x0 x1:qft qa0 92 [qv4 x0,.int .i64 x1] (tL_heldBook x0 x1) :=fitK (by kernel_rfl)
def aL_heldRestS:An:=⟨[(2,[.s 1,.s 5],[.o (.o (.i .i64)),.o (.o (.i .i64))])],[],[]⟩
def tL_heldRestS (x0:SlV) (x1:Int):T :=
 .lp [.o (.o (.i .i64)),.o (.o (.i .i64))] [.v (.int .i64 x1),.v (.int .i64 0)] fun y1 =>
 .br (decide (y1.2.1<(↑x0.n:Int))) (
  .rg <|
 .el x0.1 (x0.n) y1.2.1 fun y2 =>
  .ql12 ((y2.add (Int.toNat y1.2.1*(4:Nat))).add (0:Nat)) fun y3 =>
  .qc30 90 [.int .i64 y1.1] fun y4 =>
  .br (!y3.toList == y4.toList) (
   .rM) <|
 .el x0.1 (x0.n) y1.2.1 fun y5 =>
  .ql31 ((((y5.add (Int.toNat y1.2.1*(4:Nat))).add (1:Nat)).add (0:Nat)).add (0:Nat)) fun y6 =>
  .rq ((3:Int)≠(0:Int)) <|
 .br (!y6 == ((IntKind.i64.wrap (y1.1+(1:Int))).tmod (3:Int) == (0:Int))) (
   .rM) <|
 .el x0.1 (x0.n) y1.2.1 fun y7 =>
  .ql29 ((((y7.add (Int.toNat y1.2.1*(4:Nat))).add (1:Nat)).add (0:Nat)).add (1:Nat)) fun y8 =>
  .qc0 145 [Sc.val .l y8,.int .i64 (IntKind.i64.wrap (IntKind.i64.wrap (y1.1+(1:Int))+(1:Int)))] fun y9 =>
  .br (decide (y9<(0:Int))) (
   .rM) <|
 .el x0.1 (x0.n) y1.2.1 fun y10 =>
  .ql29 (((y10.add (Int.toNat y1.2.1*(4:Nat))).add (1:Nat)).add (2:Nat)) fun y11 =>
  .qc0 145 [Sc.val .l y11,.int .i64 y9] fun y12 =>
  .br (decide (y12<(0:Int))) (
   .rM) <|
 .nx 0 [.v (.int .i64 y12),.v (.int .i64 (IntKind.i64.wrap (y1.2.1+(1:Int))))]) <|
 .ret [.int .i64 y1.1]
theorem fL_heldRestS x0 x1:qft aL_heldRestS 93 [Sc.val .l x0,.int .i64 x1] (tL_heldRestS x0 x1) :=fitK (by kernel_rfl)
def tL_heldRates (x0:qy5) (x1:Int):T :=
 .qc0 146 [Sc.val .l x0.2.1,.int .i64 x1] fun y1 =>
 .br (decide (y1<(0:Int))) (
  .rM) <|
 .ret [.int .i64 y1]
theorem fL_heldRates x0 x1:qft qa0 94 [qv5 x0,.int .i64 x1] (tL_heldRates x0 x1) :=fitK (by kernel_rfl)
def aX_IndexFunc_Acct:An:=⟨[(2,[.s 8],[.o (.o (.i .i64))])],[],[]⟩
def tX_IndexFunc_Acct (x0:SlV) (x1:Nat × Addr):T :=
 .lp [.o (.o (.i .i64))] [.v (.int .i64 0)] fun y1 =>
 .br (decide (y1.1<(↑x0.n:Int))) (
  .el x0.1 (x0.n) y1.1 fun y2 =>
  .ql24 (y2.add (Int.toNat y1.1*(4:Nat))) fun y3 =>
  .call false x1.1 [qv8 y3,.pointer (some x1.2)] (.v (.o (.b))) fun y4 =>
  .br y4 (
   .ret [.int .i64 y1.1]) <|
 .nx 0 [.v (.int .i64 (IntKind.i64.wrap (y1.1+(1:Int))))]) <|
 .rM
theorem fX_IndexFunc_Acct x0 x1:qft aX_IndexFunc_Acct 102 [Sc.val .l x0,(Value.func (Fn.func x1.1) { toList:=[]:Array Value } { toList:=[Value.pointer (some x1.2)]:Array Value })] (tX_IndexFunc_Acct x0 x1) :=fitK (by kernel_rfl)
def tI_AcctAt_1 (x0:qy8) (x1:Addr):T :=
 .ld false x1 (.o (.s)) fun y1 =>
 .ret [.bool (ByteArray.toList x0.1 == y1.toList)]
theorem fI_AcctAt_1 x0 x1:qft qa0 103 [qv8 x0,.pointer (some x1)] (tI_AcctAt_1 x0 x1) :=fitK (by kernel_rfl)
def tI_LedgerOk (x0:qy3):T :=
 .qc7 162 [qv4 (x0.1,())] fun y1 =>
 .br y1 (
  .qc7 163 [Sc.val .l x0.2.1] fun y2 =>
  .br y2 (
   .qc7 164 [qv5 x0.2.2] fun y3 =>
   .ret [.bool y3]) <|
 .rF) <|
 .rF
theorem fI_LedgerOk x0:qft qa0 104 [qv3 x0] (tI_LedgerOk x0) :=fitK (by kernel_rfl)
def tI_ledgerCopy (x0:qy3):T :=
 .rg <|
 .qc32 165 [qv4 (x0.1,())] fun y1 =>
 .qc2 166 [Sc.val .l x0.2.1] fun y2 =>
 .qc14 167 [qv5 x0.2.2] fun y3 =>
 .ret [qv3 (y1.1,y2,y3.1,y3.2.1,())]
theorem fI_ledgerCopy x0:qft qa0 105 [qv3 x0] (tI_ledgerCopy x0) :=fitK (by kernel_rfl)
def aI_NatOk:An:=⟨[(4,[.s 24],[.o (.o (.i .i64))])],[],[]⟩
def tI_NatOk (x0:SlV):T :=
 .br (decide ((↑x0.n:Int) > (50:Int))) (
  .rF) <|
 .br (decide ((↑x0.n:Int) > (0:Int))) (
  .el x0.1 (x0.n) (IntKind.i64.wrap ((↑x0.n:Int)-(1:Int))) fun y1 =>
  .ql15 (y1.add ((IntKind.i64.wrap ((↑x0.n:Int)-(1:Int))).toNat*(1:Nat))) fun y2 =>
  .br (y2 == (0:Int)) (
   .rF) <|
 .lp [.o (.o (.i .i64))] [.v (.int .i64 0)] fun y3 =>
  .br (decide (y3.1<(↑x0.n:Int))) (
   .el x0.1 (x0.n) y3.1 fun y4 =>
   .ql15 (y4.add (Int.toNat y3.1*(1:Nat))) fun y5 =>
   .br (decide (y5<(0:Int))) (
    .rF) <|
 .br (decide (y5≥(1000000000:Int))) (
    .rF) <|
 .nx 0 [.v (.int .i64 (IntKind.i64.wrap (y3.1+(1:Int))))]) <|
 .rT) <|
 .lp [.o (.o (.i .i64))] [.v (.int .i64 0)] fun y1 =>
 .br (decide (y1.1<(↑x0.n:Int))) (
  .el x0.1 (x0.n) y1.1 fun y2 =>
  .ql15 (y2.add (Int.toNat y1.1*(1:Nat))) fun y3 =>
  .br (decide (y3<(0:Int))) (
   .rF) <|
 .br (decide (y3≥(1000000000:Int))) (
   .rF) <|
 .nx 0 [.v (.int .i64 (IntKind.i64.wrap (y1.1+(1:Int))))]) <|
 .rT
theorem fI_NatOk x0:qft aI_NatOk 107 [Sc.val .l x0] (tI_NatOk x0) :=fitK (by kernel_rfl)
def aI_natCmp:An:=⟨[(6,[.s 5],[.o (.o (.i .i64))])],[],[]⟩
def tI_natCmp (x0:SlV) (x1:SlV):T :=
 .br ((↑x0.n:Int) != (↑x1.n:Int)) (
  .br (decide ((↑x0.n:Int)<(↑x1.n:Int))) (
   .rM) <|
 .ret [.int .i64 1]) <|
 .lp [.o (.o (.i .i64))] [.v (.int .i64 (IntKind.i64.wrap ((↑x0.n:Int)-(1:Int))))] fun y1 =>
 .br (decide (y1.1≥(0:Int))) (
  .rg <|
 .el x0.1 (x0.n) y1.1 fun y2 =>
  .ql17 (y2.add (Int.toNat y1.1*(1:Nat))) fun y3 =>
  .el x1.1 (x1.n) y1.1 fun y4 =>
  .ql17 (y4.add (Int.toNat y1.1*(1:Nat))) fun y5 =>
  .br (y3 != y5) (
   .rg <|
 .el x0.1 (x0.n) y1.1 fun y6 =>
   .ql17 (y6.add (Int.toNat y1.1*(1:Nat))) fun y7 =>
   .el x1.1 (x1.n) y1.1 fun y8 =>
   .ql17 (y8.add (Int.toNat y1.1*(1:Nat))) fun y9 =>
   .br (decide (y7<y9)) (
    .rM) <|
 .ret [.int .i64 1]) <|
 .nx 0 [.v (.int .i64 (IntKind.i64.wrap (y1.1-(1:Int))))]) <|
 .ret [.int .i64 0]
theorem fI_natCmp x0 x1:qft aI_natCmp 108 [Sc.val .l x0,Sc.val .l x1] (tI_natCmp x0 x1) :=fitK (by kernel_rfl)
def aI_natSmall:An:=⟨[(4,[.s 6,.s 7,.s 8],[.a 3,.o (.o (.i .i64)),.o (.o (.i .i64))])],[],[]⟩
def tI_natSmall (x0:SlV) (x1:Int):T :=
 .rq ((0:Int)≤(↑x0.n:Int)∧(↑x0.n:Int)≤(↑x0.n:Int)∧(↑(8:Nat):Int)*(↑x0.n:Int)≤(281474976710656:Int)∧(↑x0.n:Int)≤(9223372036854775807:Int)) <|
 .lp [.a 3,.o (.o (.i .i64)),.o (.o (.i .i64))] [.a 3 ((↑x0.n:Int).toNat) ((madeCells { toList:=[Value.int IntKind.i64 (0:Int)]:Array Value } ((↑x0.n:Int).toNat*(1:Nat))).toList),.v (.int .i64 0),.v (.int .i64 (IntKind.i64.wrap ((↑x0.n:Int)-(1:Int))))] fun y1 =>
 .br (decide (y1.2.2.1≥(0:Int))) (
  .el x0.1 (x0.n) y1.2.2.1 fun y2 =>
  .ql15 (y2.add (Int.toNat y1.2.2.1*(1:Nat))) fun y3 =>
  .rq (x1≠(0:Int)) <|
 .rq ((0:Int)≤y1.2.2.1∧y1.2.2.1<(↑y1.1.1:Int)) <|
 .rq (Int.toNat y1.2.2.1*(1:Nat)+[Value.int IntKind.i64 (IntKind.i64.wrap ((IntKind.i64.wrap (IntKind.i64.wrap (y1.2.1*(1000000000:Int))+y3)).tdiv x1))].length≤y1.1.2.length) <|
 .rq (x1≠(0:Int)) <|
 .nx 0 [.a 3 y1.1.1 (setl y1.1.2 (Int.toNat y1.2.2.1*(1:Nat)) [Value.int IntKind.i64 (IntKind.i64.wrap ((IntKind.i64.wrap (IntKind.i64.wrap (y1.2.1*(1000000000:Int))+y3)).tdiv x1))]),.v (.int .i64 ((IntKind.i64.wrap (IntKind.i64.wrap (y1.2.1*(1000000000:Int))+y3)).tmod x1)),.v (.int .i64 (IntKind.i64.wrap (y1.2.2.1-(1:Int))))]) <|
 .fz y1.1.1 y1.1.2 3 fun b2 c2 =>
 .qc6 112 [.slice (some { block:=b2,off:=(0:Nat):Addr }) y1.1.1 (c2)] fun y3 =>
 .ret [Sc.val .l y3,.int .i64 y1.2.1]
theorem fI_natSmall x0 x1:qft aI_natSmall 109 [Sc.val .l x0,.int .i64 x1] (tI_natSmall x0 x1) :=fitK (by kernel_rfl)
def aI_natMul:An:=⟨[(3,[.s 5,.s 21],[.a 3,.o (.o (.i .i64))]),(7,[.s 5,.s 8,.s 28],[.a 3,.o (.o (.i .i64)),.o (.o (.i .i64))]),(14,[.s 5,.s 8,.s 11],[.a 3,.o (.o (.i .i64)),.o (.o (.i .i64))])],[],[]⟩
def tI_natMul (x0:SlV) (x1:SlV):T :=
 .rq ((0:Int)≤IntKind.i64.wrap (IntKind.i64.wrap ((↑x0.n:Int)+(↑x1.n:Int))+(1:Int))∧IntKind.i64.wrap (IntKind.i64.wrap ((↑x0.n:Int)+(↑x1.n:Int))+(1:Int))≤IntKind.i64.wrap (IntKind.i64.wrap ((↑x0.n:Int)+(↑x1.n:Int))+(1:Int))∧(↑(8:Nat):Int)*IntKind.i64.wrap (IntKind.i64.wrap ((↑x0.n:Int)+(↑x1.n:Int))+(1:Int))≤(281474976710656:Int)∧IntKind.i64.wrap (IntKind.i64.wrap ((↑x0.n:Int)+(↑x1.n:Int))+(1:Int))≤(9223372036854775807:Int)) <|
 .lp [.a 3,.o (.o (.i .i64))] [.a 3 ((IntKind.i64.wrap (IntKind.i64.wrap ((↑x0.n:Int)+(↑x1.n:Int))+(1:Int))).toNat) ((madeCells { toList:=[Value.int IntKind.i64 (0:Int)]:Array Value } ((IntKind.i64.wrap (IntKind.i64.wrap ((↑x0.n:Int)+(↑x1.n:Int))+(1:Int))).toNat*(1:Nat))).toList),.v (.int .i64 0)] fun y1 =>
 .br (decide (y1.2.1<(↑x0.n:Int))) (
  .el x0.1 (x0.n) y1.2.1 fun y2 =>
  .ql15 (y2.add (Int.toNat y1.2.1*(1:Nat))) fun y3 =>
  .lp [.a 3,.o (.o (.i .i64)),.o (.o (.i .i64))] [.a 3 y1.1.1 y1.1.2,.v (.int .i64 0),.v (.int .i64 0)] fun y4 =>
  .br (decide (y4.2.2.1<(↑x1.n:Int))) (
   .el x1.1 (x1.n) y4.2.2.1 fun y5 =>
   .ql15 (y5.add (Int.toNat y4.2.2.1*(1:Nat))) fun y6 =>
   .rq ((0:Int)≤IntKind.i64.wrap (y1.2.1+y4.2.2.1)∧IntKind.i64.wrap (y1.2.1+y4.2.2.1)<(↑y4.1.1:Int)) <|
 .xs y4.1.2 ((IntKind.i64.wrap (y1.2.1+y4.2.2.1)).toNat*(1:Nat)) (.o (.i .i64)) fun y7 =>
   .rq ((1000000000:Int)≠(0:Int)) <|
 .rq ((0:Int)≤IntKind.i64.wrap (y1.2.1+y4.2.2.1)∧IntKind.i64.wrap (y1.2.1+y4.2.2.1)<(↑y4.1.1:Int)) <|
 .rq ((IntKind.i64.wrap (y1.2.1+y4.2.2.1)).toNat*(1:Nat)+[Value.int IntKind.i64 ((IntKind.i64.wrap (y4.2.1+IntKind.i64.wrap (y7+IntKind.i64.wrap (y3*y6)))).tmod (1000000000:Int))].length≤y4.1.2.length) <|
 .rq ((1000000000:Int)≠(0:Int)) <|
 .nx 1 [.a 3 y4.1.1 (setl y4.1.2 ((IntKind.i64.wrap (y1.2.1+y4.2.2.1)).toNat*(1:Nat)) [Value.int IntKind.i64 ((IntKind.i64.wrap (y4.2.1+IntKind.i64.wrap (y7+IntKind.i64.wrap (y3*y6)))).tmod (1000000000:Int))]),.v (.int .i64 (IntKind.i64.wrap ((IntKind.i64.wrap (y4.2.1+IntKind.i64.wrap (y7+IntKind.i64.wrap (y3*y6)))).tdiv (1000000000:Int)))),.v (.int .i64 (IntKind.i64.wrap (y4.2.2.1+(1:Int))))]) <|
 .lp [.a 3,.o (.o (.i .i64)),.o (.o (.i .i64))] [.a 3 y4.1.1 y4.1.2,.v (.int .i64 y4.2.1),.v (.int .i64 (IntKind.i64.wrap (y1.2.1+(↑x1.n:Int))))] fun y5 =>
  .br (decide (y5.2.1 > (0:Int))) (
   .rq ((0:Int)≤y5.2.2.1∧y5.2.2.1<(↑y5.1.1:Int)) <|
 .xs y5.1.2 (Int.toNat y5.2.2.1*(1:Nat)) (.o (.i .i64)) fun y6 =>
   .rq ((1000000000:Int)≠(0:Int)) <|
 .rq ((0:Int)≤y5.2.2.1∧y5.2.2.1<(↑y5.1.1:Int)) <|
 .rq (Int.toNat y5.2.2.1*(1:Nat)+[Value.int IntKind.i64 ((IntKind.i64.wrap (y5.2.1+y6)).tmod (1000000000:Int))].length≤y5.1.2.length) <|
 .rq ((1000000000:Int)≠(0:Int)) <|
 .nx 2 [.a 3 y5.1.1 (setl y5.1.2 (Int.toNat y5.2.2.1*(1:Nat)) [Value.int IntKind.i64 ((IntKind.i64.wrap (y5.2.1+y6)).tmod (1000000000:Int))]),.v (.int .i64 (IntKind.i64.wrap ((IntKind.i64.wrap (y5.2.1+y6)).tdiv (1000000000:Int)))),.v (.int .i64 (IntKind.i64.wrap (y5.2.2.1+(1:Int))))]) <|
 .nx 0 [.a 3 y5.1.1 y5.1.2,.v (.int .i64 (IntKind.i64.wrap (y1.2.1+(1:Int))))]) <|
 .fz y1.1.1 y1.1.2 3 fun b2 c2 =>
 .qc6 112 [.slice (some { block:=b2,off:=(0:Nat):Addr }) y1.1.1 (c2)] fun y3 =>
 .ret [Sc.val .l y3]
theorem fI_natMul x0 x1:qft aI_natMul 110 [Sc.val .l x0,Sc.val .l x1] (tI_natMul x0 x1) :=fitK (by kernel_rfl)
def aI_divStep:An:=⟨[(4,[.s 7],[.o (.o (.i .i64))])],[],[]⟩
def tI_divStep (x0:SlV) (x1:SlV):T :=
 .rg <|
 .el x0.1 (x0.n) ((↑x1.n:Int)) fun y1 =>
 .ql17 (y1.add ((↑x1.n:Int).toNat*(1:Nat))) fun y2 =>
 .el x0.1 (x0.n) (IntKind.i64.wrap ((↑x1.n:Int)-(1:Int))) fun y3 =>
 .ql17 (y3.add ((IntKind.i64.wrap ((↑x1.n:Int)-(1:Int))).toNat*(1:Nat))) fun y4 =>
 .el x1.1 (x1.n) (IntKind.i64.wrap ((↑x1.n:Int)-(1:Int))) fun y5 =>
 .ql15 (y5.add ((IntKind.i64.wrap ((↑x1.n:Int)-(1:Int))).toNat*(1:Nat))) fun y6 =>
 .rq (y6≠(0:Int)) <|
 .lp [.o (.o (.i .i64))] [.v (.int .i64 (if (999999999:Int)<IntKind.i64.wrap ((IntKind.i64.wrap (IntKind.i64.wrap (y2*(1000000000:Int))+y4)).tdiv y6) then (999999999:Int) else IntKind.i64.wrap ((IntKind.i64.wrap (IntKind.i64.wrap (y2*(1000000000:Int))+y4)).tdiv y6)))] fun y7 =>
 .rg <|
 .br (decide (y7.1 > (0:Int))) (
  .el x1.1 (x1.n) (IntKind.i64.wrap ((↑x1.n:Int)-(1:Int))) fun y8 =>
  .ql17 (y8.add ((IntKind.i64.wrap ((↑x1.n:Int)-(1:Int))).toNat*(1:Nat))) fun y9 =>
  .br (decide (IntKind.i64.wrap (IntKind.i64.wrap (IntKind.i64.wrap (y2*(1000000000:Int))+y4)-IntKind.i64.wrap (y7.1*y9))<(1000000000:Int))) (
   .el x1.1 (x1.n) (IntKind.i64.wrap ((↑x1.n:Int)-(2:Int))) fun y10 =>
   .ql17 (y10.add ((IntKind.i64.wrap ((↑x1.n:Int)-(2:Int))).toNat*(1:Nat))) fun y11 =>
   .el x1.1 (x1.n) (IntKind.i64.wrap ((↑x1.n:Int)-(1:Int))) fun y12 =>
   .ql17 (y12.add ((IntKind.i64.wrap ((↑x1.n:Int)-(1:Int))).toNat*(1:Nat))) fun y13 =>
   .el x0.1 (x0.n) (IntKind.i64.wrap ((↑x1.n:Int)-(2:Int))) fun y14 =>
   .ql17 (y14.add ((IntKind.i64.wrap ((↑x1.n:Int)-(2:Int))).toNat*(1:Nat))) fun y15 =>
   .br (decide (IntKind.i64.wrap (y7.1*y11) > IntKind.i64.wrap (IntKind.i64.wrap (IntKind.i64.wrap (IntKind.i64.wrap (IntKind.i64.wrap (y2*(1000000000:Int))+y4)-IntKind.i64.wrap (y7.1*y13))*(1000000000:Int))+y15))) (
    .nx 0 [.v (.int .i64 (IntKind.i64.wrap (y7.1-(1:Int))))]) <|
 .qc7 168 [Sc.val .l x0,Sc.val .l x1,.int .i64 y7.1] fun y16 =>
   .br y16 (
    .qc33 169 [Sc.val .l x0,Sc.val .l x1] fun _ =>
    .ret [.int .i64 (IntKind.i64.wrap (y7.1-(1:Int)))]) <|
 .ret [.int .i64 y7.1]) <|
 .qc7 168 [Sc.val .l x0,Sc.val .l x1,.int .i64 y7.1] fun y10 =>
  .br y10 (
   .qc33 169 [Sc.val .l x0,Sc.val .l x1] fun _ =>
   .ret [.int .i64 (IntKind.i64.wrap (y7.1-(1:Int)))]) <|
 .ret [.int .i64 y7.1]) <|
 .qc7 168 [Sc.val .l x0,Sc.val .l x1,.int .i64 y7.1] fun y8 =>
 .br y8 (
  .qc33 169 [Sc.val .l x0,Sc.val .l x1] fun _ =>
  .ret [.int .i64 (IntKind.i64.wrap (y7.1-(1:Int)))]) <|
 .ret [.int .i64 y7.1]
theorem fI_divStep x0 x1:qft aI_divStep 111 [Sc.val .l x0,Sc.val .l x1] (tI_divStep x0 x1) :=fitK (by kernel_rfl)
def aI_trim:An:=⟨[(1,[.s 0],[.o (.o (.l))])],[],[]⟩
def tI_trim (x0:SlV):T :=
 .lp [.o (.o (.l))] [.v (Sc.val .l x0)] fun y1 =>
 .br (decide ((↑y1.1.n:Int) > (0:Int))) (
  .el y1.1.1 (y1.1.n) (IntKind.i64.wrap ((↑y1.1.n:Int)-(1:Int))) fun y2 =>
  .ql15 (y2.add ((IntKind.i64.wrap ((↑y1.1.n:Int)-(1:Int))).toNat*(1:Nat))) fun y3 =>
  .br (y3 == (0:Int)) (
   .rq ((0:Int)≤(0:Int)∧(0:Int)≤IntKind.i64.wrap ((↑y1.1.n:Int)-(1:Int))∧IntKind.i64.wrap ((↑y1.1.n:Int)-(1:Int))≤(↑y1.1.c:Int)∧(↑y1.1.c:Int)≤(↑y1.1.c:Int)) <|
 .nx 0 [.v (.slice (if (↑y1.1.c:Int).toNat=Int.toNat (0:Int) then y1.1.1 else Option.map (fun x=>x.add (Int.toNat (0:Int)*Go.Proofs.Tryz.prog.types[(3:Nat)].size)) y1.1.1) ((IntKind.i64.wrap ((↑y1.1.n:Int)-(1:Int))).toNat-Int.toNat (0:Int)) ((↑y1.1.c:Int).toNat-Int.toNat (0:Int)))]) <|
 .ret [Sc.val .l y1.1]) <|
 .ret [Sc.val .l y1.1]
theorem fI_trim x0:qft aI_trim 112 [Sc.val .l x0] (tI_trim x0) :=fitK (by kernel_rfl)
def tI_signed (x0:Bool) (x1:SlV):T :=
 .br x0 (
  .ret [qv0 ((decide ((↑x1.n:Int) > (0:Int))),x1,())]) <|
 .ret [qv0 ((false),x1,())]
theorem fI_signed x0 x1:qft qa0 113 [.bool x0,Sc.val .l x1] (tI_signed x0 x1) :=fitK (by kernel_rfl)
def aI_natAdd:An:=⟨[(4,[.s 5,.s 6,.s 7],[.a 3,.o (.o (.i .i64)),.o (.o (.i .i64))])],[],[]⟩
def tI_natAdd (x0:SlV) (x1:SlV):T :=
 .rq ((0:Int)≤(0:Int)∧(0:Int)≤IntKind.i64.wrap ((if (↑x1.n:Int) > (↑x0.n:Int) then (↑x1.n:Int) else (↑x0.n:Int))+(1:Int))∧(↑(8:Nat):Int)*IntKind.i64.wrap ((if (↑x1.n:Int) > (↑x0.n:Int) then (↑x1.n:Int) else (↑x0.n:Int))+(1:Int))≤(281474976710656:Int)∧IntKind.i64.wrap ((if (↑x1.n:Int) > (↑x0.n:Int) then (↑x1.n:Int) else (↑x0.n:Int))+(1:Int))≤(9223372036854775807:Int)) <|
 .lp [.a 3,.o (.o (.i .i64)),.o (.o (.i .i64))] [.a 3 (Int.toNat (0:Int)) [],.v (.int .i64 0),.v (.int .i64 0)] fun y1 =>
 .br (decide (y1.2.2.1<if (↑x1.n:Int) > (↑x0.n:Int) then (↑x1.n:Int) else (↑x0.n:Int))) (
  .br (decide (y1.2.2.1<(↑x0.n:Int))) (
   .el x0.1 (x0.n) y1.2.2.1 fun y2 =>
   .ql15 (y2.add (Int.toNat y1.2.2.1*(1:Nat))) fun y3 =>
   .br (decide (y1.2.2.1<(↑x1.n:Int))) (
    .el x1.1 (x1.n) y1.2.2.1 fun y4 =>
    .ql15 (y4.add (Int.toNat y1.2.2.1*(1:Nat))) fun y5 =>
    .rq ((1000000000:Int)≠(0:Int)) <|
 .rq ([Value.int IntKind.i64 ((IntKind.i64.wrap (IntKind.i64.wrap (y1.2.1+y3)+y5)).tmod (1000000000:Int))].length=(1:Nat)*(1:Nat)) <|
 .rq (one [Value.int IntKind.i64 ((IntKind.i64.wrap (IntKind.i64.wrap (y1.2.1+y3)+y5)).tmod (1000000000:Int))]=true∧(y1.1.1+(1:Nat))*(8:Nat)≤(140737488355328:Nat)∧y1.1.1+(1:Nat)≤(9223372036854775807:Nat)) <|
 .rq ((1000000000:Int)≠(0:Int)) <|
 .nx 0 [.a 3 (y1.1.1+(1:Nat)) (y1.1.2++[Value.int IntKind.i64 ((IntKind.i64.wrap (IntKind.i64.wrap (y1.2.1+y3)+y5)).tmod (1000000000:Int))]),.v (.int .i64 (IntKind.i64.wrap ((IntKind.i64.wrap (IntKind.i64.wrap (y1.2.1+y3)+y5)).tdiv (1000000000:Int)))),.v (.int .i64 (IntKind.i64.wrap (y1.2.2.1+(1:Int))))]) <|
 .rq ((1000000000:Int)≠(0:Int)) <|
 .rq ([Value.int IntKind.i64 ((IntKind.i64.wrap (y1.2.1+y3)).tmod (1000000000:Int))].length=(1:Nat)*(1:Nat)) <|
 .rq (one [Value.int IntKind.i64 ((IntKind.i64.wrap (y1.2.1+y3)).tmod (1000000000:Int))]=true∧(y1.1.1+(1:Nat))*(8:Nat)≤(140737488355328:Nat)∧y1.1.1+(1:Nat)≤(9223372036854775807:Nat)) <|
 .rq ((1000000000:Int)≠(0:Int)) <|
 .nx 0 [.a 3 (y1.1.1+(1:Nat)) (y1.1.2++[Value.int IntKind.i64 ((IntKind.i64.wrap (y1.2.1+y3)).tmod (1000000000:Int))]),.v (.int .i64 (IntKind.i64.wrap ((IntKind.i64.wrap (y1.2.1+y3)).tdiv (1000000000:Int)))),.v (.int .i64 (IntKind.i64.wrap (y1.2.2.1+(1:Int))))]) <|
 .br (decide (y1.2.2.1<(↑x1.n:Int))) (
   .el x1.1 (x1.n) y1.2.2.1 fun y2 =>
   .ql15 (y2.add (Int.toNat y1.2.2.1*(1:Nat))) fun y3 =>
   .rq ((1000000000:Int)≠(0:Int)) <|
 .rq ([Value.int IntKind.i64 ((IntKind.i64.wrap (y1.2.1+y3)).tmod (1000000000:Int))].length=(1:Nat)*(1:Nat)) <|
 .rq (one [Value.int IntKind.i64 ((IntKind.i64.wrap (y1.2.1+y3)).tmod (1000000000:Int))]=true∧(y1.1.1+(1:Nat))*(8:Nat)≤(140737488355328:Nat)∧y1.1.1+(1:Nat)≤(9223372036854775807:Nat)) <|
 .rq ((1000000000:Int)≠(0:Int)) <|
 .nx 0 [.a 3 (y1.1.1+(1:Nat)) (y1.1.2++[Value.int IntKind.i64 ((IntKind.i64.wrap (y1.2.1+y3)).tmod (1000000000:Int))]),.v (.int .i64 (IntKind.i64.wrap ((IntKind.i64.wrap (y1.2.1+y3)).tdiv (1000000000:Int)))),.v (.int .i64 (IntKind.i64.wrap (y1.2.2.1+(1:Int))))]) <|
 .rq ((1000000000:Int)≠(0:Int)) <|
 .rq ([Value.int IntKind.i64 (Int.tmod y1.2.1 (1000000000:Int))].length=(1:Nat)*(1:Nat)) <|
 .rq (one [Value.int IntKind.i64 (Int.tmod y1.2.1 (1000000000:Int))]=true∧(y1.1.1+(1:Nat))*(8:Nat)≤(140737488355328:Nat)∧y1.1.1+(1:Nat)≤(9223372036854775807:Nat)) <|
 .rq ((1000000000:Int)≠(0:Int)) <|
 .nx 0 [.a 3 (y1.1.1+(1:Nat)) (y1.1.2++[Value.int IntKind.i64 (Int.tmod y1.2.1 (1000000000:Int))]),.v (.int .i64 (IntKind.i64.wrap (Int.tdiv y1.2.1 (1000000000:Int)))),.v (.int .i64 (IntKind.i64.wrap (y1.2.2.1+(1:Int))))]) <|
 .rq ([Value.int IntKind.i64 y1.2.1].length=(1:Nat)*(1:Nat)) <|
 .rq (one [Value.int IntKind.i64 y1.2.1]=true∧(y1.1.1+(1:Nat))*(8:Nat)≤(140737488355328:Nat)∧y1.1.1+(1:Nat)≤(9223372036854775807:Nat)) <|
 .fz (y1.1.1+(1:Nat)) (y1.1.2++[Value.int IntKind.i64 y1.2.1]) 3 fun b2 c2 =>
 .qc6 112 [.slice (some { block:=b2,off:=(0:Nat):Addr }) (y1.1.1+(1:Nat)) (c2)] fun y3 =>
 .ret [Sc.val .l y3]
theorem fI_natAdd x0 x1:qft aI_natAdd 114 [Sc.val .l x0,Sc.val .l x1] (tI_natAdd x0 x1) :=fitK (by kernel_rfl)
def aI_natSub:An:=⟨[(4,[.s 5,.s 6,.s 14],[.a 3,.o (.o (.i .i64)),.o (.o (.i .i64))])],[],[]⟩
def tI_natSub (x0:SlV) (x1:SlV):T :=
 .rq ((0:Int)≤(↑x0.n:Int)∧(↑x0.n:Int)≤(↑x0.n:Int)∧(↑(8:Nat):Int)*(↑x0.n:Int)≤(281474976710656:Int)∧(↑x0.n:Int)≤(9223372036854775807:Int)) <|
 .lp [.a 3,.o (.o (.i .i64)),.o (.o (.i .i64))] [.a 3 ((↑x0.n:Int).toNat) ((madeCells { toList:=[Value.int IntKind.i64 (0:Int)]:Array Value } ((↑x0.n:Int).toNat*(1:Nat))).toList),.v (.int .i64 0),.v (.int .i64 0)] fun y1 =>
 .br (decide (y1.2.2.1<(↑x0.n:Int))) (
  .el x0.1 (x0.n) y1.2.2.1 fun y2 =>
  .ql15 (y2.add (Int.toNat y1.2.2.1*(1:Nat))) fun y3 =>
  .br (decide (y1.2.2.1<(↑x1.n:Int))) (
   .el x1.1 (x1.n) y1.2.2.1 fun y4 =>
   .ql15 (y4.add (Int.toNat y1.2.2.1*(1:Nat))) fun y5 =>
   .br (decide (IntKind.i64.wrap (IntKind.i64.wrap (y3-y1.2.1)-y5)<(0:Int))) (
    .rq ((0:Int)≤y1.2.2.1∧y1.2.2.1<(↑y1.1.1:Int)) <|
 .rq (Int.toNat y1.2.2.1*(1:Nat)+[Value.int IntKind.i64 (IntKind.i64.wrap (IntKind.i64.wrap (IntKind.i64.wrap (y3-y1.2.1)-y5)+(1000000000:Int)))].length≤y1.1.2.length) <|
 .nx 0 [.a 3 y1.1.1 (setl y1.1.2 (Int.toNat y1.2.2.1*(1:Nat)) [Value.int IntKind.i64 (IntKind.i64.wrap (IntKind.i64.wrap (IntKind.i64.wrap (y3-y1.2.1)-y5)+(1000000000:Int)))]),.v (.int .i64 1),.v (.int .i64 (IntKind.i64.wrap (y1.2.2.1+(1:Int))))]) <|
 .rq ((0:Int)≤y1.2.2.1∧y1.2.2.1<(↑y1.1.1:Int)) <|
 .rq (Int.toNat y1.2.2.1*(1:Nat)+[Value.int IntKind.i64 (IntKind.i64.wrap (IntKind.i64.wrap (y3-y1.2.1)-y5))].length≤y1.1.2.length) <|
 .nx 0 [.a 3 y1.1.1 (setl y1.1.2 (Int.toNat y1.2.2.1*(1:Nat)) [Value.int IntKind.i64 (IntKind.i64.wrap (IntKind.i64.wrap (y3-y1.2.1)-y5))]),.v (.int .i64 0),.v (.int .i64 (IntKind.i64.wrap (y1.2.2.1+(1:Int))))]) <|
 .br (decide (IntKind.i64.wrap (y3-y1.2.1)<(0:Int))) (
   .rq ((0:Int)≤y1.2.2.1∧y1.2.2.1<(↑y1.1.1:Int)) <|
 .rq (Int.toNat y1.2.2.1*(1:Nat)+[Value.int IntKind.i64 (IntKind.i64.wrap (IntKind.i64.wrap (y3-y1.2.1)+(1000000000:Int)))].length≤y1.1.2.length) <|
 .nx 0 [.a 3 y1.1.1 (setl y1.1.2 (Int.toNat y1.2.2.1*(1:Nat)) [Value.int IntKind.i64 (IntKind.i64.wrap (IntKind.i64.wrap (y3-y1.2.1)+(1000000000:Int)))]),.v (.int .i64 1),.v (.int .i64 (IntKind.i64.wrap (y1.2.2.1+(1:Int))))]) <|
 .rq ((0:Int)≤y1.2.2.1∧y1.2.2.1<(↑y1.1.1:Int)) <|
 .rq (Int.toNat y1.2.2.1*(1:Nat)+[Value.int IntKind.i64 (IntKind.i64.wrap (y3-y1.2.1))].length≤y1.1.2.length) <|
 .nx 0 [.a 3 y1.1.1 (setl y1.1.2 (Int.toNat y1.2.2.1*(1:Nat)) [Value.int IntKind.i64 (IntKind.i64.wrap (y3-y1.2.1))]),.v (.int .i64 0),.v (.int .i64 (IntKind.i64.wrap (y1.2.2.1+(1:Int))))]) <|
 .fz y1.1.1 y1.1.2 3 fun b2 c2 =>
 .qc6 112 [.slice (some { block:=b2,off:=(0:Nat):Addr }) y1.1.1 (c2)] fun y3 =>
 .ret [Sc.val .l y3]
theorem fI_natSub x0 x1:qft aI_natSub 115 [Sc.val .l x0,Sc.val .l x1] (tI_natSub x0 x1) :=fitK (by kernel_rfl)
def tI_RatOk (x0:qy2):T :=
 .qc7 62 [qv0 (x0.1,x0.2.1,())] fun y1 =>
 .bF y1 <|
 .qc7 107 [Sc.val .l x0.2.2.1] fun y2 =>
 .bF y2 <|
 .br ((↑x0.2.2.1.n:Int) == (0:Int)) (
  .rF) <|
 .br (decide ((↑x0.2.2.1.n:Int) > (18:Int))) (
  .rF) <|
 .br (decide ((↑x0.2.1.n:Int) > (18:Int))) (
  .rF) <|
 .qc6 170 [Sc.val .l x0.2.1,Sc.val .l x0.2.2.1] fun y3 =>
 .br ((↑y3.n:Int) == (1:Int)) (
  .el y3.1 (y3.n) ((0:Int)) fun y4 =>
  .ql15 (y4.add (Int.toNat (0:Int)*(1:Nat))) fun y5 =>
  .ret [.bool (y5 == (1:Int))]) <|
 .rF
theorem fI_RatOk x0:qft qa0 116 [qv1 x0] (tI_RatOk x0) :=fitK (by kernel_rfl)
def tI_reduce (x0:qy0) (x1:SlV):T :=
 .qc6 170 [Sc.val .l x0.2.1,Sc.val .l x1] fun y1 =>
 .qc34 49 [Sc.val .l x0.2.1,Sc.val .l y1] fun y2 =>
 .qc34 49 [Sc.val .l x1,Sc.val .l y1] fun y3 =>
 .br (decide ((↑y2.1.n:Int) > (18:Int))) (
  .ret [qv1 ((false),nilS,nilS,()),.bool (false)]) <|
 .br (decide ((↑y3.1.n:Int) > (18:Int))) (
  .ret [qv1 ((false),nilS,nilS,()),.bool (false)]) <|
 .qc16 113 [.bool x0.1,Sc.val .l y2.1] fun y4 =>
 .ret [qv1 (y4.1,y4.2.1,y3.1,()),.bool (true)]
theorem fI_reduce x0 x1:qft qa0 117 [qv0 x0,Sc.val .l x1] (tI_reduce x0 x1) :=fitK (by kernel_rfl)
def tI_intSign (x0:qy0):T :=
 .br ((↑x0.2.1.n:Int) == (0:Int)) (
  .ret [.int .i64 0]) <|
 .br x0.1 (
  .rM) <|
 .ret [.int .i64 1]
theorem fI_intSign x0:qft qa0 118 [qv0 x0] (tI_intSign x0) :=fitK (by kernel_rfl)
def tI_CurKnown (x0:ByteArray):T :=
 .qc35 47 [.string x0] fun y1 =>
 .ret [.bool y1.2.1]
theorem fI_CurKnown x0:qft qa0 119 [.string x0] (tI_CurKnown x0) :=fitK (by kernel_rfl)
def aL_szAcctS:An:=⟨[(5,[.s 1,.s 5],[.o (.o (.i .i64)),.o (.o (.i .i64))])],[],[]⟩
def tL_szAcctS (x0:SlV) (x1:Int):T :=
 .br (decide (IntKind.i64.wrap (x1-(↑x0.n:Int))<(0:Int))) (
  .rM) <|
 .lp [.o (.o (.i .i64)),.o (.o (.i .i64))] [.v (.int .i64 (IntKind.i64.wrap (x1-(↑x0.n:Int)))),.v (.int .i64 0)] fun y1 =>
 .br (decide (y1.2.1<(↑x0.n:Int))) (
  .el x0.1 (x0.n) y1.2.1 fun y2 =>
  .ql24 (y2.add (Int.toNat y1.2.1*(4:Nat))) fun y3 =>
  .qc0 171 [qv8 y3,.int .i64 y1.1] fun y4 =>
  .br (decide (y4<(0:Int))) (
   .rM) <|
 .nx 0 [.v (.int .i64 y4),.v (.int .i64 (IntKind.i64.wrap (y1.2.1+(1:Int))))]) <|
 .ret [.int .i64 y1.1]
theorem fL_szAcctS x0 x1:qft aL_szAcctS 120 [Sc.val .l x0,.int .i64 x1] (tL_szAcctS x0 x1) :=fitK (by kernel_rfl)
def tL_szRest (x0:qy9) (x1:Int):T :=
 .br (decide (IntKind.i64.wrap (x1-(↑(ByteArray.size x0.1):Int))<(0:Int))) (
  .rM) <|
 .qc0 172 [qv1 x0.2,.int .i64 (IntKind.i64.wrap (x1-(↑(ByteArray.size x0.1):Int)))] fun y1 =>
 .br (decide (y1<(0:Int))) (
  .rM) <|
 .ret [.int .i64 y1]
theorem fL_szRest x0 x1:qft qa0 121 [qv10 x0,.int .i64 x1] (tL_szRest x0 x1) :=fitK (by kernel_rfl)
def aL_szRateS:An:=⟨[(5,[.s 1,.s 5],[.o (.o (.i .i64)),.o (.o (.i .i64))])],[],[]⟩
def tL_szRateS (x0:SlV) (x1:Int):T :=
 .br (decide (IntKind.i64.wrap (x1-(↑x0.n:Int))<(0:Int))) (
  .rM) <|
 .lp [.o (.o (.i .i64)),.o (.o (.i .i64))] [.v (.int .i64 (IntKind.i64.wrap (x1-(↑x0.n:Int)))),.v (.int .i64 0)] fun y1 =>
 .br (decide (y1.2.1<(↑x0.n:Int))) (
  .el x0.1 (x0.n) y1.2.1 fun y2 =>
  .ql36 (y2.add (Int.toNat y1.2.1*(5:Nat))) fun y3 =>
  .qc0 173 [qv7 y3,.int .i64 y1.1] fun y4 =>
  .br (decide (y4<(0:Int))) (
   .rM) <|
 .nx 0 [.v (.int .i64 y4),.v (.int .i64 (IntKind.i64.wrap (y1.2.1+(1:Int))))]) <|
 .ret [.int .i64 y1.1]
theorem fL_szRateS x0 x1:qft aL_szRateS 122 [Sc.val .l x0,.int .i64 x1] (tL_szRateS x0 x1) :=fitK (by kernel_rfl)
def tL_szIntS (x0:SlV) (x1:Int):T :=
 .br (decide (IntKind.i64.wrap (x1-(↑x0.n:Int))<(0:Int))) (
  .rM) <|
 .ret [.int .i64 (IntKind.i64.wrap (x1-(↑x0.n:Int)))]
theorem fL_szIntS x0 x1:qft qa0 123 [Sc.val .l x0,.int .i64 x1] (tL_szIntS x0 x1) :=fitK (by kernel_rfl)
def aS_BookOk:An:=⟨[(2,[.s 8],[.o (.o (.i .i64))])],[],[]⟩
def tS_BookOk (x0:qy4):T :=
 .lp [.o (.o (.i .i64))] [.v (.int .i64 0)] fun y1 =>
 .br (decide (y1.1<(↑x0.1.n:Int))) (
  .el x0.1.1 (x0.1.n) y1.1 fun y2 =>
  .ql24 (y2.add (Int.toNat y1.1*(4:Nat))) fun y3 =>
  .rg <|
 .qc37 72 [.string y3.1] fun y4 =>
  .bF y4 <|
 .qc37 128 [qv2 y3.2] fun y5 =>
  .bF y5 <|
 .br (decide (y1.1 > (0:Int))) (
   .el x0.1.1 (x0.1.n) (IntKind.i64.wrap (y1.1-(1:Int))) fun y6 =>
   .ql12 ((y6.add ((IntKind.i64.wrap (y1.1-(1:Int))).toNat*(4:Nat))).add (0:Nat)) fun y7 =>
   .br (!Op.bytesLess y7.toList (ByteArray.toList y3.1)) (
    .rF) <|
 .nx 0 [.v (.int .i64 (IntKind.i64.wrap (y1.1+(1:Int))))]) <|
 .nx 0 [.v (.int .i64 (IntKind.i64.wrap (y1.1+(1:Int))))]) <|
 .ret [.bool (decide ((↑x0.1.n:Int)≤(12:Int)))]
theorem fS_BookOk x0:qft aS_BookOk 124 [qv4 x0] (tS_BookOk x0) :=fitK (by kernel_rfl)
def aS_RestsOk:An:=⟨[(2,[.s 7],[.o (.o (.i .i64))])],[],[]⟩
def tS_RestsOk (x0:SlV):T :=
 .lp [.o (.o (.i .i64))] [.v (.int .i64 0)] fun y1 =>
 .br (decide (y1.1<(↑x0.n:Int))) (
  .el x0.1 (x0.n) y1.1 fun y2 =>
  .ql22 (y2.add (Int.toNat y1.1*(4:Nat))) fun y3 =>
  .rg <|
 .qc37 154 [.string y3.1] fun y4 =>
  .bF y4 <|
 .qc37 174 [qv1 y3.2] fun y5 =>
  .bF y5 <|
 .qc25 156 [qv1 y3.2] fun y6 =>
  .br (y6 == (0:Int)) (
   .rF) <|
 .br (decide (y1.1 > (0:Int))) (
   .el x0.1 (x0.n) (IntKind.i64.wrap (y1.1-(1:Int))) fun y7 =>
   .ql12 ((y7.add ((IntKind.i64.wrap (y1.1-(1:Int))).toNat*(4:Nat))).add (0:Nat)) fun y8 =>
   .br (!Op.bytesLess y8.toList (ByteArray.toList y3.1)) (
    .rF) <|
 .nx 0 [.v (.int .i64 (IntKind.i64.wrap (y1.1+(1:Int))))]) <|
 .nx 0 [.v (.int .i64 (IntKind.i64.wrap (y1.1+(1:Int))))]) <|
 .rT
theorem fS_RestsOk x0:qft aS_RestsOk 125 [Sc.val .l x0] (tS_RestsOk x0) :=fitK (by kernel_rfl)
def aS_RatesOk:An:=⟨[(4,[.s 18],[.o (.o (.i .i64))])],[],[]⟩
def tS_RatesOk (x0:qy5):T :=
 .qc7 154 [.string x0.1] fun y1 =>
 .bF y1 <|
 .br (decide ((↑x0.2.1.n:Int) > (12:Int))) (
  .rF) <|
 .lp [.o (.o (.i .i64))] [.v (.int .i64 0)] fun y2 =>
 .br (decide (y2.1<(↑x0.2.1.n:Int))) (
  .el x0.2.1.1 (x0.2.1.n) y2.1 fun y3 =>
  .ql36 (y3.add (Int.toNat y2.1*(5:Nat))) fun y4 =>
  .qc7 175 [qv7 y4] fun y5 =>
  .bF y5 <|
 .qc0 176 [Sc.val .l x0.2.1,.string y4.1,.string y4.2.1] fun y6 =>
  .br (y6 != y2.1) (
   .rF) <|
 .nx 0 [.v (.int .i64 (IntKind.i64.wrap (y2.1+(1:Int))))]) <|
 .rT
theorem fS_RatesOk x0:qft aS_RatesOk 126 [qv5 x0] (tS_RatesOk x0) :=fitK (by kernel_rfl)
def aS_l01All:An:=⟨[(2,[.s 11],[.o (.o (.i .i64))])],[],[]⟩
def tS_l01All (x0:ByteArray) (x1:Int) (x2:Int) (x3:Int) (x4:Int):T :=
 .lp [.o (.o (.i .i64))] [.v (.int .i64 0)] fun y1 =>
 .br (decide (y1.1<(↑x0.size:Int))) (
  .rq ((0:Int)≤y1.1∧y1.1<(↑x0.size:Int)) <|
 .br (decide (at0 x0 (Int.toNat y1.1)<x1)) (
   .rq ((0:Int)≤y1.1∧y1.1<(↑x0.size:Int)) <|
 .br (decide (at0 x0 (Int.toNat y1.1)<x3)) (
    .rF) <|
 .rq ((0:Int)≤y1.1∧y1.1<(↑x0.size:Int)) <|
 .br (decide (at0 x0 (Int.toNat y1.1) > x4)) (
    .rF) <|
 .nx 0 [.v (.int .i64 (IntKind.i64.wrap (y1.1+(1:Int))))]) <|
 .rq ((0:Int)≤y1.1∧y1.1<(↑x0.size:Int)) <|
 .br (decide (at0 x0 (Int.toNat y1.1) > x2)) (
   .rq ((0:Int)≤y1.1∧y1.1<(↑x0.size:Int)) <|
 .br (decide (at0 x0 (Int.toNat y1.1)<x3)) (
    .rF) <|
 .rq ((0:Int)≤y1.1∧y1.1<(↑x0.size:Int)) <|
 .br (decide (at0 x0 (Int.toNat y1.1) > x4)) (
    .rF) <|
 .nx 0 [.v (.int .i64 (IntKind.i64.wrap (y1.1+(1:Int))))]) <|
 .nx 0 [.v (.int .i64 (IntKind.i64.wrap (y1.1+(1:Int))))]) <|
 .ret [.bool (decide ((↑x0.size:Int) > (0:Int)))]
theorem fS_l01All x0 x1 x2 x3 x4:qft aS_l01All 127 [.string x0,.int .u8 x1,.int .u8 x2,.int .u8 x3,.int .u8 x4] (tS_l01All x0 x1 x2 x3 x4) :=fitK (by kernel_rfl)
def tS_MoneyOk (x0:qy1):T :=
 .qc7 154 [.string x0.1] fun y1 =>
 .br y1 (
  .qc7 177 [qv0 x0.2] fun y2 =>
  .br y2 (
   .ret [.bool (decide ((↑x0.2.2.1.n:Int)≤(4:Int)))]) <|
 .rF) <|
 .rF
theorem fS_MoneyOk x0:qft qa0 128 [qv2 x0] (tS_MoneyOk x0) :=fitK (by kernel_rfl)
def tS_l01In (x0:Int) (x1:Int) (x2:Int):T :=
 .br (decide (x0≥x1)) (
  .ret [.bool (decide (x0≤x2))]) <|
 .rF
theorem fS_l01In x0 x1 x2:qft qa0 129 [.int .i64 x0,.int .i64 x1,.int .i64 x2] (tS_l01In x0 x1 x2) :=fitK (by kernel_rfl)
def aS_l12Sum:An:=⟨[(3,[.s 3,.s 8],[.o (.o (.i .i64)),.o (.o (.i .i64))])],[],[]⟩
def tS_l12Sum (x0:SlV):T :=
 .lp [.o (.o (.i .i64)),.o (.o (.i .i64))] [.v (.int .i64 0),.v (.int .i64 0)] fun y1 =>
 .br (decide (y1.2.1<(↑x0.n:Int))) (
  .el x0.1 (x0.n) y1.2.1 fun y2 =>
  .ql15 (y2.add (Int.toNat y1.2.1*(1:Nat))) fun y3 =>
  .nx 0 [.v (.int .i64 (IntKind.i64.wrap (y1.1+y3))),.v (.int .i64 (IntKind.i64.wrap (y1.2.1+(1:Int))))]) <|
 .ret [.int .i64 y1.1]
theorem fS_l12Sum x0:qft aS_l12Sum 130 [Sc.val .l x0] (tS_l12Sum x0) :=fitK (by kernel_rfl)
def aS_Shares:An:=⟨[(4,[.s 6,.s 7,.s 23],[.a 36,.a 50,.o (.o (.i .i64))]),(19,[.s 13],[.o (.o (.i .i64))]),(23,[.s 16,.s 77],[.o (.o (.i .i64)),.o (.o (.i .i64))])],[(19,[.c 15 0,.c 15 1],[.o (.o (.b)),.o (.o (.l))])],[(15,[.s 6,.s 7])]⟩
def tS_Shares (x0:qy0) (x1:SlV):T :=
 .lp [.a 36,.a 50,.o (.o (.i .i64))] [.a 36 ((0:Nat)) [],.a 50 ((0:Nat)) [],.v (.int .i64 0)] fun y1 =>
 .br (decide (y1.2.2.1<(↑x1.n:Int))) (
  .qc38 178 [qv0 x0,Sc.val .l x1,.int .i64 y1.2.2.1] fun y2 =>
  .bn y2.2.1 (.ret [.slice none 0 0,.bool (false)]) <|
 .qc39 179 [qv1 y2.1,.int .i64 0] fun y3 =>
  .rq ([Value.bool y3.1.1,Value.slice y3.1.2.1.1 y3.1.2.1.n y3.1.2.1.c].length=(1:Nat)*(2:Nat)) <|
 .rq (one [Value.bool y3.1.1,Value.slice y3.1.2.1.1 y3.1.2.1.n y3.1.2.1.c]=true∧(y1.1.1+(1:Nat))*(32:Nat)≤(140737488355328:Nat)∧y1.1.1+(1:Nat)≤(9223372036854775807:Nat)) <|
 .qc40 180 [qv1 y2.1] fun y4 =>
  .rq ([Value.bool y4.1,Value.slice y4.2.1.1 y4.2.1.n y4.2.1.c,Value.slice y4.2.2.1.1 y4.2.2.1.n y4.2.2.1.c].length=(1:Nat)*(3:Nat)) <|
 .rq (one [Value.bool y4.1,Value.slice y4.2.1.1 y4.2.1.n y4.2.1.c,Value.slice y4.2.2.1.1 y4.2.2.1.n y4.2.2.1.c]=true∧(y1.2.1.1+(1:Nat))*(56:Nat)≤(140737488355328:Nat)∧y1.2.1.1+(1:Nat)≤(9223372036854775807:Nat)) <|
 .nx 0 [.a 36 (y1.1.1+(1:Nat)) (y1.1.2++[Value.bool y3.1.1,Value.slice y3.1.2.1.1 y3.1.2.1.n y3.1.2.1.c]),.a 50 (y1.2.1.1+(1:Nat)) (y1.2.1.2++[Value.bool y4.1,Value.slice y4.2.1.1 y4.2.1.n y4.2.1.c,Value.slice y4.2.2.1.1 y4.2.2.1.n y4.2.2.1.c]),.v (.int .i64 (IntKind.i64.wrap (y1.2.2.1+(1:Int))))]) <|
 .qc7 75 [Sc.val .l x1] fun y2 =>
 .bn y2 (.ret [.slice none 0 0,.bool (false)]) <|
 .qc7 177 [qv0 x0] fun y3 =>
 .bn y3 (.ret [.slice none 0 0,.bool (false)]) <|
 .fz y1.1.1 y1.1.2 36 fun b4 c4 =>
 .fz y1.2.1.1 y1.2.1.2 50 fun b5 _ =>
 .rg <|
 .qc21 184 [.slice (some { block:=b4,off:=(0:Nat):Addr }) y1.1.1 (c4)] fun y6 =>
 .qc16 183 [qv0 x0,qv0 y6] fun y7 =>
 .qc16 182 [qv0 y7] fun y8 =>
 .qc41 181 [qv0 y8] fun y9 =>
 .qc16 149 [.int .i64 1] fun y10 =>
 .jn [.o (.o (.b)),.o (.o (.l))] (fun y11 =>
  .lp [.o (.o (.i .i64))] [.v (.int .i64 y9.1)] fun y12 =>
  .br (decide (y12.1 > (0:Int))) (
   .lp [.o (.o (.i .i64)),.o (.o (.i .i64))] [.v (.int .i64 (-1)),.v (.int .i64 0)] fun y13 =>
   .br (decide (y13.2.1<(↑y1.2.1.1:Int))) (
    .el (some { block:=b5,off:=(0:Nat):Addr }) y1.2.1.1 y13.2.1 fun y14 =>
    .ql42 (y14.add (Int.toNat y13.2.1*(3:Nat))) fun y15 =>
    .rg <|
 .qc25 156 [qv1 y15] fun y16 =>
    .br (decide (y16 > (0:Int))) (
     .br (decide (y13.1<(0:Int))) (
      .nx 3 [.v (.int .i64 y13.2.1),.v (.int .i64 (IntKind.i64.wrap (y13.2.1+(1:Int))))]) <|
 .el (some { block:=b5,off:=(0:Nat):Addr }) y1.2.1.1 y13.1 fun y17 =>
     .ql43 (y17.add (Int.toNat y13.1*(3:Nat))) fun y18 =>
     .qc0 185 [qv1 y15,qv1 y18] fun y19 =>
     .br (decide (y19 > (0:Int))) (
      .nx 3 [.v (.int .i64 y13.2.1),.v (.int .i64 (IntKind.i64.wrap (y13.2.1+(1:Int))))]) <|
 .nx 3 [.v (.int .i64 y13.1),.v (.int .i64 (IntKind.i64.wrap (y13.2.1+(1:Int))))]) <|
 .nx 3 [.v (.int .i64 y13.1),.v (.int .i64 (IntKind.i64.wrap (y13.2.1+(1:Int))))]) <|
 .br (decide (y13.1<(0:Int))) (
    .ret [.slice (some { block:=b4,off:=(0:Nat):Addr }) y1.1.1 (c4),.bool (true)]) <|
 .rg <|
 .el (some { block:=b4,off:=(0:Nat):Addr }) y1.1.1 y13.1 fun y14 =>
   .ql44 (y14.add (Int.toNat y13.1*(2:Nat))) fun y15 =>
   .qc16 186 [qv0 y15,qv0 y11] fun y16 =>
   .el (some { block:=b4,off:=(0:Nat):Addr }) y1.1.1 y13.1 fun y17 =>
   .st (y17.add (Int.toNat y13.1*(2:Nat))) [.bool y16.1,Sc.val .l y16.2.1] <|
 .qc40 161 [] fun y18 =>
   .el (some { block:=b5,off:=(0:Nat):Addr }) y1.2.1.1 y13.1 fun y19 =>
   .st (y19.add (Int.toNat y13.1*(3:Nat))) [.bool y18.1,Sc.val .l y18.2.1,Sc.val .l y18.2.2.1] <|
 .nx 2 [.v (.int .i64 (IntKind.i64.wrap (y12.1-(1:Int))))]) <|
 .ret [.slice (some { block:=b4,off:=(0:Nat):Addr }) y1.1.1 (c4),.bool (true)]) <|
 .br x0.1 (
  .qc16 149 [.int .i64 (-1)] fun y11 =>
  .nx 1 [.v (.bool y11.1),.v (Sc.val .l y11.2.1)]) <|
 .nx 1 [.v (.bool y10.1),.v (Sc.val .l y10.2.1)]
theorem fS_Shares x0 x1:qft aS_Shares 131 [qv0 x0,Sc.val .l x1] (tS_Shares x0 x1) :=fitK (by kernel_rfl)
def tS_IntNeg (x0:qy0):T :=
 .qc7 177 [qv0 x0] fun y1 =>
 .bn y1 (.ret [qv0 ((false),nilS,())]) <|
 .qc16 187 [.bool (!x0.1),Sc.val .l x0.2.1] fun y2 =>
 .ret [qv0 y2]
theorem fS_IntNeg x0:qft qa0 132 [qv0 x0] (tS_IntNeg x0) :=fitK (by kernel_rfl)
def aS_AcctAt:An:=⟨[(2,[.s 10],[.o (.o (.i .i64))])],[],[]⟩
def tS_AcctAt (x0:qy4) (x1:ByteArray):T :=
 .lp [.o (.o (.i .i64))] [.v (.int .i64 0)] fun y1 =>
 .br (decide (y1.1<(↑x0.1.n:Int))) (
  .el x0.1.1 (x0.1.n) y1.1 fun y2 =>
  .ql24 (y2.add (Int.toNat y1.1*(4:Nat))) fun y3 =>
  .br (ByteArray.toList y3.1 == x1.toList) (
   .ret [.int .i64 y1.1]) <|
 .nx 0 [.v (.int .i64 (IntKind.i64.wrap (y1.1+(1:Int))))]) <|
 .rM
theorem fS_AcctAt x0 x1:qft aS_AcctAt 133 [qv4 x0,.string x1] (tS_AcctAt x0 x1) :=fitK (by kernel_rfl)
def tS_l20Copy (x0:qy3):T :=
 .rg <|
 .qc32 188 [qv4 (x0.1,())] fun y1 =>
 .qc2 155 [Sc.val .l x0.2.1] fun y2 =>
 .qc14 189 [qv5 x0.2.2] fun y3 =>
 .ret [qv3 (y1.1,y2,y3.1,y3.2.1,())]
theorem fS_l20Copy x0:qft qa0 134 [qv3 x0] (tS_l20Copy x0) :=fitK (by kernel_rfl)
def tS_BookPost (x0:qy4) (x1:ByteArray) (x2:qy1):T :=
 .qc0 133 [qv4 x0,.string x1] fun y1 =>
 .qc7 124 [qv4 x0] fun y2 =>
 .bn y2 (.ret [qv4 (nilS,()),.bool (false)]) <|
 .br (decide (y1<(0:Int))) (
  .ret [qv4 (nilS,()),.bool (false)]) <|
 .rg <|
 .el x0.1.1 (x0.1.n) y1 fun y3 =>
 .ql45 ((y3.add (y1.toNat*(4:Nat))).add (1:Nat)) fun y4 =>
 .qc46 190 [qv2 y4,qv2 x2] fun y5 =>
 .bn y5.2.1 (.ret [qv4 (nilS,()),.bool (false)]) <|
 .qc13 188 [qv4 x0] fun y6 =>
 .el y6.1.1 (y6.1.n) y1 fun y7 =>
 .st ((y7.add (y1.toNat*(4:Nat))).add (1:Nat)) [.string y5.1.1,.bool y5.1.2.1,Sc.val .l y5.1.2.2.1] <|
 .ret [qv4 y6,.bool (true)]
theorem fS_BookPost x0 x1 x2:qft qa0 135 [qv4 x0,.string x1,qv2 x2] (tS_BookPost x0 x1 x2) :=fitK (by kernel_rfl)
def aL_toAcctS:An:=⟨[(3,[.s 3,.s 4],[.a 100,.o (.o (.i .i64))])],[],[]⟩
def tL_toAcctS (x0:SlV):T :=
 .rq ((0:Int)≤(↑x0.n:Int)∧(↑x0.n:Int)≤(↑x0.n:Int)∧(↑(64:Nat):Int)*(↑x0.n:Int)≤(281474976710656:Int)∧(↑x0.n:Int)≤(9223372036854775807:Int)) <|
 .lp [.a 100,.o (.o (.i .i64))] [.a 100 ((↑x0.n:Int).toNat) ((madeCells { toList:=[Value.string { data:={ toList:=[]:Array UInt8 }:ByteArray },Value.string { data:={ toList:=[]:Array UInt8 }:ByteArray },Value.bool false,Value.slice none (0:Nat) (0:Nat)]:Array Value } ((↑x0.n:Int).toNat*(4:Nat))).toList),.v (.int .i64 0)] fun y1 =>
 .br (decide (y1.2.1<(↑x0.n:Int))) (
  .el x0.1 (x0.n) y1.2.1 fun y2 =>
  .ql24 (y2.add (Int.toNat y1.2.1*(4:Nat))) fun y3 =>
  .qc47 191 [qv8 y3] fun y4 =>
  .rq ((0:Int)≤y1.2.1∧y1.2.1<(↑y1.1.1:Int)) <|
 .rq (Int.toNat y1.2.1*(4:Nat)+[Value.string y4.1,Value.string y4.2.1,Value.bool y4.2.2.1,Value.slice y4.2.2.2.1.1 y4.2.2.2.1.n y4.2.2.2.1.c].length≤y1.1.2.length) <|
 .nx 0 [.a 100 y1.1.1 (setl y1.1.2 (Int.toNat y1.2.1*(4:Nat)) [Value.string y4.1,Value.string y4.2.1,Value.bool y4.2.2.1,Value.slice y4.2.2.2.1.1 y4.2.2.2.1.n y4.2.2.2.1.c]),.v (.int .i64 (IntKind.i64.wrap (y1.2.1+(1:Int))))]) <|
 .fz y1.1.1 y1.1.2 100 fun b2 c2 =>
 .ret [.slice (some { block:=b2,off:=(0:Nat):Addr }) y1.1.1 (c2)]
theorem fL_toAcctS x0:qft aL_toAcctS 136 [Sc.val .l x0] (tL_toAcctS x0) :=fitK (by kernel_rfl)
def tL_toRest (x0:qy9):T :=
 .qc40 192 [qv1 x0.2] fun y1 =>
 .ret [qv10 (x0.1,y1.1,y1.2.1,y1.2.2.1,())]
theorem fL_toRest x0:qft qa0 137 [qv10 x0] (tL_toRest x0) :=fitK (by kernel_rfl)
def aL_toRateS:An:=⟨[(3,[.s 3,.s 4],[.a 204,.o (.o (.i .i64))])],[],[]⟩
def tL_toRateS (x0:SlV):T :=
 .rq ((0:Int)≤(↑x0.n:Int)∧(↑x0.n:Int)≤(↑x0.n:Int)∧(↑(72:Nat):Int)*(↑x0.n:Int)≤(281474976710656:Int)∧(↑x0.n:Int)≤(9223372036854775807:Int)) <|
 .lp [.a 204,.o (.o (.i .i64))] [.a 204 ((↑x0.n:Int).toNat) ((madeCells { toList:=[Value.string { data:={ toList:=[]:Array UInt8 }:ByteArray },Value.string { data:={ toList:=[]:Array UInt8 }:ByteArray },Value.bool false,Value.slice none (0:Nat) (0:Nat),Value.int IntKind.i64 (0:Int)]:Array Value } ((↑x0.n:Int).toNat*(5:Nat))).toList),.v (.int .i64 0)] fun y1 =>
 .br (decide (y1.2.1<(↑x0.n:Int))) (
  .el x0.1 (x0.n) y1.2.1 fun y2 =>
  .ql36 (y2.add (Int.toNat y1.2.1*(5:Nat))) fun y3 =>
  .qc48 193 [qv7 y3] fun y4 =>
  .rq ((0:Int)≤y1.2.1∧y1.2.1<(↑y1.1.1:Int)) <|
 .rq (Int.toNat y1.2.1*(5:Nat)+[Value.string y4.1,Value.string y4.2.1,Value.bool y4.2.2.1,Value.slice y4.2.2.2.1.1 y4.2.2.2.1.n y4.2.2.2.1.c,Value.int IntKind.i64 y4.2.2.2.2.1].length≤y1.1.2.length) <|
 .nx 0 [.a 204 y1.1.1 (setl y1.1.2 (Int.toNat y1.2.1*(5:Nat)) [Value.string y4.1,Value.string y4.2.1,Value.bool y4.2.2.1,Value.slice y4.2.2.2.1.1 y4.2.2.2.1.n y4.2.2.2.1.c,Value.int IntKind.i64 y4.2.2.2.2.1]),.v (.int .i64 (IntKind.i64.wrap (y1.2.1+(1:Int))))]) <|
 .fz y1.1.1 y1.1.2 204 fun b2 c2 =>
 .ret [.slice (some { block:=b2,off:=(0:Nat):Addr }) y1.1.1 (c2)]
theorem fL_toRateS x0:qft aL_toRateS 138 [Sc.val .l x0] (tL_toRateS x0) :=fitK (by kernel_rfl)
def aL_eqAcctS:An:=⟨[(4,[.s 5],[.o (.o (.i .i64))])],[],[]⟩
def tL_eqAcctS (x0:SlV) (x1:SlV):T :=
 .br ((↑x0.n:Int) != (↑x1.n:Int)) (
  .rF) <|
 .lp [.o (.o (.i .i64))] [.v (.int .i64 0)] fun y1 =>
 .br (decide (y1.1<(↑x0.n:Int))) (
  .rg <|
 .el x0.1 (x0.n) y1.1 fun y2 =>
  .ql49 (y2.add (Int.toNat y1.1*(4:Nat))) fun y3 =>
  .el x1.1 (x1.n) y1.1 fun y4 =>
  .ql49 (y4.add (Int.toNat y1.1*(4:Nat))) fun y5 =>
  .qc7 194 [qv8 y3,qv8 y5] fun y6 =>
  .bF y6 <|
 .nx 0 [.v (.int .i64 (IntKind.i64.wrap (y1.1+(1:Int))))]) <|
 .rT
theorem fL_eqAcctS x0 x1:qft aL_eqAcctS 139 [Sc.val .l x0,Sc.val .l x1] (tL_eqAcctS x0 x1) :=fitK (by kernel_rfl)
def tL_eqRest (x0:qy9) (x1:qy9):T :=
 .br (!ByteArray.toList x0.1 == ByteArray.toList x1.1) (
  .rF) <|
 .qc7 195 [qv1 x0.2,qv1 x1.2] fun y1 =>
 .bF y1 <|
 .rT
theorem fL_eqRest x0 x1:qft qa0 140 [qv10 x0,qv10 x1] (tL_eqRest x0 x1) :=fitK (by kernel_rfl)
def aL_eqRateS:An:=⟨[(4,[.s 5],[.o (.o (.i .i64))])],[],[]⟩
def tL_eqRateS (x0:SlV) (x1:SlV):T :=
 .br ((↑x0.n:Int) != (↑x1.n:Int)) (
  .rF) <|
 .lp [.o (.o (.i .i64))] [.v (.int .i64 0)] fun y1 =>
 .br (decide (y1.1<(↑x0.n:Int))) (
  .rg <|
 .el x0.1 (x0.n) y1.1 fun y2 =>
  .ql50 (y2.add (Int.toNat y1.1*(5:Nat))) fun y3 =>
  .el x1.1 (x1.n) y1.1 fun y4 =>
  .ql50 (y4.add (Int.toNat y1.1*(5:Nat))) fun y5 =>
  .qc7 196 [qv7 y3,qv7 y5] fun y6 =>
  .bF y6 <|
 .nx 0 [.v (.int .i64 (IntKind.i64.wrap (y1.1+(1:Int))))]) <|
 .rT
theorem fL_eqRateS x0 x1:qft aL_eqRateS 141 [Sc.val .l x0,Sc.val .l x1] (tL_eqRateS x0 x1) :=fitK (by kernel_rfl)
def aL_markAcctS:An:=⟨[(2,[.s 1,.s 5],[.o (.o (.i .i64)),.o (.o (.i .i64))])],[],[]⟩
def tL_markAcctS (x0:SlV) (x1:Int):T :=
 .lp [.o (.o (.i .i64)),.o (.o (.i .i64))] [.v (.int .i64 x1),.v (.int .i64 0)] fun y1 =>
 .br (decide (y1.2.1<(↑x0.n:Int))) (
  .qc18 90 [.int .i64 y1.1] fun y2 =>
  .el x0.1 (x0.n) y1.2.1 fun y3 =>
  .st ((y3.add (Int.toNat y1.2.1*(4:Nat))).add (0:Nat)) [.string y2] <|
 .qc18 90 [.int .i64 (IntKind.i64.wrap (y1.1+(1:Int)))] fun y4 =>
  .el x0.1 (x0.n) y1.2.1 fun y5 =>
  .st (((y5.add (Int.toNat y1.2.1*(4:Nat))).add (1:Nat)).add (0:Nat)) [.string y4] <|
 .rq ((3:Int)≠(0:Int)) <|
 .el x0.1 (x0.n) y1.2.1 fun y6 =>
  .st ((((y6.add (Int.toNat y1.2.1*(4:Nat))).add (1:Nat)).add (1:Nat)).add (0:Nat)) [.bool ((IntKind.i64.wrap (IntKind.i64.wrap (y1.1+(1:Int))+(1:Int))).tmod (3:Int) == (0:Int))] <|
 .el x0.1 (x0.n) y1.2.1 fun y7 =>
  .ql29 ((((y7.add (Int.toNat y1.2.1*(4:Nat))).add (1:Nat)).add (1:Nat)).add (1:Nat)) fun y8 =>
  .qc0 37 [Sc.val .l y8,.int .i64 (IntKind.i64.wrap (IntKind.i64.wrap (IntKind.i64.wrap (y1.1+(1:Int))+(1:Int))+(1:Int)))] fun y9 =>
  .nx 0 [.v (.int .i64 y9),.v (.int .i64 (IntKind.i64.wrap (y1.2.1+(1:Int))))]) <|
 .ret [.int .i64 y1.1]
theorem fL_markAcctS x0 x1:qft aL_markAcctS 142 [Sc.val .l x0,.int .i64 x1] (tL_markAcctS x0 x1) :=fitK (by kernel_rfl)
def aL_markRateS:An:=⟨[(2,[.s 1,.s 5],[.o (.o (.i .i64)),.o (.o (.i .i64))])],[],[]⟩
def tL_markRateS (x0:SlV) (x1:Int):T :=
 .lp [.o (.o (.i .i64)),.o (.o (.i .i64))] [.v (.int .i64 x1),.v (.int .i64 0)] fun y1 =>
 .br (decide (y1.2.1<(↑x0.n:Int))) (
  .qc18 90 [.int .i64 y1.1] fun y2 =>
  .el x0.1 (x0.n) y1.2.1 fun y3 =>
  .st ((y3.add (Int.toNat y1.2.1*(5:Nat))).add (0:Nat)) [.string y2] <|
 .qc18 90 [.int .i64 (IntKind.i64.wrap (y1.1+(1:Int)))] fun y4 =>
  .el x0.1 (x0.n) y1.2.1 fun y5 =>
  .st ((y5.add (Int.toNat y1.2.1*(5:Nat))).add (1:Nat)) [.string y4] <|
 .rq ((3:Int)≠(0:Int)) <|
 .el x0.1 (x0.n) y1.2.1 fun y6 =>
  .st ((((y6.add (Int.toNat y1.2.1*(5:Nat))).add (2:Nat)).add (0:Nat)).add (0:Nat)) [.bool ((IntKind.i64.wrap (IntKind.i64.wrap (y1.1+(1:Int))+(1:Int))).tmod (3:Int) == (0:Int))] <|
 .el x0.1 (x0.n) y1.2.1 fun y7 =>
  .ql29 ((((y7.add (Int.toNat y1.2.1*(5:Nat))).add (2:Nat)).add (0:Nat)).add (1:Nat)) fun y8 =>
  .qc0 37 [Sc.val .l y8,.int .i64 (IntKind.i64.wrap (IntKind.i64.wrap (IntKind.i64.wrap (y1.1+(1:Int))+(1:Int))+(1:Int)))] fun y9 =>
  .el x0.1 (x0.n) y1.2.1 fun y10 =>
  .st (((y10.add (Int.toNat y1.2.1*(5:Nat))).add (2:Nat)).add (2:Nat)) [.int .i64 y9] <|
 .nx 0 [.v (.int .i64 (IntKind.i64.wrap (y9+(1:Int)))),.v (.int .i64 (IntKind.i64.wrap (y1.2.1+(1:Int))))]) <|
 .ret [.int .i64 y1.1]
theorem fL_markRateS x0 x1:qft aL_markRateS 143 [Sc.val .l x0,.int .i64 x1] (tL_markRateS x0 x1) :=fitK (by kernel_rfl)
end
end Go.Proofs.YtfiakghfncempaaGreatDoor
