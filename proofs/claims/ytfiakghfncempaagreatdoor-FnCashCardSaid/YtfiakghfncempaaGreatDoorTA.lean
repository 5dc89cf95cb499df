/-
  What each function of the seat comes to, as a tree; each tree is checked against the code.
-/
import Derived.Test.YtfiakghfncempaaGreatDoorEngD
import Derived.Test.YtfiakghfncempaaGreatDoorChecked
import Derived.KernelRfl
namespace Go.Proofs.YtfiakghfncempaaGreatDoor
open Sx
set_option maxRecDepth 100000
noncomputable section
abbrev qft:=@fits Tryz.prog
abbrev qa0:An:=⟨[],[],[]⟩
abbrev _root_.Sx.T.rF:T:=.ret [.bool false]
abbrev _root_.Sx.T.rT:T:=.ret [.bool true]
abbrev _root_.Sx.T.rM:T:=.ret [.int .i64 (-1)]
abbrev _root_.Sx.T.bF (b:Bool) (y:T):T:=.br (!b) (.ret [.bool false]) y
abbrev _root_.Sx.T.bn (b:Bool) (x:T) (y:T):T:=.br (!b) x y
abbrev _root_.Sx.T.qc0 (g:Nat) (l:List Value) (k:Sh.ty (.v (.g [.l,.l,.s,.l]))→T):T:=.call false g l (.v (.g [.l,.l,.s,.l])) k
abbrev _root_.Sx.T.qc1 (g:Nat) (l:List Value) (k:Sh.ty (.v (.o (.s)))→T):T:=.call false g l (.v (.o (.s))) k
abbrev _root_.Sx.T.qc2 (g:Nat) (l:List Value) (k:Sh.ty (.t [(.g [.s,.b,.l]),(.o (.b))])→T):T:=.call false g l (.t [(.g [.s,.b,.l]),(.o (.b))]) k
abbrev _root_.Sx.T.qc3 (g:Nat) (l:List Value) (k:Sh.ty (.v (.o (.i .i64)))→T):T:=.call true g l (.v (.o (.i .i64))) k
abbrev _root_.Sx.T.qc4 (g:Nat) (l:List Value) (k:Sh.ty (.t [(.g [.l,.l,.s,.l]),(.o (.i .i64))])→T):T:=.call false g l (.t [(.g [.l,.l,.s,.l]),(.o (.i .i64))]) k
abbrev _root_.Sx.T.qc5 (g:Nat) (l:List Value) (k:Sh.ty (.v (.o (.i .i64)))→T):T:=.call false g l (.v (.o (.i .i64))) k
abbrev _root_.Sx.T.qc6 (g:Nat) (l:List Value) (k:Sh.ty (.v (.o (.l)))→T):T:=.call true g l (.v (.o (.l))) k
abbrev _root_.Sx.T.qc7 (g:Nat) (l:List Value) (k:Sh.ty (.t [(.o (.l)),(.o (.l))])→T):T:=.call false g l (.t [(.o (.l)),(.o (.l))]) k
abbrev _root_.Sx.T.qc8 (g:Nat) (l:List Value) (k:Sh.ty (.v (.g [.b,.l,.l]))→T):T:=.call true g l (.v (.g [.b,.l,.l])) k
abbrev _root_.Sx.T.qc9 (g:Nat) (l:List Value) (k:Sh.ty (.v (.g [.b,.l,.l]))→T):T:=.call false g l (.v (.g [.b,.l,.l])) k
abbrev _root_.Sx.T.qc10 (g:Nat) (l:List Value) (k:Sh.ty (.t [(.g [.b,.l,.l]),(.o (.b))])→T):T:=.call false g l (.t [(.g [.b,.l,.l]),(.o (.b))]) k
abbrev _root_.Sx.T.qc11 (g:Nat) (l:List Value) (k:Sh.ty (.v (.g [.b,.l]))→T):T:=.call true g l (.v (.g [.b,.l])) k
abbrev _root_.Sx.T.qc12 (g:Nat) (l:List Value) (k:Sh.ty (.v (.o (.p)))→T):T:=.call false g l (.v (.o (.p))) k
abbrev _root_.Sx.T.ql13 (a:Addr) (k:Sh1.ty (.o (.i .i64))→T):T:=.ld false a (.o (.i .i64)) k
abbrev _root_.Sx.T.qc14 (g:Nat) (l:List Value) (k:Sh.ty (.t [(.o (.s)),(.o (.s))])→T):T:=.call false g l (.t [(.o (.s)),(.o (.s))]) k
abbrev _root_.Sx.T.ql15 (a:Addr) (k:Sh1.ty (.g [.s,.b,.l])→T):T:=.ld false a (.g [.s,.b,.l]) k
abbrev _root_.Sx.T.qc16 (g:Nat) (l:List Value) (k:Sh.ty (.v (.g [.s,.b,.l]))→T):T:=.call false g l (.v (.g [.s,.b,.l])) k
abbrev _root_.Sx.T.qc17 (g:Nat) (l:List Value) (k:Sh.ty (.t [(.g [.s,.s,.i .i64,.i .i64]),(.o (.b))])→T):T:=.call false g l (.t [(.g [.s,.s,.i .i64,.i .i64]),(.o (.b))]) k
abbrev _root_.Sx.T.qc18 (g:Nat) (l:List Value) (k:Sh.ty (.v (.o (.b)))→T):T:=.call false g l (.v (.o (.b))) k
abbrev _root_.Sx.T.qc19 (g:Nat) (l:List Value) (k:Sh.ty (.v (.o (.l)))→T):T:=.call false g l (.v (.o (.l))) k
abbrev _root_.Sx.T.ql20 (a:Addr) (k:Sh1.ty (.g [.s,.b,.l,.l])→T):T:=.ld false a (.g [.s,.b,.l,.l]) k
abbrev _root_.Sx.T.qc21 (g:Nat) (l:List Value) (k:Sh.ty (.v (.g [.b,.l]))→T):T:=.call false g l (.v (.g [.b,.l])) k
abbrev _root_.Sx.T.ql22 (a:Addr) (k:Sh1.ty (.o (.i .u8))→T):T:=.ld false a (.o (.i .u8)) k
abbrev _root_.Sx.T.qc23 (g:Nat) (l:List Value) (k:Sh.ty (.v (.g [.l]))→T):T:=.call false g l (.v (.g [.l])) k
abbrev _root_.Sx.T.qc24 (g:Nat) (l:List Value) (k:Sh.ty (.v (.g [.s,.l]))→T):T:=.call false g l (.v (.g [.s,.l])) k
abbrev _root_.Sx.T.qc25 (g:Nat) (l:List Value) (k:Sh.ty (.t [(.o (.l)),(.o (.b))])→T):T:=.call false g l (.t [(.o (.l)),(.o (.b))]) k
abbrev _root_.Sx.T.ql26 (a:Addr) (k:Sh1.ty (.g [.s,.s,.b,.l])→T):T:=.ld true a (.g [.s,.s,.b,.l]) k
abbrev _root_.Sx.T.ql27 (a:Addr) (k:Sh1.ty (.g [.s,.s,.i .i64,.i .i64,.s,.s,.i .i64,.i .i64,.s,.s,.i .i64,.i .i64,.s,.s,.i .i64,.i .i64,.s,.s,.i .i64,.i .i64,.s,.s,.i .i64,.i .i64,.s,.s,.i .i64,.i .i64,.s,.s,.i .i64,.i .i64,.s,.s,.i .i64,.i .i64,.s,.s,.i .i64,.i .i64,.s,.s,.i .i64,.i .i64,.s,.s,.i .i64,.i .i64,.s,.s,.i .i64,.i .i64,.s,.s,.i .i64,.i .i64,.s,.s,.i .i64,.i .i64,.s,.s,.i .i64,.i .i64,.s,.s,.i .i64,.i .i64,.s,.s,.i .i64,.i .i64,.s,.s,.i .i64,.i .i64,.s,.s,.i .i64,.i .i64])→T):T:=.ld false a (.g [.s,.s,.i .i64,.i .i64,.s,.s,.i .i64,.i .i64,.s,.s,.i .i64,.i .i64,.s,.s,.i .i64,.i .i64,.s,.s,.i .i64,.i .i64,.s,.s,.i .i64,.i .i64,.s,.s,.i .i64,.i .i64,.s,.s,.i .i64,.i .i64,.s,.s,.i .i64,.i .i64,.s,.s,.i .i64,.i .i64,.s,.s,.i .i64,.i .i64,.s,.s,.i .i64,.i .i64,.s,.s,.i .i64,.i .i64,.s,.s,.i .i64,.i .i64,.s,.s,.i .i64,.i .i64,.s,.s,.i .i64,.i .i64,.s,.s,.i .i64,.i .i64,.s,.s,.i .i64,.i .i64,.s,.s,.i .i64,.i .i64,.s,.s,.i .i64,.i .i64]) k
abbrev _root_.Sx.T.qc28 (g:Nat) (l:List Value) (k:Sh.ty (.t [(.o (.l)),(.o (.i .i64))])→T):T:=.call false g l (.t [(.o (.l)),(.o (.i .i64))]) k
abbrev _root_.Sx.T.qc29 (g:Nat) (l:List Value) (k:Sh.ty (.t [(.g [.l]),(.o (.b))])→T):T:=.call false g l (.t [(.g [.l]),(.o (.b))]) k
abbrev _root_.Sx.T.qc30 (g:Nat) (l:List Value) (k:Sh.ty (.v (.g [.s,.s,.b,.l,.i .i64]))→T):T:=.call false g l (.v (.g [.s,.s,.b,.l,.i .i64])) k
abbrev _root_.Sx.T.qc31 (g:Nat) (l:List Value) (k:Sh.ty (.t [(.g [.s,.l]),(.o (.b))])→T):T:=.call false g l (.t [(.g [.s,.l]),(.o (.b))]) k
abbrev _root_.Sx.T.ql32 (a:Addr) (k:Sh1.ty (.g [.s,.s,.b,.l])→T):T:=.ld false a (.g [.s,.s,.b,.l]) k
abbrev _root_.Sx.T.qc33 (g:Nat) (l:List Value) (k:Sh.ty (.v (.g [.l]))→T):T:=.call true g l (.v (.g [.l])) k
abbrev _root_.Sx.T.ql34 (a:Addr) (k:Sh1.ty (.o (.i .i64))→T):T:=.ld true a (.o (.i .i64)) k
abbrev _root_.Sx.T.ql35 (a:Addr) (k:Sh1.ty (.o (.l))→T):T:=.ld true a (.o (.l)) k
abbrev _root_.Sx.T.ql36 (a:Addr) (k:Sh1.ty (.o (.i .u8))→T):T:=.ld true a (.o (.i .u8)) k
abbrev _root_.Sx.T.qc37 (g:Nat) (l:List Value) (k:Sh.ty (.t [])→T):T:=.call false g l (.t []) k
abbrev _root_.Sx.T.qc38 (g:Nat) (l:List Value) (k:Sh.ty (.v (.o (.b)))→T):T:=.call true g l (.v (.o (.b))) k
abbrev _root_.Sx.T.ql39 (a:Addr) (k:Sh1.ty (.o (.s))→T):T:=.ld true a (.o (.s)) k
abbrev _root_.Sx.T.ql40 (a:Addr) (k:Sh1.ty (.g [.s,.s,.b,.l,.i .i64])→T):T:=.ld false a (.g [.s,.s,.b,.l,.i .i64]) k
abbrev _root_.Sx.T.ql41 (a:Addr) (k:Sh1.ty (.g [.s,.b,.l])→T):T:=.ld true a (.g [.s,.b,.l]) k
abbrev _root_.Sx.T.ql42 (a:Addr) (k:Sh1.ty (.o (.s))→T):T:=.ld false a (.o (.s)) k
abbrev _root_.Sx.T.qc43 (g:Nat) (l:List Value) (k:Sh.ty (.v (.g [.s,.s,.b,.l,.i .i64]))→T):T:=.call true g l (.v (.g [.s,.s,.b,.l,.i .i64])) k
abbrev _root_.Sx.T.qc44 (g:Nat) (l:List Value) (k:Sh.ty (.v (.g [.s,.s,.i .i64,.i .i64]))→T):T:=.call false g l (.v (.g [.s,.s,.i .i64,.i .i64])) k
abbrev _root_.Sx.T.qc45 (g:Nat) (l:List Value) (k:Sh.ty (.v (.g [.s,.b,.l]))→T):T:=.call true g l (.v (.g [.s,.b,.l])) k
abbrev _root_.Sx.T.ql46 (a:Addr) (k:Sh1.ty (.g [.s,.s,.i .i64,.i .i64])→T):T:=.ld false a (.g [.s,.s,.i .i64,.i .i64]) k
abbrev _root_.Sx.T.qc47 (g:Nat) (l:List Value) (k:Sh.ty (.v (.g [.b,.l,.i .i64]))→T):T:=.call true g l (.v (.g [.b,.l,.i .i64])) k
abbrev _root_.Sx.T.qc48 (g:Nat) (l:List Value) (k:Sh.ty (.t [(.g [.b,.l]),(.o (.b))])→T):T:=.call false g l (.t [(.g [.b,.l]),(.o (.b))]) k
abbrev _root_.Sx.T.qc49 (g:Nat) (l:List Value) (k:Sh.ty (.v (.g [.s,.f,.s,.f,.s,.f,.s,.f,.s,.f,.s,.f,.s,.f]))→T):T:=.call true g l (.v (.g [.s,.f,.s,.f,.s,.f,.s,.f,.s,.f,.s,.f,.s,.f])) k
def tL_FnCash (x0:SlV):T :=
 .br (decide ((↑x0.n:Int) > (1048576:Int))) (
  .rT) <|
 .qc0 5 [Sc.val .l x0] fun y1 =>
 .qc1 6 [Sc.val .l x0,qv4 y1] fun y2 =>
 .qc2 7 [qv3 (y1.1,()),.string y2] fun y3 =>
 .rg <|
 .qc3 9 [Sc.val .l x0] fun y4 =>
 .qc4 8 [qv4 y1,.string y2,.int .i64 y4] fun y5 =>
 .bn y3.2.1 (.br (y5.2.1 == (3:Int)) (
   .rT) <|
 .ret [.bool (y5.2.1 == (1:Int))]) <|
 .qc2 7 [qv3 (y5.1.1,()),.string y2] fun y6 =>
 .qc5 10 [.string y3.1.1] fun y7 =>
 .rg <|
 .qc6 12 [.int .i64 y7] fun y8 =>
 .qc7 11 [Sc.val .l y6.1.2.2.1,Sc.val .l y8] fun y9 =>
 .qc2 13 [qv2 y3.1,qv2 y6.1] fun y10 =>
 .rg <|
 .qc8 16 [Sc.val .l y5.1.2.1,.string y3.1.1] fun y11 =>
 .qc9 16 [Sc.val .l y1.2.1,.string y3.1.1] fun y12 =>
 .qc10 15 [qv1 y11,qv1 y12] fun y13 =>
 .qc9 14 [qv1 y13.1,.bool y13.2.1] fun y14 =>
 .rg <|
 .br (y5.2.1 == (0:Int)) (
  .br ((↑y9.2.1.n:Int) == (0:Int)) (
   .qc11 18 [qv0 y10.1.2] fun y15 =>
   .qc11 19 [.int .i64 y7] fun y16 =>
   .qc3 17 [qv0 y15,qv0 y16] fun y17 =>
   .br (decide (y17<(0:Int))) (
    .qc8 21 [qv2 y10.1] fun y18 =>
    .qc5 20 [qv1 y14,qv1 y18] fun y19 =>
    .ret [.bool (y19 == (0:Int))]) <|
 .rF) <|
 .rF) <|
 .rF
theorem fL_FnCash x0:qft qa0 3 [Sc.val .l x0] (tL_FnCash x0) :=fitK (by kernel_rfl)
def tS_MakeLedger (x0:SlV):T :=
 .qc12 40 [Sc.val .l x0] fun y1 =>
 .qc0 41 [.pointer (some y1)] fun y2 =>
 .ret [qv4 y2]
theorem fS_MakeLedger x0:qft qa0 5 [Sc.val .l x0] (tS_MakeLedger x0) :=fitK (by kernel_rfl)
def tS_MakeName (x0:SlV) (x1:qy4):T :=
 .qc12 40 [Sc.val .l x0] fun y1 =>
 .ql13 (y1.add (2:Nat)) fun y2 =>
 .st (y1.add (2:Nat)) [.int .i64 (IntKind.i64.wrap (y2+(23:Int)))] <|
 .qc14 42 [.pointer (some y1),qv4 x1] fun y3 =>
 .ret [.string y3.1]
theorem fS_MakeName x0 x1:qft qa0 6 [Sc.val .l x0,qv4 x1] (tS_MakeName x0 x1) :=fitK (by kernel_rfl)
def tI_BalanceOf (x0:qy3) (x1:ByteArray):T :=
 .qc5 43 [qv3 x0,.string x1] fun y1 =>
 .br (decide (y1<(0:Int))) (
  .ret [qv2 (({ data:={ toList:=[]:Array UInt8 }:ByteArray }),(false),nilS,()),.bool (false)]) <|
 .el x0.1.1 (x0.1.n) y1 fun y2 =>
 .ql15 ((y2.add (y1.toNat*(4:Nat))).add (1:Nat)) fun y3 =>
 .qc16 44 [qv2 y3] fun y4 =>
 .ret [qv2 y4,.bool (true)]
theorem fI_BalanceOf x0 x1:qft qa0 7 [qv3 x0,.string x1] (tI_BalanceOf x0 x1) :=fitK (by kernel_rfl)
def tI_DoCash (x0:qy4) (x1:ByteArray) (x2:Int):T :=
 .qc4 45 [qv4 x0,.iface 103 (qv8 (x1,((x2):Int),()))] fun y1 =>
 .ret [qv4 y1.1,.int .i64 y1.2.1]
theorem fI_DoCash x0 x1 x2:qft qa0 8 [qv4 x0,.string x1,.int .i64 x2] (tI_DoCash x0 x1 x2) :=fitK (by kernel_rfl)
def tS_MakeMode (x0:SlV):T :=
 .qc12 40 [Sc.val .l x0] fun y1 =>
 .ql13 (y1.add (2:Nat)) fun y2 =>
 .st (y1.add (2:Nat)) [.int .i64 (IntKind.i64.wrap (y2+(13:Int)))] <|
 .qc5 46 [.pointer (some y1),.int .i64 7] fun y3 =>
 .ret [.int .i64 y3]
theorem fS_MakeMode x0:qft qa0 9 [Sc.val .l x0] (tS_MakeMode x0) :=fitK (by kernel_rfl)
def tI_CurCash (x0:ByteArray):T :=
 .qc17 47 [.string x0] fun y1 =>
 .ret [.int .i64 y1.1.2.2.2.1]
theorem fI_CurCash x0:qft qa0 10 [.string x0] (tI_CurCash x0) :=fitK (by kernel_rfl)
def tI_NatDiv (x0:SlV) (x1:SlV):T :=
 .qc18 48 [Sc.val .l x0,Sc.val .l x1] fun y1 =>
 .bn y1 (.ret [.slice none 0 0,.slice none 0 0]) <|
 .br ((↑x1.n:Int) == (0:Int)) (
  .ret [.slice none 0 0,.slice none 0 0]) <|
 .qc7 49 [Sc.val .l x0,Sc.val .l x1] fun y2 =>
 .ret [Sc.val .l y2.1,Sc.val .l y2.2.1]
theorem fI_NatDiv x0 x1:qft qa0 11 [Sc.val .l x0,Sc.val .l x1] (tI_NatDiv x0 x1) :=fitK (by kernel_rfl)
def tI_NatOf (x0:Int):T :=
 .br (decide (x0<(0:Int))) (
  .ret [.slice none 0 0]) <|
 .qc19 50 [.int .u64 (IntKind.u64.wrap x0)] fun y1 =>
 .ret [Sc.val .l y1]
theorem fI_NatOf x0:qft qa0 12 [.int .i64 x0] (tI_NatOf x0) :=fitK (by kernel_rfl)
def tI_MoneySub (x0:qy2) (x1:qy2):T :=
 .qc18 51 [qv2 x0,qv2 x1] fun y1 =>
 .bn y1 (.ret [qv2 (({ data:={ toList:=[]:Array UInt8 }:ByteArray }),(false),nilS,()),.bool (false)]) <|
 .rg <|
 .qc11 54 [qv0 x1.2] fun y2 =>
 .qc11 53 [qv0 x0.2,qv0 y2] fun y3 =>
 .qc2 52 [.string x0.1,qv0 y3] fun y4 =>
 .ret [qv2 y4.1,.bool y4.2.1]
theorem fI_MoneySub x0 x1:qft qa0 13 [qv2 x0,qv2 x1] (tI_MoneySub x0 x1) :=fitK (by kernel_rfl)
def tL_must (x0:qy1) (x1:Bool):T :=
 .br (!x1) (
  .ret [qv1 ((false),nilS,nilS,())]) <|
 .ret [qv1 x0]
theorem fL_must x0 x1:qft qa0 14 [qv1 x0,.bool x1] (tL_must x0 x1) :=fitK (by kernel_rfl)
def tI_RatSub (x0:qy1) (x1:qy1):T :=
 .qc18 55 [qv1 x0,qv1 x1] fun y1 =>
 .bn y1 (.ret [qv1 ((false),nilS,nilS,()),.bool (false)]) <|
 .rg <|
 .qc8 57 [qv1 x1] fun y2 =>
 .qc10 56 [qv1 x0,qv1 y2] fun y3 =>
 .ret [qv1 y3.1,.bool y3.2.1]
theorem fI_RatSub x0 x1:qft qa0 15 [qv1 x0,qv1 x1] (tI_RatSub x0 x1) :=fitK (by kernel_rfl)
def aI_RestOf:An:=⟨[(2,[.s 9,.c 4 0,.c 4 1,.c 4 2],[.o (.o (.i .i64)),.o (.o (.b)),.o (.o (.l)),.o (.o (.l))])],[],[]⟩
def tI_RestOf (x0:SlV) (x1:ByteArray):T :=
 .lp [.o (.o (.i .i64)),.o (.o (.b)),.o (.o (.l)),.o (.o (.l))] [.v (.int .i64 0),.v (.bool (false)),.v (.slice none 0 0),.v (.slice none 0 0)] fun y1 =>
 .br (decide (y1.1<(↑x0.n:Int))) (
  .el x0.1 (x0.n) y1.1 fun y2 =>
  .ql20 (y2.add (Int.toNat y1.1*(4:Nat))) fun y3 =>
  .br (ByteArray.toList y3.1 == x1.toList) (
   .qc9 58 [qv1 y3.2] fun y4 =>
   .ret [qv1 y4]) <|
 .nx 0 [.v (.int .i64 (IntKind.i64.wrap (y1.1+(1:Int)))),.v (.bool y1.2.1),.v (Sc.val .l y1.2.2.1),.v (Sc.val .l y1.2.2.2.1)]) <|
 .qc9 59 [] fun y2 =>
 .ret [qv1 y2]
theorem fI_RestOf x0 x1:qft aI_RestOf 16 [Sc.val .l x0,.string x1] (tI_RestOf x0 x1) :=fitK (by kernel_rfl)
def tI_IntCmp (x0:qy0) (x1:qy0):T :=
 .qc18 60 [qv0 x0,qv0 x1] fun y1 =>
 .bn y1 (.ret [.int .i64 0]) <|
 .qc5 61 [qv0 x0,qv0 x1] fun y2 =>
 .ret [.int .i64 y2]
theorem fI_IntCmp x0 x1:qft qa0 17 [qv0 x0,qv0 x1] (tI_IntCmp x0 x1) :=fitK (by kernel_rfl)
def tI_IntAbs (x0:qy0):T :=
 .qc18 62 [qv0 x0] fun y1 =>
 .bn y1 (.ret [qv0 ((false),nilS,())]) <|
 .qc19 63 [Sc.val .l x0.2.1] fun y2 =>
 .ret [qv0 ((false),y2,())]
theorem fI_IntAbs x0:qft qa0 18 [qv0 x0] (tI_IntAbs x0) :=fitK (by kernel_rfl)
def tI_IntOf (x0:Int):T :=
 .br (decide (x0<(0:Int))) (
  .qc19 50 [.int .u64 (IntKind.u64.wrap ((0:Int)-IntKind.u64.wrap x0))] fun y1 =>
  .ret [qv0 ((true),y1,())]) <|
 .qc19 50 [.int .u64 (IntKind.u64.wrap x0)] fun y1 =>
 .ret [qv0 ((false),y1,())]
theorem fI_IntOf x0:qft qa0 19 [.int .i64 x0] (tI_IntOf x0) :=fitK (by kernel_rfl)
def tI_RatCmp (x0:qy1) (x1:qy1):T :=
 .qc18 55 [qv1 x0,qv1 x1] fun y1 =>
 .bn y1 (.ret [.int .i64 0]) <|
 .rg <|
 .qc11 64 [qv1 x0,Sc.val .l x1.2.2.1] fun y2 =>
 .qc21 64 [qv1 x1,Sc.val .l x0.2.2.1] fun y3 =>
 .qc5 61 [qv0 y2,qv0 y3] fun y4 =>
 .ret [.int .i64 y4]
theorem fI_RatCmp x0 x1:qft qa0 20 [qv1 x0,qv1 x1] (tI_RatCmp x0 x1) :=fitK (by kernel_rfl)
def tI_MoneyRat (x0:qy2):T :=
 .qc18 65 [qv2 x0] fun y1 =>
 .bn y1 (.ret [qv1 ((false),nilS,nilS,())]) <|
 .qc21 66 [qv0 x0.2] fun y2 =>
 .fz ((1:Nat)) [.int .i64 1] 3 fun b3 c3 =>
 .ret [qv1 (y2.1,y2.2.1,(⟨(some { block:=b3,off:=(0:Nat):Addr }),((1:Nat)),(c3)⟩:SlV),())]
theorem fI_MoneyRat x0:qft qa0 21 [qv2 x0] (tI_MoneyRat x0) :=fitK (by kernel_rfl)
def aS_l01New:An:=⟨[(3,[.s 3,.s 4],[.o (.o (.i .i64)),.o (.o (.i .i64))])],[],[]⟩
def tS_l01New (x0:SlV):T :=
 .lp [.o (.o (.i .i64)),.o (.o (.i .i64))] [.v (.int .i64 (IntKind.i64.wrap ((1616:Int)+(↑x0.n:Int)))),.v (.int .i64 0)] fun y1 =>
 .br (decide (y1.2.1<(↑x0.n:Int))) (
  .br (decide (y1.2.1<(4000:Int))) (
   .el x0.1 (x0.n) y1.2.1 fun y2 =>
   .ql22 (y2.add (Int.toNat y1.2.1*(1:Nat))) fun y3 =>
   .nx 0 [.v (.int .i64 (IntKind.i64.wrap (↑(BitVec.ofInt (64:Nat) (IntKind.i64.wrap (IntKind.i64.wrap (IntKind.i64.wrap (y1.1*(41:Int))+IntKind.i64.wrap y3)+(7:Int))) &&& BitVec.ofInt (64:Nat) (1073741823:Int)).toNat:Int))),.v (.int .i64 (IntKind.i64.wrap (y1.2.1+(1:Int))))]) <|
 .es [Sc.val .l x0,.int .i64 0,.int .i64 y1.1] 94 fun b2 =>
  .ret [.pointer (some { block:=b2,off:=(0:Nat):Addr })]) <|
 .es [Sc.val .l x0,.int .i64 0,.int .i64 y1.1] 94 fun b2 =>
 .ret [.pointer (some { block:=b2,off:=(0:Nat):Addr })]
theorem fS_l01New x0:qft aS_l01New 40 [Sc.val .l x0] (tS_l01New x0) :=fitK (by kernel_rfl)
def aS_l20Draw:An:=⟨[(3,[.s 4,.c 3 0,.c 3 1,.c 3 2,.c 3 3],[.o (.o (.i .i64)),.o (.o (.l)),.o (.o (.l)),.o (.o (.s)),.o (.o (.l))])],[],[]⟩
def tS_l20Draw (x0:Addr):T :=
 .qc23 95 [.pointer (some x0)] fun y1 =>
 .qc24 96 [.pointer (some x0)] fun y2 =>
 .qc5 46 [.pointer (some x0),.int .i64 3] fun y3 =>
 .lp [.o (.o (.i .i64)),.o (.o (.l)),.o (.o (.l)),.o (.o (.s)),.o (.o (.l))] [.v (.int .i64 y3),.v (Sc.val .l y1.1),.v (.slice none 0 0),.v (.string y2.1),.v (Sc.val .l y2.2.1)] fun y4 =>
 .br (decide (y4.1 > (0:Int))) (
  .rf <|
 .cf 98 [.pointer (some x0)] (.v (.o (.s))) fun y5 =>
  .cf 99 [.pointer (some x0),.int .i64 1] (.v (.g [.b,.l,.l])) fun y6 =>
  .qc25 97 [Sc.val .l y4.2.2.1,.string y5,qv1 y6] fun y7 =>
  .br y7.2.1 (
   .nx 0 [.v (.int .i64 (IntKind.i64.wrap (y4.1-(1:Int)))),.v (Sc.val .l y4.2.1),.v (Sc.val .l y7.1),.v (.string y4.2.2.2.1),.v (Sc.val .l y4.2.2.2.2.1)]) <|
 .nx 0 [.v (.int .i64 (IntKind.i64.wrap (y4.1-(1:Int)))),.v (Sc.val .l y4.2.1),.v (Sc.val .l y4.2.2.1),.v (.string y4.2.2.2.1),.v (Sc.val .l y4.2.2.2.2.1)]) <|
 .ret [qv4 y4.2]
theorem fS_l20Draw x0:qft aS_l20Draw 41 [.pointer (some x0)] (tS_l20Draw x0) :=fitK (by kernel_rfl)
def tS_l21Acct (x0:Addr) (x1:qy4):T :=
 .br ((↑x1.1.n:Int) == (0:Int)) (
  .qc1 101 [.pointer (some x0)] fun y1 =>
  .qc1 98 [.pointer (some x0)] fun y2 =>
  .ret [.string y1,.string y2]) <|
 .qc18 100 [.pointer (some x0),.int .i64 10] fun y1 =>
 .br y1 (
  .qc1 101 [.pointer (some x0)] fun y2 =>
  .qc1 98 [.pointer (some x0)] fun y3 =>
  .ret [.string y2,.string y3]) <|
 .rf <|
 .cf 46 [.pointer (some x0),.int .i64 ((↑x1.1.n:Int))] (.v (.o (.i .i64))) fun y2 =>
 .el x1.1.1 (x1.1.n) y2 fun y3 =>
 .ql26 (y3.add (y2.toNat*(4:Nat))) fun y4 =>
 .rg <|
 .ret [.string y4.1,.string y4.2.1]
theorem fS_l21Acct x0 x1:qft qa0 42 [.pointer (some x0),qv4 x1] (tS_l21Acct x0 x1) :=fitK (by kernel_rfl)
def tI_AcctAt (x0:qy3) (x1:ByteArray):T :=
 .es [.string x1] 9 fun b1 =>
 .qc5 102 [Sc.val .l x0.1,(Value.func (Fn.func (103:Nat)) { toList:=[]:Array Value } { toList:=[Value.pointer (some { block:=b1,off:=(0:Nat):Addr })]:Array Value })] fun y2 =>
 .ret [.int .i64 y2]
theorem fI_AcctAt x0 x1:qft qa0 43 [qv3 x0,.string x1] (tI_AcctAt x0 x1) :=fitK (by kernel_rfl)
def aI_moneyCopy:An:=⟨[],[],[(3,[.s 3])]⟩
def tI_moneyCopy (x0:qy2):T :=
 .rq ((0:Int)≤(↑x0.2.2.1.n:Int)∧(↑x0.2.2.1.n:Int)≤(↑x0.2.2.1.n:Int)∧(↑(8:Nat):Int)*(↑x0.2.2.1.n:Int)≤(281474976710656:Int)∧(↑x0.2.2.1.n:Int)≤(9223372036854775807:Int)) <|
 .rd ({ a:=x0.2.2.1.1,n:=x0.2.2.1.n,c:=x0.2.2.1.c:SlV }) ((1:Nat)) fun y1 =>
 .rq (one y1=true) <|
 .fz ((↑x0.2.2.1.n:Int).toNat) (setl (madeCells { toList:=[Value.int IntKind.i64 (0:Int)]:Array Value } ((↑x0.2.2.1.n:Int).toNat*(1:Nat))).toList (0:Nat) (List.take (x0.2.2.1.n.min (↑x0.2.2.1.n:Int).toNat) y1)) 3 fun b2 c2 =>
 .rg <|
 .rq ((0:Int)≤(0:Int)∧(0:Int)≤(↑(↑x0.2.2.1.n:Int).toNat:Int)∧(↑(↑x0.2.2.1.n:Int).toNat:Int)≤(↑(↑x0.2.2.1.n:Int).toNat:Int)∧(↑(↑x0.2.2.1.n:Int).toNat:Int)≤(↑c2:Int)) <|
 .ret [qv2 (x0.1,x0.2.1,(⟨(if (↑(↑x0.2.2.1.n:Int).toNat:Int).toNat=Int.toNat (0:Int) then some { block:=b2,off:=(0:Nat):Addr } else Option.map (fun x=>x.add (Int.toNat (0:Int)*Go.Proofs.Tryz.prog.types[(3:Nat)].size)) (some { block:=b2,off:=(0:Nat):Addr })),((↑(↑x0.2.2.1.n:Int).toNat:Int).toNat-Int.toNat (0:Int)),((↑(↑x0.2.2.1.n:Int).toNat:Int).toNat-Int.toNat (0:Int))⟩:SlV),())]
theorem fI_moneyCopy x0:qft aI_moneyCopy 44 [qv2 x0] (tI_moneyCopy x0) :=fitK (by kernel_rfl)
def tS_l01Below (x0:Addr) (x1:Int):T :=
 .br (decide (x1≤(0:Int))) (
  .ret [.int .i64 0]) <|
 .br (decide (x1≤(256:Int))) (
  .qc5 106 [.pointer (some x0)] fun y1 =>
  .rq (x1≠(0:Int)) <|
 .ret [.int .i64 (y1.tmod x1)]) <|
 .qc5 106 [.pointer (some x0)] fun y1 =>
 .qc5 106 [.pointer (some x0)] fun y2 =>
 .qc5 106 [.pointer (some x0)] fun y3 =>
 .qc5 106 [.pointer (some x0)] fun y4 =>
 .rq (x1≠(0:Int)) <|
 .ret [.int .i64 ((IntKind.i64.wrap (IntKind.i64.wrap (IntKind.i64.wrap (IntKind.i64.wrap (y1*(16777216:Int))+IntKind.i64.wrap (y2*(65536:Int)))+IntKind.i64.wrap (y3*(256:Int)))+y4)).tmod x1)]
theorem fS_l01Below x0 x1:qft qa0 46 [.pointer (some x0),.int .i64 x1] (tS_l01Below x0 x1) :=fitK (by kernel_rfl)
def aI_currencyOf:An:=⟨[(2,[.s 7,.c 2 0,.c 2 1,.c 2 2,.c 2 3],[.o (.o (.i .i64)),.o (.o (.s)),.o (.o (.s)),.o (.o (.i .i64)),.o (.o (.i .i64))])],[],[]⟩
def tI_currencyOf (x0:ByteArray):T :=
 .ql27 ({ block:=(0:Nat),off:=(0:Nat):Addr }) fun y1 =>
 .lp [.o (.o (.i .i64)),.o (.o (.s)),.o (.o (.s)),.o (.o (.i .i64)),.o (.o (.i .i64))] [.v (.int .i64 0),.v (.string ({ data:={ toList:=[]:Array UInt8 }:ByteArray })),.v (.string ({ data:={ toList:=[]:Array UInt8 }:ByteArray })),.v (.int .i64 0),.v (.int .i64 0)] fun y2 =>
 .br (decide (y2.1<(20:Int))) (
  .rq ((0:Int)≤y2.1∧y2.1<(↑(20:Nat):Int)) <|
 .xs [.string y1.1,.string y1.2.1,.int .i64 y1.2.2.1,.int .i64 y1.2.2.2.1,.string y1.2.2.2.2.1,.string y1.2.2.2.2.2.1,.int .i64 y1.2.2.2.2.2.2.1,.int .i64 y1.2.2.2.2.2.2.2.1,.string y1.2.2.2.2.2.2.2.2.1,.string y1.2.2.2.2.2.2.2.2.2.1,.int .i64 y1.2.2.2.2.2.2.2.2.2.2.1,.int .i64 y1.2.2.2.2.2.2.2.2.2.2.2.1,.string y1.2.2.2.2.2.2.2.2.2.2.2.2.1,.string y1.2.2.2.2.2.2.2.2.2.2.2.2.2.1,.int .i64 y1.2.2.2.2.2.2.2.2.2.2.2.2.2.2.1,.int .i64 y1.2.2.2.2.2.2.2.2.2.2.2.2.2.2.2.1,.string y1.2.2.2.2.2.2.2.2.2.2.2.2.2.2.2.2.1,.string y1.2.2.2.2.2.2.2.2.2.2.2.2.2.2.2.2.2.1,.int .i64 y1.2.2.2.2.2.2.2.2.2.2.2.2.2.2.2.2.2.2.1,.int .i64 y1.2.2.2.2.2.2.2.2.2.2.2.2.2.2.2.2.2.2.2.1,.string y1.2.2.2.2.2.2.2.2.2.2.2.2.2.2.2.2.2.2.2.2.1,.string y1.2.2.2.2.2.2.2.2.2.2.2.2.2.2.2.2.2.2.2.2.2.1,.int .i64 y1.2.2.2.2.2.2.2.2.2.2.2.2.2.2.2.2.2.2.2.2.2.2.1,.int .i64 y1.2.2.2.2.2.2.2.2.2.2.2.2.2.2.2.2.2.2.2.2.2.2.2.1,.string y1.2.2.2.2.2.2.2.2.2.2.2.2.2.2.2.2.2.2.2.2.2.2.2.2.1,.string y1.2.2.2.2.2.2.2.2.2.2.2.2.2.2.2.2.2.2.2.2.2.2.2.2.2.1,.int .i64 y1.2.2.2.2.2.2.2.2.2.2.2.2.2.2.2.2.2.2.2.2.2.2.2.2.2.2.1,.int .i64 y1.2.2.2.2.2.2.2.2.2.2.2.2.2.2.2.2.2.2.2.2.2.2.2.2.2.2.2.1,.string y1.2.2.2.2.2.2.2.2.2.2.2.2.2.2.2.2.2.2.2.2.2.2.2.2.2.2.2.2.1,.string y1.2.2.2.2.2.2.2.2.2.2.2.2.2.2.2.2.2.2.2.2.2.2.2.2.2.2.2.2.2.1,.int .i64 y1.2.2.2.2.2.2.2.2.2.2.2.2.2.2.2.2.2.2.2.2.2.2.2.2.2.2.2.2.2.2.1,.int .i64 y1.2.2.2.2.2.2.2.2.2.2.2.2.2.2.2.2.2.2.2.2.2.2.2.2.2.2.2.2.2.2.2.1,.string y1.2.2.2.2.2.2.2.2.2.2.2.2.2.2.2.2.2.2.2.2.2.2.2.2.2.2.2.2.2.2.2.2.1,.string y1.2.2.2.2.2.2.2.2.2.2.2.2.2.2.2.2.2.2.2.2.2.2.2.2.2.2.2.2.2.2.2.2.2.1,.int .i64 y1.2.2.2.2.2.2.2.2.2.2.2.2.2.2.2.2.2.2.2.2.2.2.2.2.2.2.2.2.2.2.2.2.2.2.1,.int .i64 y1.2.2.2.2.2.2.2.2.2.2.2.2.2.2.2.2.2.2.2.2.2.2.2.2.2.2.2.2.2.2.2.2.2.2.2.1,.string y1.2.2.2.2.2.2.2.2.2.2.2.2.2.2.2.2.2.2.2.2.2.2.2.2.2.2.2.2.2.2.2.2.2.2.2.2.1,.string y1.2.2.2.2.2.2.2.2.2.2.2.2.2.2.2.2.2.2.2.2.2.2.2.2.2.2.2.2.2.2.2.2.2.2.2.2.2.1,.int .i64 y1.2.2.2.2.2.2.2.2.2.2.2.2.2.2.2.2.2.2.2.2.2.2.2.2.2.2.2.2.2.2.2.2.2.2.2.2.2.2.1,.int .i64 y1.2.2.2.2.2.2.2.2.2.2.2.2.2.2.2.2.2.2.2.2.2.2.2.2.2.2.2.2.2.2.2.2.2.2.2.2.2.2.2.1,.string y1.2.2.2.2.2.2.2.2.2.2.2.2.2.2.2.2.2.2.2.2.2.2.2.2.2.2.2.2.2.2.2.2.2.2.2.2.2.2.2.2.1,.string y1.2.2.2.2.2.2.2.2.2.2.2.2.2.2.2.2.2.2.2.2.2.2.2.2.2.2.2.2.2.2.2.2.2.2.2.2.2.2.2.2.2.1,.int .i64 y1.2.2.2.2.2.2.2.2.2.2.2.2.2.2.2.2.2.2.2.2.2.2.2.2.2.2.2.2.2.2.2.2.2.2.2.2.2.2.2.2.2.2.1,.int .i64 y1.2.2.2.2.2.2.2.2.2.2.2.2.2.2.2.2.2.2.2.2.2.2.2.2.2.2.2.2.2.2.2.2.2.2.2.2.2.2.2.2.2.2.2.1,.string y1.2.2.2.2.2.2.2.2.2.2.2.2.2.2.2.2.2.2.2.2.2.2.2.2.2.2.2.2.2.2.2.2.2.2.2.2.2.2.2.2.2.2.2.2.1,.string y1.2.2.2.2.2.2.2.2.2.2.2.2.2.2.2.2.2.2.2.2.2.2.2.2.2.2.2.2.2.2.2.2.2.2.2.2.2.2.2.2.2.2.2.2.2.1,.int .i64 y1.2.2.2.2.2.2.2.2.2.2.2.2.2.2.2.2.2.2.2.2.2.2.2.2.2.2.2.2.2.2.2.2.2.2.2.2.2.2.2.2.2.2.2.2.2.2.1,.int .i64 y1.2.2.2.2.2.2.2.2.2.2.2.2.2.2.2.2.2.2.2.2.2.2.2.2.2.2.2.2.2.2.2.2.2.2.2.2.2.2.2.2.2.2.2.2.2.2.2.1,.string y1.2.2.2.2.2.2.2.2.2.2.2.2.2.2.2.2.2.2.2.2.2.2.2.2.2.2.2.2.2.2.2.2.2.2.2.2.2.2.2.2.2.2.2.2.2.2.2.2.1,.string y1.2.2.2.2.2.2.2.2.2.2.2.2.2.2.2.2.2.2.2.2.2.2.2.2.2.2.2.2.2.2.2.2.2.2.2.2.2.2.2.2.2.2.2.2.2.2.2.2.2.1,.int .i64 y1.2.2.2.2.2.2.2.2.2.2.2.2.2.2.2.2.2.2.2.2.2.2.2.2.2.2.2.2.2.2.2.2.2.2.2.2.2.2.2.2.2.2.2.2.2.2.2.2.2.2.1,.int .i64 y1.2.2.2.2.2.2.2.2.2.2.2.2.2.2.2.2.2.2.2.2.2.2.2.2.2.2.2.2.2.2.2.2.2.2.2.2.2.2.2.2.2.2.2.2.2.2.2.2.2.2.2.1,.string y1.2.2.2.2.2.2.2.2.2.2.2.2.2.2.2.2.2.2.2.2.2.2.2.2.2.2.2.2.2.2.2.2.2.2.2.2.2.2.2.2.2.2.2.2.2.2.2.2.2.2.2.2.1,.string y1.2.2.2.2.2.2.2.2.2.2.2.2.2.2.2.2.2.2.2.2.2.2.2.2.2.2.2.2.2.2.2.2.2.2.2.2.2.2.2.2.2.2.2.2.2.2.2.2.2.2.2.2.2.1,.int .i64 y1.2.2.2.2.2.2.2.2.2.2.2.2.2.2.2.2.2.2.2.2.2.2.2.2.2.2.2.2.2.2.2.2.2.2.2.2.2.2.2.2.2.2.2.2.2.2.2.2.2.2.2.2.2.2.1,.int .i64 y1.2.2.2.2.2.2.2.2.2.2.2.2.2.2.2.2.2.2.2.2.2.2.2.2.2.2.2.2.2.2.2.2.2.2.2.2.2.2.2.2.2.2.2.2.2.2.2.2.2.2.2.2.2.2.2.1,.string y1.2.2.2.2.2.2.2.2.2.2.2.2.2.2.2.2.2.2.2.2.2.2.2.2.2.2.2.2.2.2.2.2.2.2.2.2.2.2.2.2.2.2.2.2.2.2.2.2.2.2.2.2.2.2.2.2.1,.string y1.2.2.2.2.2.2.2.2.2.2.2.2.2.2.2.2.2.2.2.2.2.2.2.2.2.2.2.2.2.2.2.2.2.2.2.2.2.2.2.2.2.2.2.2.2.2.2.2.2.2.2.2.2.2.2.2.2.1,.int .i64 y1.2.2.2.2.2.2.2.2.2.2.2.2.2.2.2.2.2.2.2.2.2.2.2.2.2.2.2.2.2.2.2.2.2.2.2.2.2.2.2.2.2.2.2.2.2.2.2.2.2.2.2.2.2.2.2.2.2.2.1,.int .i64 y1.2.2.2.2.2.2.2.2.2.2.2.2.2.2.2.2.2.2.2.2.2.2.2.2.2.2.2.2.2.2.2.2.2.2.2.2.2.2.2.2.2.2.2.2.2.2.2.2.2.2.2.2.2.2.2.2.2.2.2.1,.string y1.2.2.2.2.2.2.2.2.2.2.2.2.2.2.2.2.2.2.2.2.2.2.2.2.2.2.2.2.2.2.2.2.2.2.2.2.2.2.2.2.2.2.2.2.2.2.2.2.2.2.2.2.2.2.2.2.2.2.2.2.1,.string y1.2.2.2.2.2.2.2.2.2.2.2.2.2.2.2.2.2.2.2.2.2.2.2.2.2.2.2.2.2.2.2.2.2.2.2.2.2.2.2.2.2.2.2.2.2.2.2.2.2.2.2.2.2.2.2.2.2.2.2.2.2.1,.int .i64 y1.2.2.2.2.2.2.2.2.2.2.2.2.2.2.2.2.2.2.2.2.2.2.2.2.2.2.2.2.2.2.2.2.2.2.2.2.2.2.2.2.2.2.2.2.2.2.2.2.2.2.2.2.2.2.2.2.2.2.2.2.2.2.1,.int .i64 y1.2.2.2.2.2.2.2.2.2.2.2.2.2.2.2.2.2.2.2.2.2.2.2.2.2.2.2.2.2.2.2.2.2.2.2.2.2.2.2.2.2.2.2.2.2.2.2.2.2.2.2.2.2.2.2.2.2.2.2.2.2.2.2.1,.string y1.2.2.2.2.2.2.2.2.2.2.2.2.2.2.2.2.2.2.2.2.2.2.2.2.2.2.2.2.2.2.2.2.2.2.2.2.2.2.2.2.2.2.2.2.2.2.2.2.2.2.2.2.2.2.2.2.2.2.2.2.2.2.2.2.1,.string y1.2.2.2.2.2.2.2.2.2.2.2.2.2.2.2.2.2.2.2.2.2.2.2.2.2.2.2.2.2.2.2.2.2.2.2.2.2.2.2.2.2.2.2.2.2.2.2.2.2.2.2.2.2.2.2.2.2.2.2.2.2.2.2.2.2.1,.int .i64 y1.2.2.2.2.2.2.2.2.2.2.2.2.2.2.2.2.2.2.2.2.2.2.2.2.2.2.2.2.2.2.2.2.2.2.2.2.2.2.2.2.2.2.2.2.2.2.2.2.2.2.2.2.2.2.2.2.2.2.2.2.2.2.2.2.2.2.1,.int .i64 y1.2.2.2.2.2.2.2.2.2.2.2.2.2.2.2.2.2.2.2.2.2.2.2.2.2.2.2.2.2.2.2.2.2.2.2.2.2.2.2.2.2.2.2.2.2.2.2.2.2.2.2.2.2.2.2.2.2.2.2.2.2.2.2.2.2.2.2.1,.string y1.2.2.2.2.2.2.2.2.2.2.2.2.2.2.2.2.2.2.2.2.2.2.2.2.2.2.2.2.2.2.2.2.2.2.2.2.2.2.2.2.2.2.2.2.2.2.2.2.2.2.2.2.2.2.2.2.2.2.2.2.2.2.2.2.2.2.2.2.1,.string y1.2.2.2.2.2.2.2.2.2.2.2.2.2.2.2.2.2.2.2.2.2.2.2.2.2.2.2.2.2.2.2.2.2.2.2.2.2.2.2.2.2.2.2.2.2.2.2.2.2.2.2.2.2.2.2.2.2.2.2.2.2.2.2.2.2.2.2.2.2.1,.int .i64 y1.2.2.2.2.2.2.2.2.2.2.2.2.2.2.2.2.2.2.2.2.2.2.2.2.2.2.2.2.2.2.2.2.2.2.2.2.2.2.2.2.2.2.2.2.2.2.2.2.2.2.2.2.2.2.2.2.2.2.2.2.2.2.2.2.2.2.2.2.2.2.1,.int .i64 y1.2.2.2.2.2.2.2.2.2.2.2.2.2.2.2.2.2.2.2.2.2.2.2.2.2.2.2.2.2.2.2.2.2.2.2.2.2.2.2.2.2.2.2.2.2.2.2.2.2.2.2.2.2.2.2.2.2.2.2.2.2.2.2.2.2.2.2.2.2.2.2.1,.string y1.2.2.2.2.2.2.2.2.2.2.2.2.2.2.2.2.2.2.2.2.2.2.2.2.2.2.2.2.2.2.2.2.2.2.2.2.2.2.2.2.2.2.2.2.2.2.2.2.2.2.2.2.2.2.2.2.2.2.2.2.2.2.2.2.2.2.2.2.2.2.2.2.1,.string y1.2.2.2.2.2.2.2.2.2.2.2.2.2.2.2.2.2.2.2.2.2.2.2.2.2.2.2.2.2.2.2.2.2.2.2.2.2.2.2.2.2.2.2.2.2.2.2.2.2.2.2.2.2.2.2.2.2.2.2.2.2.2.2.2.2.2.2.2.2.2.2.2.2.1,.int .i64 y1.2.2.2.2.2.2.2.2.2.2.2.2.2.2.2.2.2.2.2.2.2.2.2.2.2.2.2.2.2.2.2.2.2.2.2.2.2.2.2.2.2.2.2.2.2.2.2.2.2.2.2.2.2.2.2.2.2.2.2.2.2.2.2.2.2.2.2.2.2.2.2.2.2.2.1,.int .i64 y1.2.2.2.2.2.2.2.2.2.2.2.2.2.2.2.2.2.2.2.2.2.2.2.2.2.2.2.2.2.2.2.2.2.2.2.2.2.2.2.2.2.2.2.2.2.2.2.2.2.2.2.2.2.2.2.2.2.2.2.2.2.2.2.2.2.2.2.2.2.2.2.2.2.2.2.1,.string y1.2.2.2.2.2.2.2.2.2.2.2.2.2.2.2.2.2.2.2.2.2.2.2.2.2.2.2.2.2.2.2.2.2.2.2.2.2.2.2.2.2.2.2.2.2.2.2.2.2.2.2.2.2.2.2.2.2.2.2.2.2.2.2.2.2.2.2.2.2.2.2.2.2.2.2.2.1,.string y1.2.2.2.2.2.2.2.2.2.2.2.2.2.2.2.2.2.2.2.2.2.2.2.2.2.2.2.2.2.2.2.2.2.2.2.2.2.2.2.2.2.2.2.2.2.2.2.2.2.2.2.2.2.2.2.2.2.2.2.2.2.2.2.2.2.2.2.2.2.2.2.2.2.2.2.2.2.1,.int .i64 y1.2.2.2.2.2.2.2.2.2.2.2.2.2.2.2.2.2.2.2.2.2.2.2.2.2.2.2.2.2.2.2.2.2.2.2.2.2.2.2.2.2.2.2.2.2.2.2.2.2.2.2.2.2.2.2.2.2.2.2.2.2.2.2.2.2.2.2.2.2.2.2.2.2.2.2.2.2.2.1,.int .i64 y1.2.2.2.2.2.2.2.2.2.2.2.2.2.2.2.2.2.2.2.2.2.2.2.2.2.2.2.2.2.2.2.2.2.2.2.2.2.2.2.2.2.2.2.2.2.2.2.2.2.2.2.2.2.2.2.2.2.2.2.2.2.2.2.2.2.2.2.2.2.2.2.2.2.2.2.2.2.2.2.1] (Int.toNat y2.1*(4:Nat)) (.g [.s,.s,.i .i64,.i .i64]) fun y3 =>
  .br (ByteArray.toList y3.1 == x0.toList) (
   .ret [qv9 y3,.bool (true)]) <|
 .nx 0 [.v (.int .i64 (IntKind.i64.wrap (y2.1+(1:Int)))),.v (.string y2.2.1),.v (.string y2.2.2.1),.v (.int .i64 y2.2.2.2.1),.v (.int .i64 y2.2.2.2.2.1)]) <|
 .ret [qv9 (({ data:={ toList:=[]:Array UInt8 }:ByteArray }),({ data:={ toList:=[]:Array UInt8 }:ByteArray }),(((0:Int)):Int),(((0:Int)):Int),()),.bool (false)]
theorem fI_currencyOf x0:qft aI_currencyOf 47 [.string x0] (tI_currencyOf x0) :=fitK (by kernel_rfl)
def tI_natsOk (x0:SlV) (x1:SlV):T :=
 .qc18 107 [Sc.val .l x0] fun y1 =>
 .br y1 (
  .qc18 107 [Sc.val .l x1] fun y2 =>
  .ret [.bool y2]) <|
 .rF
theorem fI_natsOk x0 x1:qft qa0 48 [Sc.val .l x0,Sc.val .l x1] (tI_natsOk x0 x1) :=fitK (by kernel_rfl)
def aI_natDiv:An:=⟨[(9,[.s 9],[.o (.o (.l))]),(14,[.s 12,.s 13],[.a 3,.o (.o (.i .i64))])],[],[]⟩
def tI_natDiv (x0:SlV) (x1:SlV):T :=
 .qc5 108 [Sc.val .l x0,Sc.val .l x1] fun y1 =>
 .br (decide (y1<(0:Int))) (
  .qc19 63 [Sc.val .l x0] fun y2 =>
  .fz ((0:Nat)) [] 3 fun b3 c3 =>
  .ret [.slice (some { block:=b3,off:=(0:Nat):Addr }) ((0:Nat)) (c3),Sc.val .l y2]) <|
 .br ((↑x1.n:Int) == (1:Int)) (
  .el x1.1 (x1.n) ((0:Int)) fun y2 =>
  .ql13 (y2.add (Int.toNat (0:Int)*(1:Nat))) fun y3 =>
  .qc28 109 [Sc.val .l x0,.int .i64 y3] fun y4 =>
  .qc19 12 [.int .i64 y4.2.1] fun y5 =>
  .ret [Sc.val .l y4.1,Sc.val .l y5]) <|
 .el x1.1 (x1.n) (IntKind.i64.wrap ((↑x1.n:Int)-(1:Int))) fun y2 =>
 .ql13 (y2.add ((IntKind.i64.wrap ((↑x1.n:Int)-(1:Int))).toNat*(1:Nat))) fun y3 =>
 .rq (IntKind.i64.wrap (y3+(1:Int))≠(0:Int)) <|
 .fz ((1:Nat)) [.int .i64 (IntKind.i64.wrap (Int.tdiv (1000000000:Int) (IntKind.i64.wrap (y3+(1:Int)))))] 3 fun b4 c4 =>
 .qc19 110 [Sc.val .l x0,.slice (some { block:=b4,off:=(0:Nat):Addr }) ((1:Nat)) (c4)] fun y5 =>
 .fz ((1:Nat)) [.int .i64 (IntKind.i64.wrap (Int.tdiv (1000000000:Int) (IntKind.i64.wrap (y3+(1:Int)))))] 3 fun b6 c6 =>
 .qc19 110 [Sc.val .l x1,.slice (some { block:=b6,off:=(0:Nat):Addr }) ((1:Nat)) (c6)] fun y7 =>
 .lp [.o (.o (.l))] [.v (Sc.val .l y5)] fun y8 =>
 .br (decide ((↑y8.1.n:Int)≤(↑x0.n:Int))) (
  .rq ([Value.int IntKind.i64 (0:Int)].length=(1:Nat)*(1:Nat)) <|
 .rq (one [Value.int IntKind.i64 (0:Int)]=true) <|
 .ap ({ a:=y8.1.1,n:=y8.1.n,c:=y8.1.c:SlV }) 1 8 [.int .i64 0] ((1:Nat)) 3 fun y9 =>
  .nx 0 [.v (Sc.val .l y9)]) <|
 .rq ((0:Int)≤IntKind.i64.wrap ((↑y8.1.n:Int)-(↑y7.n:Int))∧IntKind.i64.wrap ((↑y8.1.n:Int)-(↑y7.n:Int))≤IntKind.i64.wrap ((↑y8.1.n:Int)-(↑y7.n:Int))∧(↑(8:Nat):Int)*IntKind.i64.wrap ((↑y8.1.n:Int)-(↑y7.n:Int))≤(281474976710656:Int)∧IntKind.i64.wrap ((↑y8.1.n:Int)-(↑y7.n:Int))≤(9223372036854775807:Int)) <|
 .lp [.a 3,.o (.o (.i .i64))] [.a 3 ((IntKind.i64.wrap ((↑y8.1.n:Int)-(↑y7.n:Int))).toNat) ((madeCells { toList:=[Value.int IntKind.i64 (0:Int)]:Array Value } ((IntKind.i64.wrap ((↑y8.1.n:Int)-(↑y7.n:Int))).toNat*(1:Nat))).toList),.v (.int .i64 (IntKind.i64.wrap ((↑(IntKind.i64.wrap ((↑y8.1.n:Int)-(↑y7.n:Int))).toNat:Int)-(1:Int))))] fun y9 =>
 .br (decide (y9.2.1≥(0:Int))) (
  .rq ((0:Int)≤y9.2.1∧y9.2.1≤IntKind.i64.wrap (IntKind.i64.wrap (y9.2.1+(↑y7.n:Int))+(1:Int))∧IntKind.i64.wrap (IntKind.i64.wrap (y9.2.1+(↑y7.n:Int))+(1:Int))≤(↑y8.1.c:Int)∧(↑y8.1.c:Int)≤(↑y8.1.c:Int)) <|
 .qc5 111 [.slice (if (↑y8.1.c:Int).toNat=Int.toNat y9.2.1 then y8.1.1 else Option.map (fun x=>x.add (Int.toNat y9.2.1*Go.Proofs.Tryz.prog.types[(3:Nat)].size)) y8.1.1) ((IntKind.i64.wrap (IntKind.i64.wrap (y9.2.1+(↑y7.n:Int))+(1:Int))).toNat-Int.toNat y9.2.1) ((↑y8.1.c:Int).toNat-Int.toNat y9.2.1),Sc.val .l y7] fun y10 =>
  .rq ((0:Int)≤y9.2.1∧y9.2.1<(↑y9.1.1:Int)) <|
 .rq (Int.toNat y9.2.1*(1:Nat)+[Value.int IntKind.i64 y10].length≤y9.1.2.length) <|
 .nx 1 [.a 3 y9.1.1 (setl y9.1.2 (Int.toNat y9.2.1*(1:Nat)) [Value.int IntKind.i64 y10]),.v (.int .i64 (IntKind.i64.wrap (y9.2.1-(1:Int))))]) <|
 .qc19 112 [Sc.val .l y8.1] fun y10 =>
 .qc28 109 [Sc.val .l y10,.int .i64 (IntKind.i64.wrap (Int.tdiv (1000000000:Int) (IntKind.i64.wrap (y3+(1:Int)))))] fun y11 =>
 .fz y9.1.1 y9.1.2 3 fun b12 c12 =>
 .qc19 112 [.slice (some { block:=b12,off:=(0:Nat):Addr }) y9.1.1 (c12)] fun y13 =>
 .ret [Sc.val .l y13,Sc.val .l y11.1]
theorem fI_natDiv x0 x1:qft aI_natDiv 49 [Sc.val .l x0,Sc.val .l x1] (tI_natDiv x0 x1) :=fitK (by kernel_rfl)
def aI_natOf:An:=⟨[(2,[.s 0,.s 3],[.o (.o (.i .u64)),.a 3])],[],[]⟩
def tI_natOf (x0:Int):T :=
 .lp [.o (.o (.i .u64)),.a 3] [.v (.int .u64 x0),.a 3 ((0:Nat)) []] fun y1 =>
 .br (decide (y1.1 > (0:Int))) (
  .rq ((1000000000:Int)≠(0:Int)) <|
 .rq ([Value.int IntKind.i64 (IntKind.i64.wrap (Int.tmod y1.1 (1000000000:Int)))].length=(1:Nat)*(1:Nat)) <|
 .rq (one [Value.int IntKind.i64 (IntKind.i64.wrap (Int.tmod y1.1 (1000000000:Int)))]=true∧(y1.2.1.1+(1:Nat))*(8:Nat)≤(140737488355328:Nat)∧y1.2.1.1+(1:Nat)≤(9223372036854775807:Nat)) <|
 .rq ((1000000000:Int)≠(0:Int)) <|
 .nx 0 [.v (.int .u64 (IntKind.u64.wrap (Int.tdiv y1.1 (1000000000:Int)))),.a 3 (y1.2.1.1+(1:Nat)) (y1.2.1.2++[Value.int IntKind.i64 (IntKind.i64.wrap (Int.tmod y1.1 (1000000000:Int)))])]) <|
 .fz y1.2.1.1 y1.2.1.2 3 fun b2 c2 =>
 .ret [.slice (some { block:=b2,off:=(0:Nat):Addr }) y1.2.1.1 (c2)]
theorem fI_natOf x0:qft aI_natOf 50 [.int .u64 x0] (tI_natOf x0) :=fitK (by kernel_rfl)
def tI_alike (x0:qy2) (x1:qy2):T :=
 .qc18 65 [qv2 x0] fun y1 =>
 .br y1 (
  .qc18 65 [qv2 x1] fun y2 =>
  .br y2 (
   .ret [.bool (ByteArray.toList x0.1 == ByteArray.toList x1.1)]) <|
 .rF) <|
 .rF
theorem fI_alike x0 x1:qft qa0 51 [qv2 x0,qv2 x1] (tI_alike x0 x1) :=fitK (by kernel_rfl)
def tI_moneyOf (x0:ByteArray) (x1:qy0):T :=
 .qc18 65 [qv2 (x0,x1.1,x1.2.1,())] fun y1 =>
 .br y1 (
  .ret [qv2 (x0,x1.1,x1.2.1,()),.bool (true)]) <|
 .ret [qv2 (({ data:={ toList:=[]:Array UInt8 }:ByteArray }),(false),nilS,()),.bool (false)]
theorem fI_moneyOf x0 x1:qft qa0 52 [.string x0,qv0 x1] (tI_moneyOf x0 x1) :=fitK (by kernel_rfl)
def tI_intAdd (x0:qy0) (x1:qy0):T :=
 .br (x0.1 == x1.1) (
  .rg <|
 .qc6 114 [Sc.val .l x0.2.1,Sc.val .l x1.2.1] fun y1 =>
  .qc21 113 [.bool x0.1,Sc.val .l y1] fun y2 =>
  .ret [qv0 y2]) <|
 .qc5 108 [Sc.val .l x0.2.1,Sc.val .l x1.2.1] fun y1 =>
 .br (decide (y1<(0:Int))) (
  .rg <|
 .qc6 115 [Sc.val .l x1.2.1,Sc.val .l x0.2.1] fun y2 =>
  .qc21 113 [.bool x1.1,Sc.val .l y2] fun y3 =>
  .ret [qv0 y3]) <|
 .rg <|
 .qc6 115 [Sc.val .l x0.2.1,Sc.val .l x1.2.1] fun y2 =>
 .qc21 113 [.bool x0.1,Sc.val .l y2] fun y3 =>
 .ret [qv0 y3]
theorem fI_intAdd x0 x1:qft qa0 53 [qv0 x0,qv0 x1] (tI_intAdd x0 x1) :=fitK (by kernel_rfl)
def tI_intNeg (x0:qy0):T :=
 .rg <|
 .qc6 63 [Sc.val .l x0.2.1] fun y1 =>
 .qc21 113 [.bool (!x0.1),Sc.val .l y1] fun y2 =>
 .ret [qv0 y2]
theorem fI_intNeg x0:qft qa0 54 [qv0 x0] (tI_intNeg x0) :=fitK (by kernel_rfl)
def tI_ratsOk (x0:qy1) (x1:qy1):T :=
 .qc18 116 [qv1 x0] fun y1 =>
 .br y1 (
  .qc18 116 [qv1 x1] fun y2 =>
  .ret [.bool y2]) <|
 .rF
theorem fI_ratsOk x0 x1:qft qa0 55 [qv1 x0,qv1 x1] (tI_ratsOk x0 x1) :=fitK (by kernel_rfl)
def tI_RatAdd (x0:qy1) (x1:qy1):T :=
 .qc18 55 [qv1 x0,qv1 x1] fun y1 =>
 .bn y1 (.ret [qv1 ((false),nilS,nilS,()),.bool (false)]) <|
 .rg <|
 .rg <|
 .qc11 64 [qv1 x0,Sc.val .l x1.2.2.1] fun y2 =>
 .qc11 64 [qv1 x1,Sc.val .l x0.2.2.1] fun y3 =>
 .qc11 53 [qv0 y2,qv0 y3] fun y4 =>
 .qc19 110 [Sc.val .l x0.2.2.1,Sc.val .l x1.2.2.1] fun y5 =>
 .qc10 117 [qv0 y4,Sc.val .l y5] fun y6 =>
 .ret [qv1 y6.1,.bool y6.2.1]
theorem fI_RatAdd x0 x1:qft qa0 56 [qv1 x0,qv1 x1] (tI_RatAdd x0 x1) :=fitK (by kernel_rfl)
def tI_ratNeg (x0:qy1):T :=
 .rg <|
 .qc11 54 [qv0 (x0.1,x0.2.1,())] fun y1 =>
 .qc19 63 [Sc.val .l x0.2.2.1] fun y2 =>
 .ret [qv1 (y1.1,y1.2.1,y2,())]
theorem fI_ratNeg x0:qft qa0 57 [qv1 x0] (tI_ratNeg x0) :=fitK (by kernel_rfl)
def tI_ratCopy (x0:qy1):T :=
 .rg <|
 .qc11 66 [qv0 (x0.1,x0.2.1,())] fun y1 =>
 .qc19 63 [Sc.val .l x0.2.2.1] fun y2 =>
 .ret [qv1 (y1.1,y1.2.1,y2,())]
theorem fI_ratCopy x0:qft qa0 58 [qv1 x0] (tI_ratCopy x0) :=fitK (by kernel_rfl)
def tI_RatZero :T :=
 .fz ((1:Nat)) [.int .i64 1] 3 fun b1 c1 =>
 .ret [qv1 ((false),nilS,(⟨(some { block:=b1,off:=(0:Nat):Addr }),((1:Nat)),(c1)⟩:SlV),())]
theorem fI_RatZero :qft qa0 59 [] (tI_RatZero ) :=fitK (by kernel_rfl)
def tI_intsOk (x0:qy0) (x1:qy0):T :=
 .qc18 62 [qv0 x0] fun y1 =>
 .br y1 (
  .qc18 62 [qv0 x1] fun y2 =>
  .ret [.bool y2]) <|
 .rF
theorem fI_intsOk x0 x1:qft qa0 60 [qv0 x0,qv0 x1] (tI_intsOk x0 x1) :=fitK (by kernel_rfl)
def tI_intCmp (x0:qy0) (x1:qy0):T :=
 .rg <|
 .qc11 54 [qv0 x1] fun y1 =>
 .qc21 53 [qv0 x0,qv0 y1] fun y2 =>
 .qc5 118 [qv0 y2] fun y3 =>
 .ret [.int .i64 y3]
theorem fI_intCmp x0 x1:qft qa0 61 [qv0 x0,qv0 x1] (tI_intCmp x0 x1) :=fitK (by kernel_rfl)
def tI_IntOk (x0:qy0):T :=
 .qc18 107 [Sc.val .l x0.2.1] fun y1 =>
 .br y1 (
  .br (!x0.1) (
   .rT) <|
 .ret [.bool (decide ((↑x0.2.1.n:Int) > (0:Int)))]) <|
 .rF
theorem fI_IntOk x0:qft qa0 62 [qv0 x0] (tI_IntOk x0) :=fitK (by kernel_rfl)
def tI_natCopy (x0:SlV):T :=
 .rd ({ a:=x0.1,n:=x0.n,c:=x0.c:SlV }) ((1:Nat)) fun y1 =>
 .rq (one y1=true∧((0:Nat)+x0.n)*(8:Nat)≤(140737488355328:Nat)∧(0:Nat)+x0.n≤(9223372036854775807:Nat)) <|
 .fz ((0:Nat)+x0.n) ([]++y1) 3 fun b2 c2 =>
 .ret [.slice (some { block:=b2,off:=(0:Nat):Addr }) ((0:Nat)+x0.n) (c2)]
theorem fI_natCopy x0:qft qa0 63 [Sc.val .l x0] (tI_natCopy x0) :=fitK (by kernel_rfl)
def tI_Rat__num (x0:qy1) (x1:SlV):T :=
 .rg <|
 .qc6 110 [Sc.val .l x0.2.1,Sc.val .l x1] fun y1 =>
 .qc21 113 [.bool x0.1,Sc.val .l y1] fun y2 =>
 .ret [qv0 y2]
theorem fI_Rat__num x0 x1:qft qa0 64 [qv1 x0,Sc.val .l x1] (tI_Rat__num x0 x1) :=fitK (by kernel_rfl)
def tI_MoneyOk (x0:qy2):T :=
 .qc18 119 [.string x0.1] fun y1 =>
 .br y1 (
  .qc18 62 [qv0 x0.2] fun y2 =>
  .br y2 (
   .ret [.bool (decide ((↑x0.2.2.1.n:Int)≤(4:Int)))]) <|
 .rF) <|
 .rF
theorem fI_MoneyOk x0:qft qa0 65 [qv2 x0] (tI_MoneyOk x0) :=fitK (by kernel_rfl)
def tI_intCopy (x0:qy0):T :=
 .rg <|
 .qc6 63 [Sc.val .l x0.2.1] fun y1 =>
 .ret [qv0 (x0.1,y1,())]
theorem fI_intCopy x0:qft qa0 66 [qv0 x0] (tI_intCopy x0) :=fitK (by kernel_rfl)
def tS_IsWord (x0:ByteArray):T :=
 .qc18 127 [.string x0,.int .u8 ((97:Int)),.int .u8 ((122:Int)),.int .u8 ((48:Int)),.int .u8 ((57:Int))] fun y1 =>
 .br y1 (
  .br (decide ((↑x0.size:Int)≤(12:Int))) (
   .rq ((0:Int)≤(0:Int)∧(0:Int)<(↑x0.size:Int)) <|
 .ret [.bool (decide (at0 x0 (Int.toNat (0:Int))≥(97:Int)))]) <|
 .rF) <|
 .rF
theorem fS_IsWord x0:qft qa0 72 [.string x0] (tS_IsWord x0) :=fitK (by kernel_rfl)
def aS_l17Draw:An:=⟨[(3,[.s 12,.c 3 0],[.o (.o (.i .i64)),.o (.o (.l))])],[],[]⟩
def tS_l17Draw (x0:Addr):T :=
 .lp [.o (.o (.i .i64)),.o (.o (.l))] [.v (.int .i64 0),.v (.slice none 0 0)] fun y1 =>
 .br (decide (y1.1<(↑(5:Nat):Int))) (
  .rq ((0:Int)≤y1.1∧y1.1<(↑(5:Nat):Int)) <|
 .xs [.string ({ data:={ toList:=[(98:UInt8),(97:UInt8),(110:UInt8),(107:UInt8)]:Array UInt8 }:ByteArray }),.string ({ data:={ toList:=[(98:UInt8),(111:UInt8),(120:UInt8)]:Array UInt8 }:ByteArray }),.string ({ data:={ toList:=[(99:UInt8),(97:UInt8),(115:UInt8),(104:UInt8)]:Array UInt8 }:ByteArray }),.string ({ data:={ toList:=[(102:UInt8),(101:UInt8),(101:UInt8),(115:UInt8)]:Array UInt8 }:ByteArray }),.string ({ data:={ toList:=[(116:UInt8),(97:UInt8),(120:UInt8)]:Array UInt8 }:ByteArray })] (Int.toNat y1.1*(1:Nat)) (.o (.s)) fun y2 =>
  .qc18 100 [.pointer (some x0),.int .i64 4] fun y3 =>
  .bn y3 (.fz ((4:Nat)) [.string ({ data:={ toList:=[(67:UInt8),(72:UInt8),(70:UInt8)]:Array UInt8 }:ByteArray }),.string ({ data:={ toList:=[(69:UInt8),(85:UInt8),(82:UInt8)]:Array UInt8 }:ByteArray }),.string ({ data:={ toList:=[(85:UInt8),(83:UInt8),(68:UInt8)]:Array UInt8 }:ByteArray }),.string ({ data:={ toList:=[(74:UInt8),(80:UInt8),(89:UInt8)]:Array UInt8 }:ByteArray })] 9 fun b4 c4 =>
   .qc1 147 [.pointer (some x0),.slice (some { block:=b4,off:=(0:Nat):Addr }) ((4:Nat)) (c4)] fun y5 =>
   .qc29 148 [qv3 y1.2,.string y2,.string y5] fun y6 =>
   .br y6.2.1 (
    .rf <|
 .cf 46 [.pointer (some x0),.int .i64 9000] (.v (.o (.i .i64))) fun y7 =>
    .qc11 149 [.int .i64 (IntKind.i64.wrap (y7-(2000:Int)))] fun y8 =>
    .qc29 135 [qv3 y6.1,.string y2,qv2 (y5,y8.1,y8.2.1,())] fun y9 =>
    .nx 0 [.v (.int .i64 (IntKind.i64.wrap (y1.1+(1:Int)))),.v (Sc.val .l y9.1.1)]) <|
 .nx 0 [.v (.int .i64 (IntKind.i64.wrap (y1.1+(1:Int)))),.v (Sc.val .l y1.2.1)]) <|
 .nx 0 [.v (.int .i64 (IntKind.i64.wrap (y1.1+(1:Int)))),.v (Sc.val .l y1.2.1)]) <|
 .ret [qv3 y1.2]
theorem fS_l17Draw x0:qft aS_l17Draw 95 [.pointer (some x0)] (tS_l17Draw x0) :=fitK (by kernel_rfl)
def aS_l10Table:An:=⟨[(3,[.s 4,.c 3 0,.c 3 1],[.o (.o (.i .i64)),.o (.o (.s)),.o (.o (.l))])],[],[]⟩
def tS_l10Table (x0:Addr):T :=
 .fz ((3:Nat)) [.string ({ data:={ toList:=[(69:UInt8),(85:UInt8),(82:UInt8)]:Array UInt8 }:ByteArray }),.string ({ data:={ toList:=[(69:UInt8),(85:UInt8),(82:UInt8)]:Array UInt8 }:ByteArray }),.string ({ data:={ toList:=[(85:UInt8),(83:UInt8),(68:UInt8)]:Array UInt8 }:ByteArray })] 9 fun b1 c1 =>
 .qc1 147 [.pointer (some x0),.slice (some { block:=b1,off:=(0:Nat):Addr }) ((3:Nat)) (c1)] fun y2 =>
 .qc5 46 [.pointer (some x0),.int .i64 7] fun y3 =>
 .lp [.o (.o (.i .i64)),.o (.o (.s)),.o (.o (.l))] [.v (.int .i64 y3),.v (.string y2),.v (.slice none 0 0)] fun y4 =>
 .br (decide (y4.1 > (0:Int))) (
  .qc30 150 [.pointer (some x0)] fun y5 =>
  .qc18 100 [.pointer (some x0),.int .i64 2] fun y6 =>
  .br y6 (
   .br (!ByteArray.toList y5.1 == ByteArray.toList y4.2.1) (
    .qc31 151 [qv5 y4.2,qv6 (y5.1,y4.2.1,y5.2.2.1,y5.2.2.2.1,((y5.2.2.2.2.1):Int),())] fun y7 =>
    .br y7.2.1 (
     .nx 0 [.v (.int .i64 (IntKind.i64.wrap (y4.1-(1:Int)))),.v (.string y7.1.1),.v (Sc.val .l y7.1.2.1)]) <|
 .nx 0 [.v (.int .i64 (IntKind.i64.wrap (y4.1-(1:Int)))),.v (.string y4.2.1),.v (Sc.val .l y4.2.2.1)]) <|
 .qc31 151 [qv5 y4.2,qv6 y5] fun y7 =>
   .br y7.2.1 (
    .nx 0 [.v (.int .i64 (IntKind.i64.wrap (y4.1-(1:Int)))),.v (.string y7.1.1),.v (Sc.val .l y7.1.2.1)]) <|
 .nx 0 [.v (.int .i64 (IntKind.i64.wrap (y4.1-(1:Int)))),.v (.string y4.2.1),.v (Sc.val .l y4.2.2.1)]) <|
 .qc31 151 [qv5 y4.2,qv6 y5] fun y7 =>
  .br y7.2.1 (
   .nx 0 [.v (.int .i64 (IntKind.i64.wrap (y4.1-(1:Int)))),.v (.string y7.1.1),.v (Sc.val .l y7.1.2.1)]) <|
 .nx 0 [.v (.int .i64 (IntKind.i64.wrap (y4.1-(1:Int)))),.v (.string y4.2.1),.v (Sc.val .l y4.2.2.1)]) <|
 .ret [qv5 y4.2]
theorem fS_l10Table x0:qft aS_l10Table 96 [.pointer (some x0)] (tS_l10Table x0) :=fitK (by kernel_rfl)
def aS_RestAdd:An:=⟨[(7,[.s 10,.s 11,.s 38],[.o (.o (.l)),.o (.o (.b)),.o (.o (.i .i64))])],[(13,[.s 10,.s 11],[.o (.o (.l)),.o (.o (.b))]),(17,[.s 10],[.o (.o (.l))])],[]⟩
def tS_RestAdd (x0:SlV) (x1:ByteArray) (x2:qy1):T :=
 .rg <|
 .qc8 153 [Sc.val .l x0,.string x1] fun y1 =>
 .qc10 152 [qv1 y1,qv1 x2] fun y2 =>
 .qc18 125 [Sc.val .l x0] fun y3 =>
 .bn y3 (.ret [.slice none 0 0,.bool (false)]) <|
 .qc18 154 [.string x1] fun y4 =>
 .bn y4 (.ret [.slice none 0 0,.bool (false)]) <|
 .bn y2.2.1 (.ret [.slice none 0 0,.bool (false)]) <|
 .qc19 155 [Sc.val .l x0] fun y5 =>
 .fz ((0:Nat)) [] 116 fun b6 c6 =>
 .lp [.o (.o (.l)),.o (.o (.b)),.o (.o (.i .i64))] [.v (.slice (some { block:=b6,off:=(0:Nat):Addr }) ((0:Nat)) (c6)),.v (.bool (false)),.v (.int .i64 0)] fun y7 =>
 .br (decide (y7.2.2.1<(↑y5.n:Int))) (
  .el y5.1 (y5.n) y7.2.2.1 fun y8 =>
  .ql20 (y8.add (Int.toNat y7.2.2.1*(4:Nat))) fun y9 =>
  .br (ByteArray.toList y9.1 == x1.toList) (
   .nx 0 [.v (Sc.val .l y7.1),.v (.bool y7.2.1),.v (.int .i64 (IntKind.i64.wrap (y7.2.2.1+(1:Int))))]) <|
 .jn [.o (.o (.l)),.o (.o (.b))] (fun y10 =>
   .rq ([Value.string y9.1,Value.bool y9.2.1,Value.slice y9.2.2.1.1 y9.2.2.1.n y9.2.2.1.c,Value.slice y9.2.2.2.1.1 y9.2.2.2.1.n y9.2.2.2.1.c].length=(1:Nat)*(4:Nat)) <|
 .rq (one [Value.string y9.1,Value.bool y9.2.1,Value.slice y9.2.2.1.1 y9.2.2.1.n y9.2.2.1.c,Value.slice y9.2.2.2.1.1 y9.2.2.2.1.n y9.2.2.2.1.c]=true) <|
 .ap ({ a:=y10.1.1,n:=y10.1.n,c:=y10.1.c:SlV }) 4 72 [.string y9.1,.bool y9.2.1,Sc.val .l y9.2.2.1,Sc.val .l y9.2.2.2.1] ((1:Nat)) 116 fun y11 =>
   .nx 0 [.v (Sc.val .l y11),.v (.bool y10.2.1),.v (.int .i64 (IntKind.i64.wrap (y7.2.2.1+(1:Int))))]) <|
 .bn y7.2.1 (.br (!(Op.bytesLess (ByteArray.toList y9.1) x1.toList || ByteArray.toList y9.1 == x1.toList)) (
    .qc5 156 [qv1 y2.1] fun y10 =>
    .br (y10 != (0:Int)) (
     .rq ([Value.string x1,Value.bool y2.1.1,Value.slice y2.1.2.1.1 y2.1.2.1.n y2.1.2.1.c,Value.slice y2.1.2.2.1.1 y2.1.2.2.1.n y2.1.2.2.1.c].length=(1:Nat)*(4:Nat)) <|
 .rq (one [Value.string x1,Value.bool y2.1.1,Value.slice y2.1.2.1.1 y2.1.2.1.n y2.1.2.1.c,Value.slice y2.1.2.2.1.1 y2.1.2.2.1.n y2.1.2.2.1.c]=true) <|
 .ap ({ a:=y7.1.1,n:=y7.1.n,c:=y7.1.c:SlV }) 4 72 [.string x1,.bool y2.1.1,Sc.val .l y2.1.2.1,Sc.val .l y2.1.2.2.1] ((1:Nat)) 116 fun y11 =>
     .nx 1 [.v (Sc.val .l y11),.v (.bool (true))]) <|
 .nx 1 [.v (Sc.val .l y7.1),.v (.bool y7.2.1)]) <|
 .nx 1 [.v (Sc.val .l y7.1),.v (.bool y7.2.1)]) <|
 .nx 1 [.v (Sc.val .l y7.1),.v (.bool y7.2.1)]) <|
 .jn [.o (.o (.l))] (fun y8 =>
  .ret [Sc.val .l y8.1,.bool (true)]) <|
 .bn y7.2.1 (.qc5 156 [qv1 y2.1] fun y8 =>
  .br (y8 != (0:Int)) (
   .rq ([Value.string x1,Value.bool y2.1.1,Value.slice y2.1.2.1.1 y2.1.2.1.n y2.1.2.1.c,Value.slice y2.1.2.2.1.1 y2.1.2.2.1.n y2.1.2.2.1.c].length=(1:Nat)*(4:Nat)) <|
 .rq (one [Value.string x1,Value.bool y2.1.1,Value.slice y2.1.2.1.1 y2.1.2.1.n y2.1.2.1.c,Value.slice y2.1.2.2.1.1 y2.1.2.2.1.n y2.1.2.2.1.c]=true) <|
 .ap ({ a:=y7.1.1,n:=y7.1.n,c:=y7.1.c:SlV }) 4 72 [.string x1,.bool y2.1.1,Sc.val .l y2.1.2.1,Sc.val .l y2.1.2.2.1] ((1:Nat)) 116 fun y9 =>
   .nx 1 [.v (Sc.val .l y9)]) <|
 .nx 1 [.v (Sc.val .l y7.1)]) <|
 .nx 1 [.v (Sc.val .l y7.1)]
theorem fS_RestAdd x0 x1 x2:qft aS_RestAdd 97 [Sc.val .l x0,.string x1,qv1 x2] (tS_RestAdd x0 x1 x2) :=fitK (by kernel_rfl)
def tS_l08Cur (x0:Addr):T :=
 .fz ((7:Nat)) [.string ({ data:={ toList:=[(67:UInt8),(72:UInt8),(70:UInt8)]:Array UInt8 }:ByteArray }),.string ({ data:={ toList:=[(69:UInt8),(85:UInt8),(82:UInt8)]:Array UInt8 }:ByteArray }),.string ({ data:={ toList:=[(85:UInt8),(83:UInt8),(68:UInt8)]:Array UInt8 }:ByteArray }),.string ({ data:={ toList:=[(74:UInt8),(80:UInt8),(89:UInt8)]:Array UInt8 }:ByteArray }),.string ({ data:={ toList:=[(75:UInt8),(87:UInt8),(68:UInt8)]:Array UInt8 }:ByteArray }),.string ({ data:={ toList:=[(72:UInt8),(85:UInt8),(70:UInt8)]:Array UInt8 }:ByteArray }),.string ({ data:={ toList:=[(67:UInt8),(76:UInt8),(70:UInt8)]:Array UInt8 }:ByteArray })] 9 fun b1 c1 =>
 .qc1 147 [.pointer (some x0),.slice (some { block:=b1,off:=(0:Nat):Addr }) ((7:Nat)) (c1)] fun y2 =>
 .ret [.string y2]
theorem fS_l08Cur x0:qft qa0 98 [.pointer (some x0)] (tS_l08Cur x0) :=fitK (by kernel_rfl)
def tS_l05Draw (x0:Addr) (x1:Int):T :=
 .qc21 157 [.pointer (some x0),.int .i64 x1] fun y1 =>
 .qc5 46 [.pointer (some x0),.int .i64 12] fun y2 =>
 .qc19 158 [.int .i64 (IntKind.i64.wrap ((1:Int)+y2))] fun y3 =>
 .qc18 100 [.pointer (some x0),.int .i64 3] fun y4 =>
 .br y4 (
  .qc19 159 [.pointer (some x0),.int .i64 (IntKind.i64.wrap (x1-(1:Int)))] fun y5 =>
  .qc5 46 [.pointer (some x0),.int .i64 999] fun y6 =>
  .rq ([Value.int IntKind.i64 (IntKind.i64.wrap ((1:Int)+y6))].length=(1:Nat)*(1:Nat)) <|
 .rq (one [Value.int IntKind.i64 (IntKind.i64.wrap ((1:Int)+y6))]=true) <|
 .ap ({ a:=y5.1,n:=y5.n,c:=y5.c:SlV }) 1 8 [.int .i64 (IntKind.i64.wrap ((1:Int)+y6))] ((1:Nat)) 3 fun y7 =>
  .qc10 160 [qv0 y1,qv0 ((false),y7,())] fun y8 =>
  .bn y8.2.1 (.qc9 161 [] fun y9 =>
   .ret [qv1 y9]) <|
 .ret [qv1 y8.1]) <|
 .qc10 160 [qv0 y1,qv0 ((false),y3,())] fun y5 =>
 .bn y5.2.1 (.qc9 161 [] fun y6 =>
  .ret [qv1 y6]) <|
 .ret [qv1 y5.1]
theorem fS_l05Draw x0 x1:qft qa0 99 [.pointer (some x0),.int .i64 x1] (tS_l05Draw x0 x1) :=fitK (by kernel_rfl)
def tS_l01Once (x0:Addr) (x1:Int):T :=
 .qc5 46 [.pointer (some x0),.int .i64 x1] fun y1 =>
 .ret [.bool (y1 == (0:Int))]
theorem fS_l01Once x0 x1:qft qa0 100 [.pointer (some x0),.int .i64 x1] (tS_l01Once x0 x1) :=fitK (by kernel_rfl)
def tS_l17Name (x0:Addr):T :=
 .fz ((9:Nat)) [.string ({ data:={ toList:=[(98:UInt8),(97:UInt8),(110:UInt8),(107:UInt8)]:Array UInt8 }:ByteArray }),.string ({ data:={ toList:=[(98:UInt8),(111:UInt8),(120:UInt8)]:Array UInt8 }:ByteArray }),.string ({ data:={ toList:=[(99:UInt8),(97:UInt8),(115:UInt8),(104:UInt8)]:Array UInt8 }:ByteArray }),.string ({ data:={ toList:=[(102:UInt8),(101:UInt8),(101:UInt8),(115:UInt8)]:Array UInt8 }:ByteArray }),.string ({ data:={ toList:=[(116:UInt8),(97:UInt8),(120:UInt8)]:Array UInt8 }:ByteArray }),.string ({ data:={ toList:=[(110:UInt8),(101:UInt8),(119:UInt8)]:Array UInt8 }:ByteArray }),.string ({ data:={ toList:=[(66:UInt8),(97:UInt8),(100:UInt8)]:Array UInt8 }:ByteArray }),.string ({ data:={ toList:=[(97:UInt8),(98:UInt8),(99:UInt8),(100:UInt8),(101:UInt8),(102:UInt8),(103:UInt8),(104:UInt8),(105:UInt8),(106:UInt8),(107:UInt8),(108:UInt8),(109:UInt8)]:Array UInt8 }:ByteArray }),.string ({ data:={ toList:=[]:Array UInt8 }:ByteArray })] 9 fun b1 c1 =>
 .qc1 147 [.pointer (some x0),.slice (some { block:=b1,off:=(0:Nat):Addr }) ((9:Nat)) (c1)] fun y2 =>
 .ret [.string y2]
theorem fS_l17Name x0:qft qa0 101 [.pointer (some x0)] (tS_l17Name x0) :=fitK (by kernel_rfl)
def aX_IndexFunc_Acct:An:=⟨[(2,[.s 8],[.o (.o (.i .i64))])],[],[]⟩
def tX_IndexFunc_Acct (x0:SlV) (x1:Nat × Addr):T :=
 .lp [.o (.o (.i .i64))] [.v (.int .i64 0)] fun y1 =>
 .br (decide (y1.1<(↑x0.n:Int))) (
  .el x0.1 (x0.n) y1.1 fun y2 =>
  .ql32 (y2.add (Int.toNat y1.1*(4:Nat))) fun y3 =>
  .call false x1.1 [qv10 y3,.pointer (some x1.2)] (.v (.o (.b))) fun y4 =>
  .br y4 (
   .ret [.int .i64 y1.1]) <|
 .nx 0 [.v (.int .i64 (IntKind.i64.wrap (y1.1+(1:Int))))]) <|
 .rM
theorem fX_IndexFunc_Acct x0 x1:qft aX_IndexFunc_Acct 102 [Sc.val .l x0,(Value.func (Fn.func x1.1) { toList:=[]:Array Value } { toList:=[Value.pointer (some x1.2)]:Array Value })] (tX_IndexFunc_Acct x0 x1) :=fitK (by kernel_rfl)
def tI_AcctAt_1 (x0:ByteArray × ByteArray × Bool × SlV × PUnit) (x1:Addr):T :=
 .ld false x1 (.o (.s)) fun y1 =>
 .ret [.bool (ByteArray.toList x0.1 == y1.toList)]
theorem fI_AcctAt_1 x0 x1:qft qa0 103 [qv10 x0,.pointer (some x1)] (tI_AcctAt_1 x0 x1) :=fitK (by kernel_rfl)
def tI_LedgerOk (x0:qy4):T :=
 .qc18 162 [qv3 (x0.1,())] fun y1 =>
 .br y1 (
  .qc18 163 [Sc.val .l x0.2.1] fun y2 =>
  .br y2 (
   .qc18 164 [qv5 x0.2.2] fun y3 =>
   .ret [.bool y3]) <|
 .rF) <|
 .rF
theorem fI_LedgerOk x0:qft qa0 104 [qv4 x0] (tI_LedgerOk x0) :=fitK (by kernel_rfl)
def tI_ledgerCopy (x0:qy4):T :=
 .rg <|
 .qc33 165 [qv3 (x0.1,())] fun y1 =>
 .qc6 166 [Sc.val .l x0.2.1] fun y2 =>
 .qc24 167 [qv5 x0.2.2] fun y3 =>
 .ret [qv4 (y1.1,y2,y3.1,y3.2.1,())]
theorem fI_ledgerCopy x0:qft qa0 105 [qv4 x0] (tI_ledgerCopy x0) :=fitK (by kernel_rfl)
def tS_l01Byte (x0:Addr):T :=
 .ql13 (x0.add (2:Nat)) fun y1 =>
 .st (x0.add (2:Nat)) [.int .i64 (IntKind.i64.wrap (IntKind.i64.wrap (y1*(6364136223846793005:Int))+(1442695040888963407:Int)))] <|
 .rg <|
 .ql34 (x0.add (2:Nat)) fun y2 =>
 .ql34 (x0.add (2:Nat)) fun y3 =>
 .rg <|
 .ql34 (x0.add (1:Nat)) fun y4 =>
 .ql35 (x0.add (0:Nat)) fun y5 =>
 .br (decide (y4<(↑y5.n:Int))) (
  .rg <|
 .ql35 (x0.add (0:Nat)) fun y6 =>
  .ql34 (x0.add (1:Nat)) fun y7 =>
  .el y6.1 (y6.n) y7 fun y8 =>
  .ql36 (y8.add (y7.toNat*(1:Nat))) fun y9 =>
  .ql13 (x0.add (1:Nat)) fun y10 =>
  .st (x0.add (1:Nat)) [.int .i64 (IntKind.i64.wrap (y10+(1:Int)))] <|
 .ret [.int .i64 (IntKind.i64.wrap (↑(BitVec.ofInt (64:Nat) (IntKind.i64.wrap (IntKind.i64.wrap (↑(BitVec.ofInt (64:Nat) (IntKind.i64.wrap (↑(BitVec.ofInt (64:Nat) (y2.fdiv ((2:Int) ^ min (Int.toNat (33:Int)) (64:Nat))) ^^^ BitVec.ofInt (64:Nat) (y3.fdiv ((2:Int) ^ min (Int.toNat (45:Int)) (64:Nat)))).toNat:Int)) &&& BitVec.ofInt (64:Nat) (255:Int)).toNat:Int)+IntKind.i64.wrap y9)) &&& BitVec.ofInt (64:Nat) (255:Int)).toNat:Int))]) <|
 .ret [.int .i64 (IntKind.i64.wrap (↑(BitVec.ofInt (64:Nat) (IntKind.i64.wrap (↑(BitVec.ofInt (64:Nat) (y2.fdiv ((2:Int) ^ min (Int.toNat (33:Int)) (64:Nat))) ^^^ BitVec.ofInt (64:Nat) (y3.fdiv ((2:Int) ^ min (Int.toNat (45:Int)) (64:Nat)))).toNat:Int)) &&& BitVec.ofInt (64:Nat) (255:Int)).toNat:Int))]
theorem fS_l01Byte x0:qft qa0 106 [.pointer (some x0)] (tS_l01Byte x0) :=fitK (by kernel_rfl)
def aI_NatOk:An:=⟨[(4,[.s 24],[.o (.o (.i .i64))])],[],[]⟩
def tI_NatOk (x0:SlV):T :=
 .br (decide ((↑x0.n:Int) > (50:Int))) (
  .rF) <|
 .br (decide ((↑x0.n:Int) > (0:Int))) (
  .el x0.1 (x0.n) (IntKind.i64.wrap ((↑x0.n:Int)-(1:Int))) fun y1 =>
  .ql13 (y1.add ((IntKind.i64.wrap ((↑x0.n:Int)-(1:Int))).toNat*(1:Nat))) fun y2 =>
  .br (y2 == (0:Int)) (
   .rF) <|
 .lp [.o (.o (.i .i64))] [.v (.int .i64 0)] fun y3 =>
  .br (decide (y3.1<(↑x0.n:Int))) (
   .el x0.1 (x0.n) y3.1 fun y4 =>
   .ql13 (y4.add (Int.toNat y3.1*(1:Nat))) fun y5 =>
   .br (decide (y5<(0:Int))) (
    .rF) <|
 .br (decide (y5≥(1000000000:Int))) (
    .rF) <|
 .nx 0 [.v (.int .i64 (IntKind.i64.wrap (y3.1+(1:Int))))]) <|
 .rT) <|
 .lp [.o (.o (.i .i64))] [.v (.int .i64 0)] fun y1 =>
 .br (decide (y1.1<(↑x0.n:Int))) (
  .el x0.1 (x0.n) y1.1 fun y2 =>
  .ql13 (y2.add (Int.toNat y1.1*(1:Nat))) fun y3 =>
  .br (decide (y3<(0:Int))) (
   .rF) <|
 .br (decide (y3≥(1000000000:Int))) (
   .rF) <|
 .nx 0 [.v (.int .i64 (IntKind.i64.wrap (y1.1+(1:Int))))]) <|
 .rT
theorem fI_NatOk x0:qft aI_NatOk 107 [Sc.val .l x0] (tI_NatOk x0) :=fitK (by kernel_rfl)
def aI_natCmp:An:=⟨[(6,[.s 5],[.o (.o (.i .i64))])],[],[]⟩
def tI_natCmp (x0:SlV) (x1:SlV):T :=
 .br ((↑x0.n:Int) != (↑x1.n:Int)) (
  .br (decide ((↑x0.n:Int)<(↑x1.n:Int))) (
   .rM) <|
 .ret [.int .i64 1]) <|
 .lp [.o (.o (.i .i64))] [.v (.int .i64 (IntKind.i64.wrap ((↑x0.n:Int)-(1:Int))))] fun y1 =>
 .br (decide (y1.1≥(0:Int))) (
  .rg <|
 .el x0.1 (x0.n) y1.1 fun y2 =>
  .ql34 (y2.add (Int.toNat y1.1*(1:Nat))) fun y3 =>
  .el x1.1 (x1.n) y1.1 fun y4 =>
  .ql34 (y4.add (Int.toNat y1.1*(1:Nat))) fun y5 =>
  .br (y3 != y5) (
   .rg <|
 .el x0.1 (x0.n) y1.1 fun y6 =>
   .ql34 (y6.add (Int.toNat y1.1*(1:Nat))) fun y7 =>
   .el x1.1 (x1.n) y1.1 fun y8 =>
   .ql34 (y8.add (Int.toNat y1.1*(1:Nat))) fun y9 =>
   .br (decide (y7<y9)) (
    .rM) <|
 .ret [.int .i64 1]) <|
 .nx 0 [.v (.int .i64 (IntKind.i64.wrap (y1.1-(1:Int))))]) <|
 .ret [.int .i64 0]
theorem fI_natCmp x0 x1:qft aI_natCmp 108 [Sc.val .l x0,Sc.val .l x1] (tI_natCmp x0 x1) :=fitK (by kernel_rfl)
def aI_natSmall:An:=⟨[(4,[.s 6,.s 7,.s 8],[.a 3,.o (.o (.i .i64)),.o (.o (.i .i64))])],[],[]⟩
def tI_natSmall (x0:SlV) (x1:Int):T :=
 .rq ((0:Int)≤(↑x0.n:Int)∧(↑x0.n:Int)≤(↑x0.n:Int)∧(↑(8:Nat):Int)*(↑x0.n:Int)≤(281474976710656:Int)∧(↑x0.n:Int)≤(9223372036854775807:Int)) <|
 .lp [.a 3,.o (.o (.i .i64)),.o (.o (.i .i64))] [.a 3 ((↑x0.n:Int).toNat) ((madeCells { toList:=[Value.int IntKind.i64 (0:Int)]:Array Value } ((↑x0.n:Int).toNat*(1:Nat))).toList),.v (.int .i64 0),.v (.int .i64 (IntKind.i64.wrap ((↑x0.n:Int)-(1:Int))))] fun y1 =>
 .br (decide (y1.2.2.1≥(0:Int))) (
  .el x0.1 (x0.n) y1.2.2.1 fun y2 =>
  .ql13 (y2.add (Int.toNat y1.2.2.1*(1:Nat))) fun y3 =>
  .rq (x1≠(0:Int)) <|
 .rq ((0:Int)≤y1.2.2.1∧y1.2.2.1<(↑y1.1.1:Int)) <|
 .rq (Int.toNat y1.2.2.1*(1:Nat)+[Value.int IntKind.i64 (IntKind.i64.wrap ((IntKind.i64.wrap (IntKind.i64.wrap (y1.2.1*(1000000000:Int))+y3)).tdiv x1))].length≤y1.1.2.length) <|
 .rq (x1≠(0:Int)) <|
 .nx 0 [.a 3 y1.1.1 (setl y1.1.2 (Int.toNat y1.2.2.1*(1:Nat)) [Value.int IntKind.i64 (IntKind.i64.wrap ((IntKind.i64.wrap (IntKind.i64.wrap (y1.2.1*(1000000000:Int))+y3)).tdiv x1))]),.v (.int .i64 ((IntKind.i64.wrap (IntKind.i64.wrap (y1.2.1*(1000000000:Int))+y3)).tmod x1)),.v (.int .i64 (IntKind.i64.wrap (y1.2.2.1-(1:Int))))]) <|
 .fz y1.1.1 y1.1.2 3 fun b2 c2 =>
 .qc19 112 [.slice (some { block:=b2,off:=(0:Nat):Addr }) y1.1.1 (c2)] fun y3 =>
 .ret [Sc.val .l y3,.int .i64 y1.2.1]
theorem fI_natSmall x0 x1:qft aI_natSmall 109 [Sc.val .l x0,.int .i64 x1] (tI_natSmall x0 x1) :=fitK (by kernel_rfl)
def aI_natMul:An:=⟨[(3,[.s 5,.s 21],[.a 3,.o (.o (.i .i64))]),(7,[.s 5,.s 8,.s 28],[.a 3,.o (.o (.i .i64)),.o (.o (.i .i64))]),(14,[.s 5,.s 8,.s 11],[.a 3,.o (.o (.i .i64)),.o (.o (.i .i64))])],[],[]⟩
def tI_natMul (x0:SlV) (x1:SlV):T :=
 .rq ((0:Int)≤IntKind.i64.wrap (IntKind.i64.wrap ((↑x0.n:Int)+(↑x1.n:Int))+(1:Int))∧IntKind.i64.wrap (IntKind.i64.wrap ((↑x0.n:Int)+(↑x1.n:Int))+(1:Int))≤IntKind.i64.wrap (IntKind.i64.wrap ((↑x0.n:Int)+(↑x1.n:Int))+(1:Int))∧(↑(8:Nat):Int)*IntKind.i64.wrap (IntKind.i64.wrap ((↑x0.n:Int)+(↑x1.n:Int))+(1:Int))≤(281474976710656:Int)∧IntKind.i64.wrap (IntKind.i64.wrap ((↑x0.n:Int)+(↑x1.n:Int))+(1:Int))≤(9223372036854775807:Int)) <|
 .lp [.a 3,.o (.o (.i .i64))] [.a 3 ((IntKind.i64.wrap (IntKind.i64.wrap ((↑x0.n:Int)+(↑x1.n:Int))+(1:Int))).toNat) ((madeCells { toList:=[Value.int IntKind.i64 (0:Int)]:Array Value } ((IntKind.i64.wrap (IntKind.i64.wrap ((↑x0.n:Int)+(↑x1.n:Int))+(1:Int))).toNat*(1:Nat))).toList),.v (.int .i64 0)] fun y1 =>
 .br (decide (y1.2.1<(↑x0.n:Int))) (
  .el x0.1 (x0.n) y1.2.1 fun y2 =>
  .ql13 (y2.add (Int.toNat y1.2.1*(1:Nat))) fun y3 =>
  .lp [.a 3,.o (.o (.i .i64)),.o (.o (.i .i64))] [.a 3 y1.1.1 y1.1.2,.v (.int .i64 0),.v (.int .i64 0)] fun y4 =>
  .br (decide (y4.2.2.1<(↑x1.n:Int))) (
   .el x1.1 (x1.n) y4.2.2.1 fun y5 =>
   .ql13 (y5.add (Int.toNat y4.2.2.1*(1:Nat))) fun y6 =>
   .rq ((0:Int)≤IntKind.i64.wrap (y1.2.1+y4.2.2.1)∧IntKind.i64.wrap (y1.2.1+y4.2.2.1)<(↑y4.1.1:Int)) <|
 .xs y4.1.2 ((IntKind.i64.wrap (y1.2.1+y4.2.2.1)).toNat*(1:Nat)) (.o (.i .i64)) fun y7 =>
   .rq ((1000000000:Int)≠(0:Int)) <|
 .rq ((0:Int)≤IntKind.i64.wrap (y1.2.1+y4.2.2.1)∧IntKind.i64.wrap (y1.2.1+y4.2.2.1)<(↑y4.1.1:Int)) <|
 .rq ((IntKind.i64.wrap (y1.2.1+y4.2.2.1)).toNat*(1:Nat)+[Value.int IntKind.i64 ((IntKind.i64.wrap (y4.2.1+IntKind.i64.wrap (y7+IntKind.i64.wrap (y3*y6)))).tmod (1000000000:Int))].length≤y4.1.2.length) <|
 .rq ((1000000000:Int)≠(0:Int)) <|
 .nx 1 [.a 3 y4.1.1 (setl y4.1.2 ((IntKind.i64.wrap (y1.2.1+y4.2.2.1)).toNat*(1:Nat)) [Value.int IntKind.i64 ((IntKind.i64.wrap (y4.2.1+IntKind.i64.wrap (y7+IntKind.i64.wrap (y3*y6)))).tmod (1000000000:Int))]),.v (.int .i64 (IntKind.i64.wrap ((IntKind.i64.wrap (y4.2.1+IntKind.i64.wrap (y7+IntKind.i64.wrap (y3*y6)))).tdiv (1000000000:Int)))),.v (.int .i64 (IntKind.i64.wrap (y4.2.2.1+(1:Int))))]) <|
 .lp [.a 3,.o (.o (.i .i64)),.o (.o (.i .i64))] [.a 3 y4.1.1 y4.1.2,.v (.int .i64 y4.2.1),.v (.int .i64 (IntKind.i64.wrap (y1.2.1+(↑x1.n:Int))))] fun y5 =>
  .br (decide (y5.2.1 > (0:Int))) (
   .rq ((0:Int)≤y5.2.2.1∧y5.2.2.1<(↑y5.1.1:Int)) <|
 .xs y5.1.2 (Int.toNat y5.2.2.1*(1:Nat)) (.o (.i .i64)) fun y6 =>
   .rq ((1000000000:Int)≠(0:Int)) <|
 .rq ((0:Int)≤y5.2.2.1∧y5.2.2.1<(↑y5.1.1:Int)) <|
 .rq (Int.toNat y5.2.2.1*(1:Nat)+[Value.int IntKind.i64 ((IntKind.i64.wrap (y5.2.1+y6)).tmod (1000000000:Int))].length≤y5.1.2.length) <|
 .rq ((1000000000:Int)≠(0:Int)) <|
 .nx 2 [.a 3 y5.1.1 (setl y5.1.2 (Int.toNat y5.2.2.1*(1:Nat)) [Value.int IntKind.i64 ((IntKind.i64.wrap (y5.2.1+y6)).tmod (1000000000:Int))]),.v (.int .i64 (IntKind.i64.wrap ((IntKind.i64.wrap (y5.2.1+y6)).tdiv (1000000000:Int)))),.v (.int .i64 (IntKind.i64.wrap (y5.2.2.1+(1:Int))))]) <|
 .nx 0 [.a 3 y5.1.1 y5.1.2,.v (.int .i64 (IntKind.i64.wrap (y1.2.1+(1:Int))))]) <|
 .fz y1.1.1 y1.1.2 3 fun b2 c2 =>
 .qc19 112 [.slice (some { block:=b2,off:=(0:Nat):Addr }) y1.1.1 (c2)] fun y3 =>
 .ret [Sc.val .l y3]
theorem fI_natMul x0 x1:qft aI_natMul 110 [Sc.val .l x0,Sc.val .l x1] (tI_natMul x0 x1) :=fitK (by kernel_rfl)
def aI_divStep:An:=⟨[(4,[.s 7],[.o (.o (.i .i64))])],[],[]⟩
def tI_divStep (x0:SlV) (x1:SlV):T :=
 .rg <|
 .el x0.1 (x0.n) ((↑x1.n:Int)) fun y1 =>
 .ql34 (y1.add ((↑x1.n:Int).toNat*(1:Nat))) fun y2 =>
 .el x0.1 (x0.n) (IntKind.i64.wrap ((↑x1.n:Int)-(1:Int))) fun y3 =>
 .ql34 (y3.add ((IntKind.i64.wrap ((↑x1.n:Int)-(1:Int))).toNat*(1:Nat))) fun y4 =>
 .el x1.1 (x1.n) (IntKind.i64.wrap ((↑x1.n:Int)-(1:Int))) fun y5 =>
 .ql13 (y5.add ((IntKind.i64.wrap ((↑x1.n:Int)-(1:Int))).toNat*(1:Nat))) fun y6 =>
 .rq (y6≠(0:Int)) <|
 .lp [.o (.o (.i .i64))] [.v (.int .i64 (if (999999999:Int)<IntKind.i64.wrap ((IntKind.i64.wrap (IntKind.i64.wrap (y2*(1000000000:Int))+y4)).tdiv y6) then (999999999:Int) else IntKind.i64.wrap ((IntKind.i64.wrap (IntKind.i64.wrap (y2*(1000000000:Int))+y4)).tdiv y6)))] fun y7 =>
 .rg <|
 .br (decide (y7.1 > (0:Int))) (
  .el x1.1 (x1.n) (IntKind.i64.wrap ((↑x1.n:Int)-(1:Int))) fun y8 =>
  .ql34 (y8.add ((IntKind.i64.wrap ((↑x1.n:Int)-(1:Int))).toNat*(1:Nat))) fun y9 =>
  .br (decide (IntKind.i64.wrap (IntKind.i64.wrap (IntKind.i64.wrap (y2*(1000000000:Int))+y4)-IntKind.i64.wrap (y7.1*y9))<(1000000000:Int))) (
   .el x1.1 (x1.n) (IntKind.i64.wrap ((↑x1.n:Int)-(2:Int))) fun y10 =>
   .ql34 (y10.add ((IntKind.i64.wrap ((↑x1.n:Int)-(2:Int))).toNat*(1:Nat))) fun y11 =>
   .el x1.1 (x1.n) (IntKind.i64.wrap ((↑x1.n:Int)-(1:Int))) fun y12 =>
   .ql34 (y12.add ((IntKind.i64.wrap ((↑x1.n:Int)-(1:Int))).toNat*(1:Nat))) fun y13 =>
   .el x0.1 (x0.n) (IntKind.i64.wrap ((↑x1.n:Int)-(2:Int))) fun y14 =>
   .ql34 (y14.add ((IntKind.i64.wrap ((↑x1.n:Int)-(2:Int))).toNat*(1:Nat))) fun y15 =>
   .br (decide (IntKind.i64.wrap (y7.1*y11) > IntKind.i64.wrap (IntKind.i64.wrap (IntKind.i64.wrap (IntKind.i64.wrap (IntKind.i64.wrap (y2*(1000000000:Int))+y4)-IntKind.i64.wrap (y7.1*y13))*(1000000000:Int))+y15))) (
    .nx 0 [.v (.int .i64 (IntKind.i64.wrap (y7.1-(1:Int))))]) <|
 .qc18 168 [Sc.val .l x0,Sc.val .l x1,.int .i64 y7.1] fun y16 =>
   .br y16 (
    .qc37 169 [Sc.val .l x0,Sc.val .l x1] fun _ =>
    .ret [.int .i64 (IntKind.i64.wrap (y7.1-(1:Int)))]) <|
 .ret [.int .i64 y7.1]) <|
 .qc18 168 [Sc.val .l x0,Sc.val .l x1,.int .i64 y7.1] fun y10 =>
  .br y10 (
   .qc37 169 [Sc.val .l x0,Sc.val .l x1] fun _ =>
   .ret [.int .i64 (IntKind.i64.wrap (y7.1-(1:Int)))]) <|
 .ret [.int .i64 y7.1]) <|
 .qc18 168 [Sc.val .l x0,Sc.val .l x1,.int .i64 y7.1] fun y8 =>
 .br y8 (
  .qc37 169 [Sc.val .l x0,Sc.val .l x1] fun _ =>
  .ret [.int .i64 (IntKind.i64.wrap (y7.1-(1:Int)))]) <|
 .ret [.int .i64 y7.1]
theorem fI_divStep x0 x1:qft aI_divStep 111 [Sc.val .l x0,Sc.val .l x1] (tI_divStep x0 x1) :=fitK (by kernel_rfl)
def aI_trim:An:=⟨[(1,[.s 0],[.o (.o (.l))])],[],[]⟩
def tI_trim (x0:SlV):T :=
 .lp [.o (.o (.l))] [.v (Sc.val .l x0)] fun y1 =>
 .br (decide ((↑y1.1.n:Int) > (0:Int))) (
  .el y1.1.1 (y1.1.n) (IntKind.i64.wrap ((↑y1.1.n:Int)-(1:Int))) fun y2 =>
  .ql13 (y2.add ((IntKind.i64.wrap ((↑y1.1.n:Int)-(1:Int))).toNat*(1:Nat))) fun y3 =>
  .br (y3 == (0:Int)) (
   .rq ((0:Int)≤(0:Int)∧(0:Int)≤IntKind.i64.wrap ((↑y1.1.n:Int)-(1:Int))∧IntKind.i64.wrap ((↑y1.1.n:Int)-(1:Int))≤(↑y1.1.c:Int)∧(↑y1.1.c:Int)≤(↑y1.1.c:Int)) <|
 .nx 0 [.v (.slice (if (↑y1.1.c:Int).toNat=Int.toNat (0:Int) then y1.1.1 else Option.map (fun x=>x.add (Int.toNat (0:Int)*Go.Proofs.Tryz.prog.types[(3:Nat)].size)) y1.1.1) ((IntKind.i64.wrap ((↑y1.1.n:Int)-(1:Int))).toNat-Int.toNat (0:Int)) ((↑y1.1.c:Int).toNat-Int.toNat (0:Int)))]) <|
 .ret [Sc.val .l y1.1]) <|
 .ret [Sc.val .l y1.1]
theorem fI_trim x0:qft aI_trim 112 [Sc.val .l x0] (tI_trim x0) :=fitK (by kernel_rfl)
def tI_signed (x0:Bool) (x1:SlV):T :=
 .br x0 (
  .ret [qv0 ((decide ((↑x1.n:Int) > (0:Int))),x1,())]) <|
 .ret [qv0 ((false),x1,())]
theorem fI_signed x0 x1:qft qa0 113 [.bool x0,Sc.val .l x1] (tI_signed x0 x1) :=fitK (by kernel_rfl)
def aI_natAdd:An:=⟨[(4,[.s 5,.s 6,.s 7],[.a 3,.o (.o (.i .i64)),.o (.o (.i .i64))])],[],[]⟩
def tI_natAdd (x0:SlV) (x1:SlV):T :=
 .rq ((0:Int)≤(0:Int)∧(0:Int)≤IntKind.i64.wrap ((if (↑x1.n:Int) > (↑x0.n:Int) then (↑x1.n:Int) else (↑x0.n:Int))+(1:Int))∧(↑(8:Nat):Int)*IntKind.i64.wrap ((if (↑x1.n:Int) > (↑x0.n:Int) then (↑x1.n:Int) else (↑x0.n:Int))+(1:Int))≤(281474976710656:Int)∧IntKind.i64.wrap ((if (↑x1.n:Int) > (↑x0.n:Int) then (↑x1.n:Int) else (↑x0.n:Int))+(1:Int))≤(9223372036854775807:Int)) <|
 .lp [.a 3,.o (.o (.i .i64)),.o (.o (.i .i64))] [.a 3 (Int.toNat (0:Int)) [],.v (.int .i64 0),.v (.int .i64 0)] fun y1 =>
 .br (decide (y1.2.2.1<if (↑x1.n:Int) > (↑x0.n:Int) then (↑x1.n:Int) else (↑x0.n:Int))) (
  .br (decide (y1.2.2.1<(↑x0.n:Int))) (
   .el x0.1 (x0.n) y1.2.2.1 fun y2 =>
   .ql13 (y2.add (Int.toNat y1.2.2.1*(1:Nat))) fun y3 =>
   .br (decide (y1.2.2.1<(↑x1.n:Int))) (
    .el x1.1 (x1.n) y1.2.2.1 fun y4 =>
    .ql13 (y4.add (Int.toNat y1.2.2.1*(1:Nat))) fun y5 =>
    .rq ((1000000000:Int)≠(0:Int)) <|
 .rq ([Value.int IntKind.i64 ((IntKind.i64.wrap (IntKind.i64.wrap (y1.2.1+y3)+y5)).tmod (1000000000:Int))].length=(1:Nat)*(1:Nat)) <|
 .rq (one [Value.int IntKind.i64 ((IntKind.i64.wrap (IntKind.i64.wrap (y1.2.1+y3)+y5)).tmod (1000000000:Int))]=true∧(y1.1.1+(1:Nat))*(8:Nat)≤(140737488355328:Nat)∧y1.1.1+(1:Nat)≤(9223372036854775807:Nat)) <|
 .rq ((1000000000:Int)≠(0:Int)) <|
 .nx 0 [.a 3 (y1.1.1+(1:Nat)) (y1.1.2++[Value.int IntKind.i64 ((IntKind.i64.wrap (IntKind.i64.wrap (y1.2.1+y3)+y5)).tmod (1000000000:Int))]),.v (.int .i64 (IntKind.i64.wrap ((IntKind.i64.wrap (IntKind.i64.wrap (y1.2.1+y3)+y5)).tdiv (1000000000:Int)))),.v (.int .i64 (IntKind.i64.wrap (y1.2.2.1+(1:Int))))]) <|
 .rq ((1000000000:Int)≠(0:Int)) <|
 .rq ([Value.int IntKind.i64 ((IntKind.i64.wrap (y1.2.1+y3)).tmod (1000000000:Int))].length=(1:Nat)*(1:Nat)) <|
 .rq (one [Value.int IntKind.i64 ((IntKind.i64.wrap (y1.2.1+y3)).tmod (1000000000:Int))]=true∧(y1.1.1+(1:Nat))*(8:Nat)≤(140737488355328:Nat)∧y1.1.1+(1:Nat)≤(9223372036854775807:Nat)) <|
 .rq ((1000000000:Int)≠(0:Int)) <|
 .nx 0 [.a 3 (y1.1.1+(1:Nat)) (y1.1.2++[Value.int IntKind.i64 ((IntKind.i64.wrap (y1.2.1+y3)).tmod (1000000000:Int))]),.v (.int .i64 (IntKind.i64.wrap ((IntKind.i64.wrap (y1.2.1+y3)).tdiv (1000000000:Int)))),.v (.int .i64 (IntKind.i64.wrap (y1.2.2.1+(1:Int))))]) <|
 .br (decide (y1.2.2.1<(↑x1.n:Int))) (
   .el x1.1 (x1.n) y1.2.2.1 fun y2 =>
   .ql13 (y2.add (Int.toNat y1.2.2.1*(1:Nat))) fun y3 =>
   .rq ((1000000000:Int)≠(0:Int)) <|
 .rq ([Value.int IntKind.i64 ((IntKind.i64.wrap (y1.2.1+y3)).tmod (1000000000:Int))].length=(1:Nat)*(1:Nat)) <|
 .rq (one [Value.int IntKind.i64 ((IntKind.i64.wrap (y1.2.1+y3)).tmod (1000000000:Int))]=true∧(y1.1.1+(1:Nat))*(8:Nat)≤(140737488355328:Nat)∧y1.1.1+(1:Nat)≤(9223372036854775807:Nat)) <|
 .rq ((1000000000:Int)≠(0:Int)) <|
 .nx 0 [.a 3 (y1.1.1+(1:Nat)) (y1.1.2++[Value.int IntKind.i64 ((IntKind.i64.wrap (y1.2.1+y3)).tmod (1000000000:Int))]),.v (.int .i64 (IntKind.i64.wrap ((IntKind.i64.wrap (y1.2.1+y3)).tdiv (1000000000:Int)))),.v (.int .i64 (IntKind.i64.wrap (y1.2.2.1+(1:Int))))]) <|
 .rq ((1000000000:Int)≠(0:Int)) <|
 .rq ([Value.int IntKind.i64 (Int.tmod y1.2.1 (1000000000:Int))].length=(1:Nat)*(1:Nat)) <|
 .rq (one [Value.int IntKind.i64 (Int.tmod y1.2.1 (1000000000:Int))]=true∧(y1.1.1+(1:Nat))*(8:Nat)≤(140737488355328:Nat)∧y1.1.1+(1:Nat)≤(9223372036854775807:Nat)) <|
 .rq ((1000000000:Int)≠(0:Int)) <|
 .nx 0 [.a 3 (y1.1.1+(1:Nat)) (y1.1.2++[Value.int IntKind.i64 (Int.tmod y1.2.1 (1000000000:Int))]),.v (.int .i64 (IntKind.i64.wrap (Int.tdiv y1.2.1 (1000000000:Int)))),.v (.int .i64 (IntKind.i64.wrap (y1.2.2.1+(1:Int))))]) <|
 .rq ([Value.int IntKind.i64 y1.2.1].length=(1:Nat)*(1:Nat)) <|
 .rq (one [Value.int IntKind.i64 y1.2.1]=true∧(y1.1.1+(1:Nat))*(8:Nat)≤(140737488355328:Nat)∧y1.1.1+(1:Nat)≤(9223372036854775807:Nat)) <|
 .fz (y1.1.1+(1:Nat)) (y1.1.2++[Value.int IntKind.i64 y1.2.1]) 3 fun b2 c2 =>
 .qc19 112 [.slice (some { block:=b2,off:=(0:Nat):Addr }) (y1.1.1+(1:Nat)) (c2)] fun y3 =>
 .ret [Sc.val .l y3]
theorem fI_natAdd x0 x1:qft aI_natAdd 114 [Sc.val .l x0,Sc.val .l x1] (tI_natAdd x0 x1) :=fitK (by kernel_rfl)
def aI_natSub:An:=⟨[(4,[.s 5,.s 6,.s 14],[.a 3,.o (.o (.i .i64)),.o (.o (.i .i64))])],[],[]⟩
def tI_natSub (x0:SlV) (x1:SlV):T :=
 .rq ((0:Int)≤(↑x0.n:Int)∧(↑x0.n:Int)≤(↑x0.n:Int)∧(↑(8:Nat):Int)*(↑x0.n:Int)≤(281474976710656:Int)∧(↑x0.n:Int)≤(9223372036854775807:Int)) <|
 .lp [.a 3,.o (.o (.i .i64)),.o (.o (.i .i64))] [.a 3 ((↑x0.n:Int).toNat) ((madeCells { toList:=[Value.int IntKind.i64 (0:Int)]:Array Value } ((↑x0.n:Int).toNat*(1:Nat))).toList),.v (.int .i64 0),.v (.int .i64 0)] fun y1 =>
 .br (decide (y1.2.2.1<(↑x0.n:Int))) (
  .el x0.1 (x0.n) y1.2.2.1 fun y2 =>
  .ql13 (y2.add (Int.toNat y1.2.2.1*(1:Nat))) fun y3 =>
  .br (decide (y1.2.2.1<(↑x1.n:Int))) (
   .el x1.1 (x1.n) y1.2.2.1 fun y4 =>
   .ql13 (y4.add (Int.toNat y1.2.2.1*(1:Nat))) fun y5 =>
   .br (decide (IntKind.i64.wrap (IntKind.i64.wrap (y3-y1.2.1)-y5)<(0:Int))) (
    .rq ((0:Int)≤y1.2.2.1∧y1.2.2.1<(↑y1.1.1:Int)) <|
 .rq (Int.toNat y1.2.2.1*(1:Nat)+[Value.int IntKind.i64 (IntKind.i64.wrap (IntKind.i64.wrap (IntKind.i64.wrap (y3-y1.2.1)-y5)+(1000000000:Int)))].length≤y1.1.2.length) <|
 .nx 0 [.a 3 y1.1.1 (setl y1.1.2 (Int.toNat y1.2.2.1*(1:Nat)) [Value.int IntKind.i64 (IntKind.i64.wrap (IntKind.i64.wrap (IntKind.i64.wrap (y3-y1.2.1)-y5)+(1000000000:Int)))]),.v (.int .i64 1),.v (.int .i64 (IntKind.i64.wrap (y1.2.2.1+(1:Int))))]) <|
 .rq ((0:Int)≤y1.2.2.1∧y1.2.2.1<(↑y1.1.1:Int)) <|
 .rq (Int.toNat y1.2.2.1*(1:Nat)+[Value.int IntKind.i64 (IntKind.i64.wrap (IntKind.i64.wrap (y3-y1.2.1)-y5))].length≤y1.1.2.length) <|
 .nx 0 [.a 3 y1.1.1 (setl y1.1.2 (Int.toNat y1.2.2.1*(1:Nat)) [Value.int IntKind.i64 (IntKind.i64.wrap (IntKind.i64.wrap (y3-y1.2.1)-y5))]),.v (.int .i64 0),.v (.int .i64 (IntKind.i64.wrap (y1.2.2.1+(1:Int))))]) <|
 .br (decide (IntKind.i64.wrap (y3-y1.2.1)<(0:Int))) (
   .rq ((0:Int)≤y1.2.2.1∧y1.2.2.1<(↑y1.1.1:Int)) <|
 .rq (Int.toNat y1.2.2.1*(1:Nat)+[Value.int IntKind.i64 (IntKind.i64.wrap (IntKind.i64.wrap (y3-y1.2.1)+(1000000000:Int)))].length≤y1.1.2.length) <|
 .nx 0 [.a 3 y1.1.1 (setl y1.1.2 (Int.toNat y1.2.2.1*(1:Nat)) [Value.int IntKind.i64 (IntKind.i64.wrap (IntKind.i64.wrap (y3-y1.2.1)+(1000000000:Int)))]),.v (.int .i64 1),.v (.int .i64 (IntKind.i64.wrap (y1.2.2.1+(1:Int))))]) <|
 .rq ((0:Int)≤y1.2.2.1∧y1.2.2.1<(↑y1.1.1:Int)) <|
 .rq (Int.toNat y1.2.2.1*(1:Nat)+[Value.int IntKind.i64 (IntKind.i64.wrap (y3-y1.2.1))].length≤y1.1.2.length) <|
 .nx 0 [.a 3 y1.1.1 (setl y1.1.2 (Int.toNat y1.2.2.1*(1:Nat)) [Value.int IntKind.i64 (IntKind.i64.wrap (y3-y1.2.1))]),.v (.int .i64 0),.v (.int .i64 (IntKind.i64.wrap (y1.2.2.1+(1:Int))))]) <|
 .fz y1.1.1 y1.1.2 3 fun b2 c2 =>
 .qc19 112 [.slice (some { block:=b2,off:=(0:Nat):Addr }) y1.1.1 (c2)] fun y3 =>
 .ret [Sc.val .l y3]
theorem fI_natSub x0 x1:qft aI_natSub 115 [Sc.val .l x0,Sc.val .l x1] (tI_natSub x0 x1) :=fitK (by kernel_rfl)
def tI_RatOk (x0:qy1):T :=
 .qc18 62 [qv0 (x0.1,x0.2.1,())] fun y1 =>
 .bF y1 <|
 .qc18 107 [Sc.val .l x0.2.2.1] fun y2 =>
 .bF y2 <|
 .br ((↑x0.2.2.1.n:Int) == (0:Int)) (
  .rF) <|
 .br (decide ((↑x0.2.2.1.n:Int) > (18:Int))) (
  .rF) <|
 .br (decide ((↑x0.2.1.n:Int) > (18:Int))) (
  .rF) <|
 .qc19 170 [Sc.val .l x0.2.1,Sc.val .l x0.2.2.1] fun y3 =>
 .br ((↑y3.n:Int) == (1:Int)) (
  .el y3.1 (y3.n) ((0:Int)) fun y4 =>
  .ql13 (y4.add (Int.toNat (0:Int)*(1:Nat))) fun y5 =>
  .ret [.bool (y5 == (1:Int))]) <|
 .rF
theorem fI_RatOk x0:qft qa0 116 [qv1 x0] (tI_RatOk x0) :=fitK (by kernel_rfl)
def tI_reduce (x0:qy0) (x1:SlV):T :=
 .qc19 170 [Sc.val .l x0.2.1,Sc.val .l x1] fun y1 =>
 .qc7 49 [Sc.val .l x0.2.1,Sc.val .l y1] fun y2 =>
 .qc7 49 [Sc.val .l x1,Sc.val .l y1] fun y3 =>
 .br (decide ((↑y2.1.n:Int) > (18:Int))) (
  .ret [qv1 ((false),nilS,nilS,()),.bool (false)]) <|
 .br (decide ((↑y3.1.n:Int) > (18:Int))) (
  .ret [qv1 ((false),nilS,nilS,()),.bool (false)]) <|
 .qc21 113 [.bool x0.1,Sc.val .l y2.1] fun y4 =>
 .ret [qv1 (y4.1,y4.2.1,y3.1,()),.bool (true)]
theorem fI_reduce x0 x1:qft qa0 117 [qv0 x0,Sc.val .l x1] (tI_reduce x0 x1) :=fitK (by kernel_rfl)
def tI_intSign (x0:qy0):T :=
 .br ((↑x0.2.1.n:Int) == (0:Int)) (
  .ret [.int .i64 0]) <|
 .br x0.1 (
  .rM) <|
 .ret [.int .i64 1]
theorem fI_intSign x0:qft qa0 118 [qv0 x0] (tI_intSign x0) :=fitK (by kernel_rfl)
def tI_CurKnown (x0:ByteArray):T :=
 .qc17 47 [.string x0] fun y1 =>
 .ret [.bool y1.2.1]
theorem fI_CurKnown x0:qft qa0 119 [.string x0] (tI_CurKnown x0) :=fitK (by kernel_rfl)
def aS_BookOk:An:=⟨[(2,[.s 8],[.o (.o (.i .i64))])],[],[]⟩
def tS_BookOk (x0:qy3):T :=
 .lp [.o (.o (.i .i64))] [.v (.int .i64 0)] fun y1 =>
 .br (decide (y1.1<(↑x0.1.n:Int))) (
  .el x0.1.1 (x0.1.n) y1.1 fun y2 =>
  .ql32 (y2.add (Int.toNat y1.1*(4:Nat))) fun y3 =>
  .rg <|
 .qc38 72 [.string y3.1] fun y4 =>
  .bF y4 <|
 .qc38 128 [qv2 y3.2] fun y5 =>
  .bF y5 <|
 .br (decide (y1.1 > (0:Int))) (
   .el x0.1.1 (x0.1.n) (IntKind.i64.wrap (y1.1-(1:Int))) fun y6 =>
   .ql39 ((y6.add ((IntKind.i64.wrap (y1.1-(1:Int))).toNat*(4:Nat))).add (0:Nat)) fun y7 =>
   .br (!Op.bytesLess y7.toList (ByteArray.toList y3.1)) (
    .rF) <|
 .nx 0 [.v (.int .i64 (IntKind.i64.wrap (y1.1+(1:Int))))]) <|
 .nx 0 [.v (.int .i64 (IntKind.i64.wrap (y1.1+(1:Int))))]) <|
 .ret [.bool (decide ((↑x0.1.n:Int)≤(12:Int)))]
theorem fS_BookOk x0:qft aS_BookOk 124 [qv3 x0] (tS_BookOk x0) :=fitK (by kernel_rfl)
def aS_RestsOk:An:=⟨[(2,[.s 7],[.o (.o (.i .i64))])],[],[]⟩
def tS_RestsOk (x0:SlV):T :=
 .lp [.o (.o (.i .i64))] [.v (.int .i64 0)] fun y1 =>
 .br (decide (y1.1<(↑x0.n:Int))) (
  .el x0.1 (x0.n) y1.1 fun y2 =>
  .ql20 (y2.add (Int.toNat y1.1*(4:Nat))) fun y3 =>
  .rg <|
 .qc38 154 [.string y3.1] fun y4 =>
  .bF y4 <|
 .qc38 174 [qv1 y3.2] fun y5 =>
  .bF y5 <|
 .qc3 156 [qv1 y3.2] fun y6 =>
  .br (y6 == (0:Int)) (
   .rF) <|
 .br (decide (y1.1 > (0:Int))) (
   .el x0.1 (x0.n) (IntKind.i64.wrap (y1.1-(1:Int))) fun y7 =>
   .ql39 ((y7.add ((IntKind.i64.wrap (y1.1-(1:Int))).toNat*(4:Nat))).add (0:Nat)) fun y8 =>
   .br (!Op.bytesLess y8.toList (ByteArray.toList y3.1)) (
    .rF) <|
 .nx 0 [.v (.int .i64 (IntKind.i64.wrap (y1.1+(1:Int))))]) <|
 .nx 0 [.v (.int .i64 (IntKind.i64.wrap (y1.1+(1:Int))))]) <|
 .rT
theorem fS_RestsOk x0:qft aS_RestsOk 125 [Sc.val .l x0] (tS_RestsOk x0) :=fitK (by kernel_rfl)
def aS_RatesOk:An:=⟨[(4,[.s 18],[.o (.o (.i .i64))])],[],[]⟩
def tS_RatesOk (x0:qy5):T :=
 .qc18 154 [.string x0.1] fun y1 =>
 .bF y1 <|
 .br (decide ((↑x0.2.1.n:Int) > (12:Int))) (
  .rF) <|
 .lp [.o (.o (.i .i64))] [.v (.int .i64 0)] fun y2 =>
 .br (decide (y2.1<(↑x0.2.1.n:Int))) (
  .el x0.2.1.1 (x0.2.1.n) y2.1 fun y3 =>
  .ql40 (y3.add (Int.toNat y2.1*(5:Nat))) fun y4 =>
  .qc18 175 [qv6 y4] fun y5 =>
  .bF y5 <|
 .qc5 176 [Sc.val .l x0.2.1,.string y4.1,.string y4.2.1] fun y6 =>
  .br (y6 != y2.1) (
   .rF) <|
 .nx 0 [.v (.int .i64 (IntKind.i64.wrap (y2.1+(1:Int))))]) <|
 .rT
theorem fS_RatesOk x0:qft aS_RatesOk 126 [qv5 x0] (tS_RatesOk x0) :=fitK (by kernel_rfl)
def aS_l01All:An:=⟨[(2,[.s 11],[.o (.o (.i .i64))])],[],[]⟩
def tS_l01All (x0:ByteArray) (x1:Int) (x2:Int) (x3:Int) (x4:Int):T :=
 .lp [.o (.o (.i .i64))] [.v (.int .i64 0)] fun y1 =>
 .br (decide (y1.1<(↑x0.size:Int))) (
  .rq ((0:Int)≤y1.1∧y1.1<(↑x0.size:Int)) <|
 .br (decide (at0 x0 (Int.toNat y1.1)<x1)) (
   .rq ((0:Int)≤y1.1∧y1.1<(↑x0.size:Int)) <|
 .br (decide (at0 x0 (Int.toNat y1.1)<x3)) (
    .rF) <|
 .rq ((0:Int)≤y1.1∧y1.1<(↑x0.size:Int)) <|
 .br (decide (at0 x0 (Int.toNat y1.1) > x4)) (
    .rF) <|
 .nx 0 [.v (.int .i64 (IntKind.i64.wrap (y1.1+(1:Int))))]) <|
 .rq ((0:Int)≤y1.1∧y1.1<(↑x0.size:Int)) <|
 .br (decide (at0 x0 (Int.toNat y1.1) > x2)) (
   .rq ((0:Int)≤y1.1∧y1.1<(↑x0.size:Int)) <|
 .br (decide (at0 x0 (Int.toNat y1.1)<x3)) (
    .rF) <|
 .rq ((0:Int)≤y1.1∧y1.1<(↑x0.size:Int)) <|
 .br (decide (at0 x0 (Int.toNat y1.1) > x4)) (
    .rF) <|
 .nx 0 [.v (.int .i64 (IntKind.i64.wrap (y1.1+(1:Int))))]) <|
 .nx 0 [.v (.int .i64 (IntKind.i64.wrap (y1.1+(1:Int))))]) <|
 .ret [.bool (decide ((↑x0.size:Int) > (0:Int)))]
theorem fS_l01All x0 x1 x2 x3 x4:qft aS_l01All 127 [.string x0,.int .u8 x1,.int .u8 x2,.int .u8 x3,.int .u8 x4] (tS_l01All x0 x1 x2 x3 x4) :=fitK (by kernel_rfl)
def tS_MoneyOk (x0:qy2):T :=
 .qc18 154 [.string x0.1] fun y1 =>
 .br y1 (
  .qc18 177 [qv0 x0.2] fun y2 =>
  .br y2 (
   .ret [.bool (decide ((↑x0.2.2.1.n:Int)≤(4:Int)))]) <|
 .rF) <|
 .rF
theorem fS_MoneyOk x0:qft qa0 128 [qv2 x0] (tS_MoneyOk x0) :=fitK (by kernel_rfl)
def tS_l01In (x0:Int) (x1:Int) (x2:Int):T :=
 .br (decide (x0≥x1)) (
  .ret [.bool (decide (x0≤x2))]) <|
 .rF
theorem fS_l01In x0 x1 x2:qft qa0 129 [.int .i64 x0,.int .i64 x1,.int .i64 x2] (tS_l01In x0 x1 x2) :=fitK (by kernel_rfl)
def aS_AcctAt:An:=⟨[(2,[.s 10],[.o (.o (.i .i64))])],[],[]⟩
def tS_AcctAt (x0:qy3) (x1:ByteArray):T :=
 .lp [.o (.o (.i .i64))] [.v (.int .i64 0)] fun y1 =>
 .br (decide (y1.1<(↑x0.1.n:Int))) (
  .el x0.1.1 (x0.1.n) y1.1 fun y2 =>
  .ql32 (y2.add (Int.toNat y1.1*(4:Nat))) fun y3 =>
  .br (ByteArray.toList y3.1 == x1.toList) (
   .ret [.int .i64 y1.1]) <|
 .nx 0 [.v (.int .i64 (IntKind.i64.wrap (y1.1+(1:Int))))]) <|
 .rM
theorem fS_AcctAt x0 x1:qft aS_AcctAt 133 [qv3 x0,.string x1] (tS_AcctAt x0 x1) :=fitK (by kernel_rfl)
def tS_BookPost (x0:qy3) (x1:ByteArray) (x2:qy2):T :=
 .qc5 133 [qv3 x0,.string x1] fun y1 =>
 .qc18 124 [qv3 x0] fun y2 =>
 .bn y2 (.ret [qv3 (nilS,()),.bool (false)]) <|
 .br (decide (y1<(0:Int))) (
  .ret [qv3 (nilS,()),.bool (false)]) <|
 .rg <|
 .el x0.1.1 (x0.1.n) y1 fun y3 =>
 .ql41 ((y3.add (y1.toNat*(4:Nat))).add (1:Nat)) fun y4 =>
 .qc2 190 [qv2 y4,qv2 x2] fun y5 =>
 .bn y5.2.1 (.ret [qv3 (nilS,()),.bool (false)]) <|
 .qc23 188 [qv3 x0] fun y6 =>
 .el y6.1.1 (y6.1.n) y1 fun y7 =>
 .st ((y7.add (y1.toNat*(4:Nat))).add (1:Nat)) [.string y5.1.1,.bool y5.1.2.1,Sc.val .l y5.1.2.2.1] <|
 .ret [qv3 y6,.bool (true)]
theorem fS_BookPost x0 x1 x2:qft qa0 135 [qv3 x0,.string x1,qv2 x2] (tS_BookPost x0 x1 x2) :=fitK (by kernel_rfl)
def tS_l01Str (x0:Addr) (x1:SlV):T :=
 .qc5 46 [.pointer (some x0),.int .i64 ((↑x1.n:Int))] fun y1 =>
 .el x1.1 (x1.n) y1 fun y2 =>
 .ql42 (y2.add (y1.toNat*(1:Nat))) fun y3 =>
 .ret [.string y3]
theorem fS_l01Str x0 x1:qft qa0 147 [.pointer (some x0),Sc.val .l x1] (tS_l01Str x0 x1) :=fitK (by kernel_rfl)
end
end Go.Proofs.YtfiakghfncempaaGreatDoor
