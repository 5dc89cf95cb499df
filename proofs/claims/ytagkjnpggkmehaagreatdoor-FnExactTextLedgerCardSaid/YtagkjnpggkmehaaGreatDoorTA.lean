/-
  What each function of the seat comes to, as a tree; each tree is checked against the code.
-/
import Derived.Test.YtagkjnpggkmehaaGreatDoorEngD
import Derived.Test.YtagkjnpggkmehaaGreatDoorChecked
import Derived.KernelRfl
namespace Go.Proofs.YtagkjnpggkmehaaGreatDoor
open Sx
set_option maxRecDepth 100000
noncomputable section
abbrev qft:=@fits Tryz.prog
abbrev qa0:An:=⟨[],[],[]⟩
abbrev _root_.Sx.T.rF:T:=.ret [.bool false]
abbrev _root_.Sx.T.rT:T:=.ret [.bool true]
abbrev _root_.Sx.T.rM:T:=.ret [.int .i64 (-1)]
abbrev _root_.Sx.T.bF (b:Bool) (y:T):T:=.br (!b) (.ret [.bool false]) y
abbrev _root_.Sx.T.bn (b:Bool) (x:T) (y:T):T:=.br (!b) x y
abbrev _root_.Sx.T.qc0 (g:Nat) (l:List Value) (k:Sh.ty (.t [(.g [.l,.l,.s,.l]),(.o (.b))])→T):T:=.call false g l (.t [(.g [.l,.l,.s,.l]),(.o (.b))]) k
abbrev _root_.Sx.T.qc1 (g:Nat) (l:List Value) (k:Sh.ty (.v (.o (.b)))→T):T:=.call false g l (.v (.o (.b))) k
abbrev _root_.Sx.T.qc2 (g:Nat) (l:List Value) (k:Sh.ty (.v (.o (.i .i64)))→T):T:=.call false g l (.v (.o (.i .i64))) k
abbrev _root_.Sx.T.qc3 (g:Nat) (l:List Value) (k:Sh.ty (.v (.g [.l,.l,.s,.l]))→T):T:=.call false g l (.v (.g [.l,.l,.s,.l])) k
abbrev _root_.Sx.T.qc4 (g:Nat) (l:List Value) (k:Sh.ty (.v (.o (.s)))→T):T:=.call false g l (.v (.o (.s))) k
abbrev _root_.Sx.T.qc5 (g:Nat) (l:List Value) (k:Sh.ty (.v (.o (.b)))→T):T:=.call true g l (.v (.o (.b))) k
abbrev _root_.Sx.T.qc6 (g:Nat) (l:List Value) (k:Sh.ty (.v (.o (.s)))→T):T:=.call true g l (.v (.o (.s))) k
abbrev _root_.Sx.T.ql7 (a:Addr) (k:Sh1.ty (.g [.s,.b,.l,.l])→T):T:=.ld true a (.g [.s,.b,.l,.l]) k
abbrev _root_.Sx.T.ql8 (a:Addr) (k:Sh1.ty (.o (.l))→T):T:=.ld false a (.o (.l)) k
abbrev _root_.Sx.T.ql9 (a:Addr) (k:Sh1.ty (.o (.s))→T):T:=.ld true a (.o (.s)) k
abbrev _root_.Sx.T.ql10 (a:Addr) (k:Sh1.ty (.o (.b))→T):T:=.ld false a (.o (.b)) k
abbrev _root_.Sx.T.ql11 (a:Addr) (k:Sh1.ty (.g [.s,.b,.l,.l])→T):T:=.ld false a (.g [.s,.b,.l,.l]) k
abbrev _root_.Sx.T.qc12 (g:Nat) (l:List Value) (k:Sh.ty (.v (.o (.i .i64)))→T):T:=.call true g l (.v (.o (.i .i64))) k
abbrev _root_.Sx.T.qc13 (g:Nat) (l:List Value) (k:Sh.ty (.v (.o (.l)))→T):T:=.call false g l (.v (.o (.l))) k
abbrev _root_.Sx.T.ql14 (a:Addr) (k:Sh1.ty (.o (.s))→T):T:=.ld false a (.o (.s)) k
abbrev _root_.Sx.T.ql15 (a:Addr) (k:Sh1.ty (.g [.l,.l,.s,.l])→T):T:=.ld false a (.g [.l,.l,.s,.l]) k
abbrev _root_.Sx.T.qc16 (g:Nat) (l:List Value) (k:Sh.ty (.v (.o (.p)))→T):T:=.call false g l (.v (.o (.p))) k
abbrev _root_.Sx.T.ql17 (a:Addr) (k:Sh1.ty (.g [.s,.s,.b,.l,.i .i64])→T):T:=.ld false a (.g [.s,.s,.b,.l,.i .i64]) k
abbrev _root_.Sx.T.ql18 (a:Addr) (k:Sh1.ty (.g [.s,.s,.b,.l])→T):T:=.ld false a (.g [.s,.s,.b,.l]) k
abbrev _root_.Sx.T.qc19 (g:Nat) (l:List Value) (k:Sh.ty (.t [(.g [.b,.l]),(.o (.b))])→T):T:=.call false g l (.t [(.g [.b,.l]),(.o (.b))]) k
abbrev _root_.Sx.T.qc20 (g:Nat) (l:List Value) (k:Sh.ty (.t [(.o (.l)),(.o (.b))])→T):T:=.call false g l (.t [(.o (.l)),(.o (.b))]) k
abbrev _root_.Sx.T.qc21 (g:Nat) (l:List Value) (k:Sh.ty (.t [(.o (.s)),(.o (.s)),(.o (.b))])→T):T:=.call false g l (.t [(.o (.s)),(.o (.s)),(.o (.b))]) k
abbrev _root_.Sx.T.qc22 (g:Nat) (l:List Value) (k:Sh.ty (.t [(.g [.b,.l,.l]),(.o (.b))])→T):T:=.call false g l (.t [(.g [.b,.l,.l]),(.o (.b))]) k
abbrev _root_.Sx.T.ql23 (a:Addr) (k:Sh1.ty (.o (.i .i64))→T):T:=.ld false a (.o (.i .i64)) k
abbrev _root_.Sx.T.ql24 (a:Addr) (k:Sh1.ty (.o (.i .u8))→T):T:=.ld false a (.o (.i .u8)) k
abbrev _root_.Sx.T.qc25 (g:Nat) (l:List Value) (k:Sh.ty (.t [(.g [.s,.s,.i .i64,.i .i64]),(.o (.b))])→T):T:=.call false g l (.t [(.g [.s,.s,.i .i64,.i .i64]),(.o (.b))]) k
abbrev _root_.Sx.T.qc26 (g:Nat) (l:List Value) (k:Sh.ty (.t [(.o (.s)),(.o (.l))])→T):T:=.call false g l (.t [(.o (.s)),(.o (.l))]) k
abbrev _root_.Sx.T.qc27 (g:Nat) (l:List Value) (k:Sh.ty (.t [(.g [.s,.s,.b,.l,.i .i64]),(.o (.b))])→T):T:=.call false g l (.t [(.g [.s,.s,.b,.l,.i .i64]),(.o (.b))]) k
abbrev _root_.Sx.T.qc28 (g:Nat) (l:List Value) (k:Sh.ty (.t [(.g [.s,.b,.l]),(.o (.b))])→T):T:=.call false g l (.t [(.g [.s,.b,.l]),(.o (.b))]) k
abbrev _root_.Sx.T.ql29 (a:Addr) (k:Sh1.ty (.o (.l))→T):T:=.ld true a (.o (.l)) k
abbrev _root_.Sx.T.qc30 (g:Nat) (l:List Value) (k:Sh.ty (.t [(.g [.s,.b,.l,.l]),(.o (.b))])→T):T:=.call false g l (.t [(.g [.s,.b,.l,.l]),(.o (.b))]) k
abbrev _root_.Sx.T.qc31 (g:Nat) (l:List Value) (k:Sh.ty (.v (.g [.l]))→T):T:=.call false g l (.v (.g [.l])) k
abbrev _root_.Sx.T.qc32 (g:Nat) (l:List Value) (k:Sh.ty (.v (.g [.s,.l]))→T):T:=.call false g l (.v (.g [.s,.l])) k
abbrev _root_.Sx.T.qc33 (g:Nat) (l:List Value) (k:Sh.ty (.v (.g [.s,.s,.i .i64,.i .i64]))→T):T:=.call false g l (.v (.g [.s,.s,.i .i64,.i .i64])) k
abbrev _root_.Sx.T.qc34 (g:Nat) (l:List Value) (k:Sh.ty (.v (.g [.b,.l,.l]))→T):T:=.call true g l (.v (.g [.b,.l,.l])) k
abbrev _root_.Sx.T.qc35 (g:Nat) (l:List Value) (k:Sh.ty (.v (.g [.b,.l]))→T):T:=.call false g l (.v (.g [.b,.l])) k
abbrev _root_.Sx.T.qc36 (g:Nat) (l:List Value) (k:Sh.ty (.v (.g [.b,.l,.l]))→T):T:=.call false g l (.v (.g [.b,.l,.l])) k
abbrev _root_.Sx.T.ql37 (a:Addr) (k:Sh1.ty (.o (.i .i64))→T):T:=.ld true a (.o (.i .i64)) k
abbrev _root_.Sx.T.ql38 (a:Addr) (k:Sh1.ty (.g [.s,.s,.i .i64,.i .i64,.s,.s,.i .i64,.i .i64,.s,.s,.i .i64,.i .i64,.s,.s,.i .i64,.i .i64,.s,.s,.i .i64,.i .i64,.s,.s,.i .i64,.i .i64,.s,.s,.i .i64,.i .i64,.s,.s,.i .i64,.i .i64,.s,.s,.i .i64,.i .i64,.s,.s,.i .i64,.i .i64,.s,.s,.i .i64,.i .i64,.s,.s,.i .i64,.i .i64,.s,.s,.i .i64,.i .i64,.s,.s,.i .i64,.i .i64,.s,.s,.i .i64,.i .i64,.s,.s,.i .i64,.i .i64,.s,.s,.i .i64,.i .i64,.s,.s,.i .i64,.i .i64,.s,.s,.i .i64,.i .i64,.s,.s,.i .i64,.i .i64])→T):T:=.ld false a (.g [.s,.s,.i .i64,.i .i64,.s,.s,.i .i64,.i .i64,.s,.s,.i .i64,.i .i64,.s,.s,.i .i64,.i .i64,.s,.s,.i .i64,.i .i64,.s,.s,.i .i64,.i .i64,.s,.s,.i .i64,.i .i64,.s,.s,.i .i64,.i .i64,.s,.s,.i .i64,.i .i64,.s,.s,.i .i64,.i .i64,.s,.s,.i .i64,.i .i64,.s,.s,.i .i64,.i .i64,.s,.s,.i .i64,.i .i64,.s,.s,.i .i64,.i .i64,.s,.s,.i .i64,.i .i64,.s,.s,.i .i64,.i .i64,.s,.s,.i .i64,.i .i64,.s,.s,.i .i64,.i .i64,.s,.s,.i .i64,.i .i64,.s,.s,.i .i64,.i .i64]) k
abbrev _root_.Sx.T.qc39 (g:Nat) (l:List Value) (k:Sh.ty (.t [(.o (.l)),(.o (.l))])→T):T:=.call false g l (.t [(.o (.l)),(.o (.l))]) k
abbrev _root_.Sx.T.qc40 (g:Nat) (l:List Value) (k:Sh.ty (.t [(.o (.l)),(.o (.i .i64))])→T):T:=.call false g l (.t [(.o (.l)),(.o (.i .i64))]) k
abbrev _root_.Sx.T.qc41 (g:Nat) (l:List Value) (k:Sh.ty (.t [(.g [.b,.l,.i .i64]),(.o (.b))])→T):T:=.call false g l (.t [(.g [.b,.l,.i .i64]),(.o (.b))]) k
abbrev _root_.Sx.T.ql42 (a:Addr) (k:Sh1.ty (.g [.s,.s,.b,.l])→T):T:=.ld true a (.g [.s,.s,.b,.l]) k
abbrev _root_.Sx.T.ql43 (a:Addr) (k:Sh1.ty (.g [.s,.s,.b,.l,.i .i64])→T):T:=.ld true a (.g [.s,.s,.b,.l,.i .i64]) k
abbrev _root_.Sx.T.qc44 (g:Nat) (l:List Value) (k:Sh.ty (.t [(.g [.l]),(.o (.b))])→T):T:=.call false g l (.t [(.g [.l]),(.o (.b))]) k
abbrev _root_.Sx.T.qc45 (g:Nat) (l:List Value) (k:Sh.ty (.v (.g [.b,.l]))→T):T:=.call true g l (.v (.g [.b,.l])) k
abbrev _root_.Sx.T.qc46 (g:Nat) (l:List Value) (k:Sh.ty (.v (.g [.s,.s,.b,.l,.i .i64]))→T):T:=.call false g l (.v (.g [.s,.s,.b,.l,.i .i64])) k
abbrev _root_.Sx.T.qc47 (g:Nat) (l:List Value) (k:Sh.ty (.t [(.g [.s,.l]),(.o (.b))])→T):T:=.call false g l (.t [(.g [.s,.l]),(.o (.b))]) k
abbrev _root_.Sx.T.ql48 (a:Addr) (k:Sh1.ty (.g [.s,.s,.i .i64,.i .i64])→T):T:=.ld false a (.g [.s,.s,.i .i64,.i .i64]) k
abbrev _root_.Sx.T.qc49 (g:Nat) (l:List Value) (k:Sh.ty (.v (.o (.l)))→T):T:=.call true g l (.v (.o (.l))) k
abbrev _root_.Sx.T.ql50 (a:Addr) (k:Sh1.ty (.o (.i .u8))→T):T:=.ld true a (.o (.i .u8)) k
abbrev _root_.Sx.T.qc51 (g:Nat) (l:List Value) (k:Sh.ty (.t [])→T):T:=.call false g l (.t []) k
abbrev _root_.Sx.T.ql52 (a:Addr) (k:Sh1.ty (.g [.s,.b,.l])→T):T:=.ld true a (.g [.s,.b,.l]) k
abbrev _root_.Sx.T.qc53 (g:Nat) (l:List Value) (k:Sh.ty (.v (.g [.s,.s,.b,.l,.i .i64]))→T):T:=.call true g l (.v (.g [.s,.s,.b,.l,.i .i64])) k
abbrev _root_.Sx.T.qc54 (g:Nat) (l:List Value) (k:Sh.ty (.v (.g [.s,.b,.l]))→T):T:=.call true g l (.v (.g [.s,.b,.l])) k
def tL_FnExactTextLedger (x0:ByteArray):T :=
 .br (decide ((↑x0.size:Int) > (1048576:Int))) (
  .rT) <|
 .qc0 24 [.string x0] fun y1 =>
 .qc0 25 [.string x0] fun y2 =>
 .qc1 26 [qv3 y2.1,qv3 y1.1] fun y3 =>
 .bF y3 <|
 .br (!y2.2.1 == y1.2.1) (
  .rF) <|
 .qc2 27 [qv3 y2.1,.int .i64 1] fun y4 =>
 .qc2 28 [qv3 y2.1,.int .i64 1] fun y5 =>
 .br (decide (y5<(0:Int))) (
  .rF) <|
 .br (y5 != y4) (
  .rF) <|
 .qc0 25 [.string x0] fun y6 =>
 .qc1 26 [qv3 y6.1,qv3 y1.1] fun y7 =>
 .bF y7 <|
 .br (!y6.2.1 == y1.2.1) (
  .rF) <|
 .qc2 28 [qv3 y2.1,.int .i64 1] fun y8 =>
 .br (decide (y8<(0:Int))) (
  .rF) <|
 .br (y8 != y4) (
  .rF) <|
 .rT
theorem fL_FnExactTextLedger x0:qft qa0 5 [.string x0] (tL_FnExactTextLedger x0) :=fitK (by kernel_rfl)
def tL_FnState (x0:SlV):T :=
 .br (decide ((↑x0.n:Int) > (1048576:Int))) (
  .rT) <|
 .qc3 29 [Sc.val .l x0] fun y1 =>
 .qc4 30 [qv3 y1] fun y2 =>
 .qc0 25 [.string y2] fun y3 =>
 .rg <|
 .br y3.2.1 (
  .qc5 31 [qv3 y3.1,qv3 y1] fun y4 =>
  .br y4 (
   .qc6 30 [qv3 y3.1] fun y5 =>
   .qc4 30 [qv3 y1] fun y6 =>
   .ret [.bool (y5.toList == y6.toList)]) <|
 .rF) <|
 .rF
theorem fL_FnState x0:qft qa0 6 [Sc.val .l x0] (tL_FnState x0) :=fitK (by kernel_rfl)
def aL_eqRestS:An:=⟨[(4,[.s 5],[.o (.o (.i .i64))])],[],[]⟩
def tL_eqRestS (x0:SlV) (x1:SlV):T :=
 .br ((↑x0.n:Int) != (↑x1.n:Int)) (
  .rF) <|
 .lp [.o (.o (.i .i64))] [.v (.int .i64 0)] fun y1 =>
 .br (decide (y1.1<(↑x0.n:Int))) (
  .rg <|
 .el x0.1 (x0.n) y1.1 fun y2 =>
  .ql7 (y2.add (Int.toNat y1.1*(4:Nat))) fun y3 =>
  .el x1.1 (x1.n) y1.1 fun y4 =>
  .ql7 (y4.add (Int.toNat y1.1*(4:Nat))) fun y5 =>
  .qc1 39 [qv8 y3,qv8 y5] fun y6 =>
  .bF y6 <|
 .nx 0 [.v (.int .i64 (IntKind.i64.wrap (y1.1+(1:Int))))]) <|
 .rT
theorem fL_eqRestS x0 x1:qft aL_eqRestS 9 [Sc.val .l x0,Sc.val .l x1] (tL_eqRestS x0 x1) :=fitK (by kernel_rfl)
def aL_markRestS:An:=⟨[(2,[.s 1,.s 5],[.o (.o (.i .i64)),.o (.o (.i .i64))])],[],[]⟩
def tL_markRestS (x0:SlV) (x1:Int):T :=
 .lp [.o (.o (.i .i64)),.o (.o (.i .i64))] [.v (.int .i64 x1),.v (.int .i64 0)] fun y1 =>
 .br (decide (y1.2.1<(↑x0.n:Int))) (
  .qc4 40 [.int .i64 y1.1] fun y2 =>
  .el x0.1 (x0.n) y1.2.1 fun y3 =>
  .st ((y3.add (Int.toNat y1.2.1*(4:Nat))).add (0:Nat)) [.string y2] <|
 .rq ((3:Int)≠(0:Int)) <|
 .el x0.1 (x0.n) y1.2.1 fun y4 =>
  .st ((((y4.add (Int.toNat y1.2.1*(4:Nat))).add (1:Nat)).add (0:Nat)).add (0:Nat)) [.bool ((IntKind.i64.wrap (y1.1+(1:Int))).tmod (3:Int) == (0:Int))] <|
 .el x0.1 (x0.n) y1.2.1 fun y5 =>
  .ql8 ((((y5.add (Int.toNat y1.2.1*(4:Nat))).add (1:Nat)).add (0:Nat)).add (1:Nat)) fun y6 =>
  .qc2 41 [Sc.val .l y6,.int .i64 (IntKind.i64.wrap (IntKind.i64.wrap (y1.1+(1:Int))+(1:Int)))] fun y7 =>
  .el x0.1 (x0.n) y1.2.1 fun y8 =>
  .ql8 (((y8.add (Int.toNat y1.2.1*(4:Nat))).add (1:Nat)).add (2:Nat)) fun y9 =>
  .qc2 41 [Sc.val .l y9,.int .i64 y7] fun y10 =>
  .nx 0 [.v (.int .i64 y10),.v (.int .i64 (IntKind.i64.wrap (y1.2.1+(1:Int))))]) <|
 .ret [.int .i64 y1.1]
theorem fL_markRestS x0 x1:qft aL_markRestS 10 [Sc.val .l x0,.int .i64 x1] (tL_markRestS x0 x1) :=fitK (by kernel_rfl)
def aL_heldRestS:An:=⟨[(2,[.s 1,.s 5],[.o (.o (.i .i64)),.o (.o (.i .i64))])],[],[]⟩
def tL_heldRestS (x0:SlV) (x1:Int):T :=
 .lp [.o (.o (.i .i64)),.o (.o (.i .i64))] [.v (.int .i64 x1),.v (.int .i64 0)] fun y1 =>
 .br (decide (y1.2.1<(↑x0.n:Int))) (
  .rg <|
 .el x0.1 (x0.n) y1.2.1 fun y2 =>
  .ql9 ((y2.add (Int.toNat y1.2.1*(4:Nat))).add (0:Nat)) fun y3 =>
  .qc6 40 [.int .i64 y1.1] fun y4 =>
  .br (!y3.toList == y4.toList) (
   .rM) <|
 .el x0.1 (x0.n) y1.2.1 fun y5 =>
  .ql10 ((((y5.add (Int.toNat y1.2.1*(4:Nat))).add (1:Nat)).add (0:Nat)).add (0:Nat)) fun y6 =>
  .rq ((3:Int)≠(0:Int)) <|
 .br (!y6 == ((IntKind.i64.wrap (y1.1+(1:Int))).tmod (3:Int) == (0:Int))) (
   .rM) <|
 .el x0.1 (x0.n) y1.2.1 fun y7 =>
  .ql8 ((((y7.add (Int.toNat y1.2.1*(4:Nat))).add (1:Nat)).add (0:Nat)).add (1:Nat)) fun y8 =>
  .qc2 42 [Sc.val .l y8,.int .i64 (IntKind.i64.wrap (IntKind.i64.wrap (y1.1+(1:Int))+(1:Int)))] fun y9 =>
  .br (decide (y9<(0:Int))) (
   .rM) <|
 .el x0.1 (x0.n) y1.2.1 fun y10 =>
  .ql8 (((y10.add (Int.toNat y1.2.1*(4:Nat))).add (1:Nat)).add (2:Nat)) fun y11 =>
  .qc2 42 [Sc.val .l y11,.int .i64 y9] fun y12 =>
  .br (decide (y12<(0:Int))) (
   .rM) <|
 .nx 0 [.v (.int .i64 y12),.v (.int .i64 (IntKind.i64.wrap (y1.2.1+(1:Int))))]) <|
 .ret [.int .i64 y1.1]
theorem fL_heldRestS x0 x1:qft aL_heldRestS 11 [Sc.val .l x0,.int .i64 x1] (tL_heldRestS x0 x1) :=fitK (by kernel_rfl)
def tI_RestsSame (x0:SlV) (x1:SlV):T :=
 .qc1 49 [Sc.val .l x0,Sc.val .l x1,(Value.func (Fn.func (50:Nat)) { toList:=[]:Array Value } { toList:=[]:Array Value })] fun y1 =>
 .ret [.bool y1]
theorem fI_RestsSame x0 x1:qft qa0 16 [Sc.val .l x0,Sc.val .l x1] (tI_RestsSame x0 x1) :=fitK (by kernel_rfl)
def aI_RestsOk:An:=⟨[(2,[.s 7],[.o (.o (.i .i64))])],[],[]⟩
def tI_RestsOk (x0:SlV):T :=
 .lp [.o (.o (.i .i64))] [.v (.int .i64 0)] fun y1 =>
 .br (decide (y1.1<(↑x0.n:Int))) (
  .el x0.1 (x0.n) y1.1 fun y2 =>
  .ql11 (y2.add (Int.toNat y1.1*(4:Nat))) fun y3 =>
  .rg <|
 .qc5 52 [.string y3.1] fun y4 =>
  .bF y4 <|
 .qc5 53 [qv1 y3.2] fun y5 =>
  .bF y5 <|
 .qc12 54 [qv1 y3.2] fun y6 =>
  .br (y6 == (0:Int)) (
   .rF) <|
 .br (decide (y1.1 > (0:Int))) (
   .el x0.1 (x0.n) (IntKind.i64.wrap (y1.1-(1:Int))) fun y7 =>
   .ql9 ((y7.add ((IntKind.i64.wrap (y1.1-(1:Int))).toNat*(4:Nat))).add (0:Nat)) fun y8 =>
   .br (!Op.bytesLess y8.toList (ByteArray.toList y3.1)) (
    .rF) <|
 .nx 0 [.v (.int .i64 (IntKind.i64.wrap (y1.1+(1:Int))))]) <|
 .nx 0 [.v (.int .i64 (IntKind.i64.wrap (y1.1+(1:Int))))]) <|
 .rT
theorem fI_RestsOk x0:qft aI_RestsOk 17 [Sc.val .l x0] (tI_RestsOk x0) :=fitK (by kernel_rfl)
def aS_TextLedger:An:=⟨[(3,[.s 13,.c 2 0,.c 2 1,.c 2 2,.c 2 3,.c 4 0,.c 4 1,.c 4 2,.c 4 3],[.o (.o (.i .i64)),.o (.o (.l)),.o (.o (.l)),.o (.o (.s)),.o (.o (.l)),.o (.o (.l)),.o (.o (.l)),.o (.o (.s)),.o (.o (.l))])],[],[]⟩
def tS_TextLedger (x0:ByteArray):T :=
 .qc13 66 [.string x0] fun y1 =>
 .lp [.o (.o (.i .i64)),.o (.o (.l)),.o (.o (.l)),.o (.o (.s)),.o (.o (.l)),.o (.o (.l)),.o (.o (.l)),.o (.o (.s)),.o (.o (.l))] [.v (.int .i64 0),.v (.slice none 0 0),.v (.slice none 0 0),.v (.string ({ data:={ toList:=[]:Array UInt8 }:ByteArray })),.v (.slice none 0 0),.v (.slice none 0 0),.v (.slice none 0 0),.v (.string ({ data:={ toList:=[]:Array UInt8 }:ByteArray })),.v (.slice none 0 0)] fun y2 =>
 .br (decide (y2.1<(↑y1.n:Int))) (
  .el y1.1 (y1.n) y2.1 fun y3 =>
  .ql14 (y3.add (Int.toNat y2.1*(1:Nat))) fun y4 =>
  .qc0 67 [qv3 y2.2.2.2.2.2,.string y4] fun y5 =>
  .bn y5.2.1 (.ret [qv3 (nilS,nilS,({ data:={ toList:=[]:Array UInt8 }:ByteArray }),nilS,()),.bool (false)]) <|
 .nx 0 [.v (.int .i64 (IntKind.i64.wrap (y2.1+(1:Int)))),.v (Sc.val .l y2.2.1),.v (Sc.val .l y2.2.2.1),.v (.string y2.2.2.2.1),.v (Sc.val .l y2.2.2.2.2.1),.v (Sc.val .l y5.1.1),.v (Sc.val .l y5.1.2.1),.v (.string y5.1.2.2.1),.v (Sc.val .l y5.1.2.2.2.1)]) <|
 .qc1 68 [qv3 y2.2.2.2.2.2] fun y3 =>
 .bn y3 (.ret [qv3 (nilS,nilS,({ data:={ toList:=[]:Array UInt8 }:ByteArray }),nilS,()),.bool (false)]) <|
 .qc4 69 [qv3 y2.2.2.2.2.2] fun y4 =>
 .br (!y4.toList == x0.toList) (
  .ret [qv3 (nilS,nilS,({ data:={ toList:=[]:Array UInt8 }:ByteArray }),nilS,()),.bool (false)]) <|
 .ret [qv3 y2.2.2.2.2.2,.bool (true)]
theorem fS_TextLedger x0:qft aS_TextLedger 24 [.string x0] (tS_TextLedger x0) :=fitK (by kernel_rfl)
def aI_TextLedger:An:=⟨[(6,[.s 16],[.o (.o (.i .i64))])],[],[(2000006,[.s 4])]⟩
def tI_TextLedger (x0:ByteArray):T :=
 .qc13 70 [.string x0] fun y1 =>
 .br (decide ((↑y1.n:Int) > (45:Int))) (
  .ret [qv3 (nilS,nilS,({ data:={ toList:=[]:Array UInt8 }:ByteArray }),nilS,()),.bool (false)]) <|
 .es [.slice none 0 0,.slice none 0 0,.string ({ data:={ toList:=[]:Array UInt8 }:ByteArray }),.slice none 0 0] 56 fun b2 =>
 .lp [.o (.o (.i .i64))] [.v (.int .i64 0)] fun y3 =>
 .br (decide (y3.1<(↑y1.n:Int))) (
  .el y1.1 (y1.n) y3.1 fun y4 =>
  .ql14 (y4.add (Int.toNat y3.1*(1:Nat))) fun y5 =>
  .qc1 71 [.pointer (some { block:=b2,off:=(0:Nat):Addr }),.string y5] fun y6 =>
  .bn y6 (.ret [qv3 (nilS,nilS,({ data:={ toList:=[]:Array UInt8 }:ByteArray }),nilS,()),.bool (false)]) <|
 .nx 0 [.v (.int .i64 (IntKind.i64.wrap (y3.1+(1:Int))))]) <|
 .ql15 ({ block:=b2,off:=(0:Nat):Addr }) fun y4 =>
 .qc1 72 [qv3 y4] fun y5 =>
 .bn y5 (.ret [qv3 (nilS,nilS,({ data:={ toList:=[]:Array UInt8 }:ByteArray }),nilS,()),.bool (false)]) <|
 .ql15 ({ block:=b2,off:=(0:Nat):Addr }) fun y6 =>
 .qc4 30 [qv3 y6] fun y7 =>
 .br (!y7.toList == x0.toList) (
  .ret [qv3 (nilS,nilS,({ data:={ toList:=[]:Array UInt8 }:ByteArray }),nilS,()),.bool (false)]) <|
 .ql15 ({ block:=b2,off:=(0:Nat):Addr }) fun y8 =>
 .ret [qv3 y8,.bool (true)]
theorem fI_TextLedger x0:qft aI_TextLedger 25 [.string x0] (tI_TextLedger x0) :=fitK (by kernel_rfl)
def tL_eqLedger (x0:qy2) (x1:qy2):T :=
 .qc1 73 [qv5 (x0.1,()),qv5 (x1.1,())] fun y1 =>
 .bF y1 <|
 .qc1 9 [Sc.val .l x0.2.1,Sc.val .l x1.2.1] fun y2 =>
 .bF y2 <|
 .qc1 74 [qv7 x0.2.2,qv7 x1.2.2] fun y3 =>
 .bF y3 <|
 .rT
theorem fL_eqLedger x0 x1:qft qa0 26 [qv3 x0,qv3 x1] (tL_eqLedger x0 x1) :=fitK (by kernel_rfl)
def tL_markLedger (x0:qy2) (x1:Int):T :=
 .qc2 75 [qv5 (x0.1,()),.int .i64 x1] fun y1 =>
 .qc2 10 [Sc.val .l x0.2.1,.int .i64 y1] fun y2 =>
 .qc2 76 [qv7 x0.2.2,.int .i64 y2] fun y3 =>
 .ret [.int .i64 y3]
theorem fL_markLedger x0 x1:qft qa0 27 [qv3 x0,.int .i64 x1] (tL_markLedger x0 x1) :=fitK (by kernel_rfl)
def tL_heldLedger (x0:qy2) (x1:Int):T :=
 .qc2 77 [qv5 (x0.1,()),.int .i64 x1] fun y1 =>
 .br (decide (y1<(0:Int))) (
  .rM) <|
 .qc2 11 [Sc.val .l x0.2.1,.int .i64 y1] fun y2 =>
 .br (decide (y2<(0:Int))) (
  .rM) <|
 .qc2 78 [qv7 x0.2.2,.int .i64 y2] fun y3 =>
 .br (decide (y3<(0:Int))) (
  .rM) <|
 .ret [.int .i64 y3]
theorem fL_heldLedger x0 x1:qft qa0 28 [qv3 x0,.int .i64 x1] (tL_heldLedger x0 x1) :=fitK (by kernel_rfl)
def tS_MakeLedger (x0:SlV):T :=
 .qc16 43 [Sc.val .l x0] fun y1 =>
 .qc3 79 [.pointer (some y1)] fun y2 =>
 .ret [qv3 y2]
theorem fS_MakeLedger x0:qft qa0 29 [Sc.val .l x0] (tS_MakeLedger x0) :=fitK (by kernel_rfl)
def aI_LedgerText:An:=⟨[(5,[.s 3,.s 22],[.o (.o (.s)),.o (.o (.i .i64))]),(10,[.s 3,.s 37],[.o (.o (.s)),.o (.o (.i .i64))]),(15,[.s 3,.s 56],[.o (.o (.s)),.o (.o (.i .i64))])],[],[]⟩
def tI_LedgerText (x0:qy2):T :=
 .qc1 72 [qv3 x0] fun y1 =>
 .bn y1 (.ret [.string ({ data:={ toList:=[]:Array UInt8 }:ByteArray })]) <|
 .rq ({ data:={ toList:=[(112:UInt8),(105:UInt8),(118:UInt8),(111:UInt8),(116:UInt8),(32:UInt8)]:Array UInt8 }:ByteArray }.size+ByteArray.size x0.2.2.1≤(9223372036854775807:Nat)) <|
 .rq (({ data:={ toList:=[(112:UInt8),(105:UInt8),(118:UInt8),(111:UInt8),(116:UInt8),(32:UInt8)]:Array UInt8 }:ByteArray }++x0.2.2.1).size+{ data:={ toList:=[(10:UInt8)]:Array UInt8 }:ByteArray }.size≤(9223372036854775807:Nat)) <|
 .lp [.o (.o (.s)),.o (.o (.i .i64))] [.v (.string ({ data:={ toList:=[(112:UInt8),(105:UInt8),(118:UInt8),(111:UInt8),(116:UInt8),(32:UInt8)]:Array UInt8 }:ByteArray }++x0.2.2.1++{ data:={ toList:=[(10:UInt8)]:Array UInt8 }:ByteArray })),.v (.int .i64 0)] fun y2 =>
 .br (decide (y2.2.1<(↑x0.2.2.2.1.n:Int))) (
  .el x0.2.2.2.1.1 (x0.2.2.2.1.n) y2.2.1 fun y3 =>
  .ql17 (y3.add (Int.toNat y2.2.1*(5:Nat))) fun y4 =>
  .qc4 80 [qv6 y4] fun y5 =>
  .rq ({ data:={ toList:=[(114:UInt8),(97:UInt8),(116:UInt8),(101:UInt8),(32:UInt8)]:Array UInt8 }:ByteArray }.size+y5.size≤(9223372036854775807:Nat)) <|
 .rq (({ data:={ toList:=[(114:UInt8),(97:UInt8),(116:UInt8),(101:UInt8),(32:UInt8)]:Array UInt8 }:ByteArray }++y5).size+{ data:={ toList:=[(10:UInt8)]:Array UInt8 }:ByteArray }.size≤(9223372036854775807:Nat)) <|
 .rq (ByteArray.size y2.1+({ data:={ toList:=[(114:UInt8),(97:UInt8),(116:UInt8),(101:UInt8),(32:UInt8)]:Array UInt8 }:ByteArray }++y5++{ data:={ toList:=[(10:UInt8)]:Array UInt8 }:ByteArray }).size≤(9223372036854775807:Nat)) <|
 .nx 0 [.v (.string (y2.1++({ data:={ toList:=[(114:UInt8),(97:UInt8),(116:UInt8),(101:UInt8),(32:UInt8)]:Array UInt8 }:ByteArray }++y5++{ data:={ toList:=[(10:UInt8)]:Array UInt8 }:ByteArray }))),.v (.int .i64 (IntKind.i64.wrap (y2.2.1+(1:Int))))]) <|
 .lp [.o (.o (.s)),.o (.o (.i .i64))] [.v (.string y2.1),.v (.int .i64 0)] fun y3 =>
 .br (decide (y3.2.1<(↑x0.1.n:Int))) (
  .el x0.1.1 (x0.1.n) y3.2.1 fun y4 =>
  .ql18 (y4.add (Int.toNat y3.2.1*(4:Nat))) fun y5 =>
  .rg <|
 .rq ({ data:={ toList:=[(97:UInt8),(99:UInt8),(99:UInt8),(116:UInt8),(32:UInt8)]:Array UInt8 }:ByteArray }.size+ByteArray.size y5.1≤(9223372036854775807:Nat)) <|
 .rq (({ data:={ toList:=[(97:UInt8),(99:UInt8),(99:UInt8),(116:UInt8),(32:UInt8)]:Array UInt8 }:ByteArray }++y5.1).size+{ data:={ toList:=[(32:UInt8)]:Array UInt8 }:ByteArray }.size≤(9223372036854775807:Nat)) <|
 .qc6 81 [qv4 y5.2] fun y6 =>
  .rq (({ data:={ toList:=[(97:UInt8),(99:UInt8),(99:UInt8),(116:UInt8),(32:UInt8)]:Array UInt8 }:ByteArray }++y5.1++{ data:={ toList:=[(32:UInt8)]:Array UInt8 }:ByteArray }).size+y6.size≤(9223372036854775807:Nat)) <|
 .rq (({ data:={ toList:=[(97:UInt8),(99:UInt8),(99:UInt8),(116:UInt8),(32:UInt8)]:Array UInt8 }:ByteArray }++y5.1++{ data:={ toList:=[(32:UInt8)]:Array UInt8 }:ByteArray }++y6).size+{ data:={ toList:=[(10:UInt8)]:Array UInt8 }:ByteArray }.size≤(9223372036854775807:Nat)) <|
 .rq (ByteArray.size y3.1+({ data:={ toList:=[(97:UInt8),(99:UInt8),(99:UInt8),(116:UInt8),(32:UInt8)]:Array UInt8 }:ByteArray }++y5.1++{ data:={ toList:=[(32:UInt8)]:Array UInt8 }:ByteArray }++y6++{ data:={ toList:=[(10:UInt8)]:Array UInt8 }:ByteArray }).size≤(9223372036854775807:Nat)) <|
 .nx 1 [.v (.string (y3.1++({ data:={ toList:=[(97:UInt8),(99:UInt8),(99:UInt8),(116:UInt8),(32:UInt8)]:Array UInt8 }:ByteArray }++y5.1++{ data:={ toList:=[(32:UInt8)]:Array UInt8 }:ByteArray }++y6++{ data:={ toList:=[(10:UInt8)]:Array UInt8 }:ByteArray }))),.v (.int .i64 (IntKind.i64.wrap (y3.2.1+(1:Int))))]) <|
 .lp [.o (.o (.s)),.o (.o (.i .i64))] [.v (.string y3.1),.v (.int .i64 0)] fun y4 =>
 .br (decide (y4.2.1<(↑x0.2.1.n:Int))) (
  .el x0.2.1.1 (x0.2.1.n) y4.2.1 fun y5 =>
  .ql11 (y5.add (Int.toNat y4.2.1*(4:Nat))) fun y6 =>
  .qc4 47 [qv8 y6] fun y7 =>
  .rq ({ data:={ toList:=[(114:UInt8),(101:UInt8),(115:UInt8),(116:UInt8),(32:UInt8)]:Array UInt8 }:ByteArray }.size+y7.size≤(9223372036854775807:Nat)) <|
 .rq (({ data:={ toList:=[(114:UInt8),(101:UInt8),(115:UInt8),(116:UInt8),(32:UInt8)]:Array UInt8 }:ByteArray }++y7).size+{ data:={ toList:=[(10:UInt8)]:Array UInt8 }:ByteArray }.size≤(9223372036854775807:Nat)) <|
 .rq (ByteArray.size y4.1+({ data:={ toList:=[(114:UInt8),(101:UInt8),(115:UInt8),(116:UInt8),(32:UInt8)]:Array UInt8 }:ByteArray }++y7++{ data:={ toList:=[(10:UInt8)]:Array UInt8 }:ByteArray }).size≤(9223372036854775807:Nat)) <|
 .nx 2 [.v (.string (y4.1++({ data:={ toList:=[(114:UInt8),(101:UInt8),(115:UInt8),(116:UInt8),(32:UInt8)]:Array UInt8 }:ByteArray }++y7++{ data:={ toList:=[(10:UInt8)]:Array UInt8 }:ByteArray }))),.v (.int .i64 (IntKind.i64.wrap (y4.2.1+(1:Int))))]) <|
 .ret [.string y4.1]
theorem fI_LedgerText x0:qft aI_LedgerText 30 [qv3 x0] (tI_LedgerText x0) :=fitK (by kernel_rfl)
def tI_LedgerSame (x0:qy2) (x1:qy2):T :=
 .qc1 82 [qv5 (x0.1,()),qv5 (x1.1,())] fun y1 =>
 .br y1 (
  .qc1 16 [Sc.val .l x0.2.1,Sc.val .l x1.2.1] fun y2 =>
  .br y2 (
   .br (ByteArray.toList x0.2.2.1 == ByteArray.toList x1.2.2.1) (
    .qc1 83 [Sc.val .l x0.2.2.2.1,Sc.val .l x1.2.2.2.1,(Value.func (Fn.func (84:Nat)) { toList:=[]:Array Value } { toList:=[]:Array Value })] fun y3 =>
    .ret [.bool y3]) <|
 .rF) <|
 .rF) <|
 .rF
theorem fI_LedgerSame x0 x1:qft qa0 31 [qv3 x0,qv3 x1] (tI_LedgerSame x0 x1) :=fitK (by kernel_rfl)
def tS_Cut (x0:ByteArray):T :=
 .qc13 85 [.string x0,.string ({ data:={ toList:=[(32:UInt8)]:Array UInt8 }:ByteArray })] fun y1 =>
 .ret [Sc.val .l y1]
theorem fS_Cut x0:qft qa0 33 [.string x0] (tS_Cut x0) :=fitK (by kernel_rfl)
def tS_TextRat (x0:ByteArray):T :=
 .qc13 85 [.string x0,.string ({ data:={ toList:=[(47:UInt8)]:Array UInt8 }:ByteArray })] fun y1 =>
 .el y1.1 (y1.n) ((0:Int)) fun y2 =>
 .ql14 (y2.add (Int.toNat (0:Int)*(1:Nat))) fun y3 =>
 .qc19 86 [.string y3] fun y4 =>
 .br (decide ((↑y1.n:Int) > (1:Int))) (
  .el y1.1 (y1.n) ((1:Int)) fun y5 =>
  .ql14 (y5.add (Int.toNat (1:Int)*(1:Nat))) fun y6 =>
  .qc20 87 [.string y6] fun y7 =>
  .bn y4.2.1 (.ret [qv1 ((false),nilS,nilS,()),.bool (false)]) <|
 .bn y7.2.1 (.ret [qv1 ((false),nilS,nilS,()),.bool (false)]) <|
 .qc4 88 [qv1 (y4.1.1,y4.1.2.1,y7.1,())] fun y8 =>
  .br (y8.toList == { data:={ toList:=[]:Array UInt8 }:ByteArray }.toList) (
   .ret [qv1 ((false),nilS,nilS,()),.bool (false)]) <|
 .qc4 88 [qv1 (y4.1.1,y4.1.2.1,y7.1,())] fun y9 =>
  .br (!y9.toList == x0.toList) (
   .ret [qv1 ((false),nilS,nilS,()),.bool (false)]) <|
 .ret [qv1 (y4.1.1,y4.1.2.1,y7.1,()),.bool (true)]) <|
 .fz ((1:Nat)) [.int .i64 1] 3 fun b5 c5 =>
 .bn y4.2.1 (.ret [qv1 ((false),nilS,nilS,()),.bool (false)]) <|
 .qc4 88 [qv1 (y4.1.1,y4.1.2.1,(⟨(some { block:=b5,off:=(0:Nat):Addr }),((1:Nat)),(c5)⟩:SlV),())] fun y6 =>
 .br (y6.toList == { data:={ toList:=[]:Array UInt8 }:ByteArray }.toList) (
  .ret [qv1 ((false),nilS,nilS,()),.bool (false)]) <|
 .qc4 88 [qv1 (y4.1.1,y4.1.2.1,(⟨(some { block:=b5,off:=(0:Nat):Addr }),((1:Nat)),(c5)⟩:SlV),())] fun y7 =>
 .br (!y7.toList == x0.toList) (
  .ret [qv1 ((false),nilS,nilS,()),.bool (false)]) <|
 .ret [qv1 (y4.1.1,y4.1.2.1,(⟨(some { block:=b5,off:=(0:Nat):Addr }),((1:Nat)),(c5)⟩:SlV),()),.bool (true)]
theorem fS_TextRat x0:qft qa0 34 [.string x0] (tS_TextRat x0) :=fitK (by kernel_rfl)
def aS_RestsOk:An:=⟨[(2,[.s 7],[.o (.o (.i .i64))])],[],[]⟩
def tS_RestsOk (x0:SlV):T :=
 .lp [.o (.o (.i .i64))] [.v (.int .i64 0)] fun y1 =>
 .br (decide (y1.1<(↑x0.n:Int))) (
  .el x0.1 (x0.n) y1.1 fun y2 =>
  .ql11 (y2.add (Int.toNat y1.1*(4:Nat))) fun y3 =>
  .rg <|
 .qc5 89 [.string y3.1] fun y4 =>
  .bF y4 <|
 .qc5 90 [qv1 y3.2] fun y5 =>
  .bF y5 <|
 .qc12 91 [qv1 y3.2] fun y6 =>
  .br (y6 == (0:Int)) (
   .rF) <|
 .br (decide (y1.1 > (0:Int))) (
   .el x0.1 (x0.n) (IntKind.i64.wrap (y1.1-(1:Int))) fun y7 =>
   .ql9 ((y7.add ((IntKind.i64.wrap (y1.1-(1:Int))).toNat*(4:Nat))).add (0:Nat)) fun y8 =>
   .br (!Op.bytesLess y8.toList (ByteArray.toList y3.1)) (
    .rF) <|
 .nx 0 [.v (.int .i64 (IntKind.i64.wrap (y1.1+(1:Int))))]) <|
 .nx 0 [.v (.int .i64 (IntKind.i64.wrap (y1.1+(1:Int))))]) <|
 .rT
theorem fS_RestsOk x0:qft aS_RestsOk 35 [Sc.val .l x0] (tS_RestsOk x0) :=fitK (by kernel_rfl)
def tI_textRest (x0:ByteArray):T :=
 .qc21 94 [.string x0,.string ({ data:={ toList:=[(32:UInt8)]:Array UInt8 }:ByteArray })] fun y1 =>
 .qc22 95 [.string y1.2.1] fun y2 =>
 .br y1.2.2.1 (
  .ret [qv8 (y1.1,y2.1.1,y2.1.2.1,y2.1.2.2.1,()),.bool y2.2.1]) <|
 .ret [qv8 (y1.1,y2.1.1,y2.1.2.1,y2.1.2.2.1,()),.bool (false)]
theorem fI_textRest x0:qft qa0 38 [.string x0] (tI_textRest x0) :=fitK (by kernel_rfl)
def tL_eqRest (x0:qy8) (x1:qy8):T :=
 .br (!ByteArray.toList x0.1 == ByteArray.toList x1.1) (
  .rF) <|
 .qc1 96 [qv1 x0.2,qv1 x1.2] fun y1 =>
 .bF y1 <|
 .rT
theorem fL_eqRest x0 x1:qft qa0 39 [qv8 x0,qv8 x1] (tL_eqRest x0 x1) :=fitK (by kernel_rfl)
def aL_markText:An:=⟨[(4,[.s 0,.s 3],[.o (.o (.i .i64)),.o (.o (.s))])],[],[]⟩
def tL_markText (x0:Int):T :=
 .br (decide (x0≤(0:Int))) (
  .ret [.string ({ data:={ toList:=[(109:UInt8),(48:UInt8)]:Array UInt8 }:ByteArray })]) <|
 .lp [.o (.o (.i .i64)),.o (.o (.s))] [.v (.int .i64 x0),.v (.string ({ data:={ toList:=[]:Array UInt8 }:ByteArray }))] fun y1 =>
 .br (decide (y1.1 > (0:Int))) (
  .rq ((10:Int)≠(0:Int)) <|
 .fz ((1:Nat)) [.int .u8 (IntKind.u8.wrap (IntKind.i64.wrap ((48:Int)+Int.tmod y1.1 (10:Int))))] 5 fun b2 c2 =>
  .rd ({ a:=some { block:=b2,off:=(0:Nat):Addr },n:=(1:Nat),c:=c2:SlV }) ((1:Nat)) fun y3 =>
  .rq (bytesOf y3≠none) <|
 .rq ((bytesD y3).size+ByteArray.size y1.2.1≤(9223372036854775807:Nat)) <|
 .rq ((10:Int)≠(0:Int)) <|
 .nx 0 [.v (.int .i64 (IntKind.i64.wrap (Int.tdiv y1.1 (10:Int)))),.v (.string (bytesD y3++y1.2.1))]) <|
 .rq ({ data:={ toList:=[(109:UInt8)]:Array UInt8 }:ByteArray }.size+ByteArray.size y1.2.1≤(9223372036854775807:Nat)) <|
 .ret [.string ({ data:={ toList:=[(109:UInt8)]:Array UInt8 }:ByteArray }++y1.2.1)]
theorem fL_markText x0:qft aL_markText 40 [.int .i64 x0] (tL_markText x0) :=fitK (by kernel_rfl)
def aL_markIntS:An:=⟨[(2,[.s 1,.s 5],[.o (.o (.i .i64)),.o (.o (.i .i64))])],[],[]⟩
def tL_markIntS (x0:SlV) (x1:Int):T :=
 .lp [.o (.o (.i .i64)),.o (.o (.i .i64))] [.v (.int .i64 x1),.v (.int .i64 0)] fun y1 =>
 .br (decide (y1.2.1<(↑x0.n:Int))) (
  .el x0.1 (x0.n) y1.2.1 fun y2 =>
  .st (y2.add (Int.toNat y1.2.1*(1:Nat))) [.int .i64 y1.1] <|
 .nx 0 [.v (.int .i64 (IntKind.i64.wrap (y1.1+(1:Int)))),.v (.int .i64 (IntKind.i64.wrap (y1.2.1+(1:Int))))]) <|
 .ret [.int .i64 y1.1]
theorem fL_markIntS x0 x1:qft aL_markIntS 41 [Sc.val .l x0,.int .i64 x1] (tL_markIntS x0 x1) :=fitK (by kernel_rfl)
def aL_heldIntS:An:=⟨[(2,[.s 1,.s 5],[.o (.o (.i .i64)),.o (.o (.i .i64))])],[],[]⟩
def tL_heldIntS (x0:SlV) (x1:Int):T :=
 .lp [.o (.o (.i .i64)),.o (.o (.i .i64))] [.v (.int .i64 x1),.v (.int .i64 0)] fun y1 =>
 .br (decide (y1.2.1<(↑x0.n:Int))) (
  .el x0.1 (x0.n) y1.2.1 fun y2 =>
  .ql23 (y2.add (Int.toNat y1.2.1*(1:Nat))) fun y3 =>
  .br (y3 != y1.1) (
   .rM) <|
 .nx 0 [.v (.int .i64 (IntKind.i64.wrap (y1.1+(1:Int)))),.v (.int .i64 (IntKind.i64.wrap (y1.2.1+(1:Int))))]) <|
 .ret [.int .i64 y1.1]
theorem fL_heldIntS x0 x1:qft aL_heldIntS 42 [Sc.val .l x0,.int .i64 x1] (tL_heldIntS x0 x1) :=fitK (by kernel_rfl)
def aS_l01New:An:=⟨[(3,[.s 3,.s 4],[.o (.o (.i .i64)),.o (.o (.i .i64))])],[],[]⟩
def tS_l01New (x0:SlV):T :=
 .lp [.o (.o (.i .i64)),.o (.o (.i .i64))] [.v (.int .i64 (IntKind.i64.wrap ((1616:Int)+(↑x0.n:Int)))),.v (.int .i64 0)] fun y1 =>
 .br (decide (y1.2.1<(↑x0.n:Int))) (
  .br (decide (y1.2.1<(4000:Int))) (
   .el x0.1 (x0.n) y1.2.1 fun y2 =>
   .ql24 (y2.add (Int.toNat y1.2.1*(1:Nat))) fun y3 =>
   .nx 0 [.v (.int .i64 (IntKind.i64.wrap (↑(BitVec.ofInt (64:Nat) (IntKind.i64.wrap (IntKind.i64.wrap (IntKind.i64.wrap (y1.1*(41:Int))+IntKind.i64.wrap y3)+(7:Int))) &&& BitVec.ofInt (64:Nat) (1073741823:Int)).toNat:Int))),.v (.int .i64 (IntKind.i64.wrap (y1.2.1+(1:Int))))]) <|
 .es [Sc.val .l x0,.int .i64 0,.int .i64 y1.1] 122 fun b2 =>
  .ret [.pointer (some { block:=b2,off:=(0:Nat):Addr })]) <|
 .es [Sc.val .l x0,.int .i64 0,.int .i64 y1.1] 122 fun b2 =>
 .ret [.pointer (some { block:=b2,off:=(0:Nat):Addr })]
theorem fS_l01New x0:qft aS_l01New 43 [Sc.val .l x0] (tS_l01New x0) :=fitK (by kernel_rfl)
def tI_restText (x0:qy8):T :=
 .rg <|
 .rq (ByteArray.size x0.1+{ data:={ toList:=[(32:UInt8)]:Array UInt8 }:ByteArray }.size≤(9223372036854775807:Nat)) <|
 .qc6 103 [qv1 x0.2] fun y1 =>
 .rq ((x0.1++{ data:={ toList:=[(32:UInt8)]:Array UInt8 }:ByteArray }).size+y1.size≤(9223372036854775807:Nat)) <|
 .ret [.string (x0.1++{ data:={ toList:=[(32:UInt8)]:Array UInt8 }:ByteArray }++y1)]
theorem fI_restText x0:qft qa0 47 [qv8 x0] (tI_restText x0) :=fitK (by kernel_rfl)
def tI_Join (x0:SlV) (x1:ByteArray):T :=
 .qc4 104 [Sc.val .l x0,.string x1] fun y1 =>
 .ret [.string y1]
theorem fI_Join x0 x1:qft qa0 48 [Sc.val .l x0,.string x1] (tI_Join x0 x1) :=fitK (by kernel_rfl)
def aX_EqualFunc_Rest:An:=⟨[(4,[.s 17],[.o (.o (.i .i64))])],[],[]⟩
def tX_EqualFunc_Rest (x0:SlV) (x1:SlV) (x2:Nat):T :=
 .br ((↑x0.n:Int) != (↑x1.n:Int)) (
  .rF) <|
 .lp [.o (.o (.i .i64))] [.v (.int .i64 0)] fun y1 =>
 .br (decide (y1.1<(↑x0.n:Int))) (
  .el x0.1 (x0.n) y1.1 fun y2 =>
  .ql11 (y2.add (Int.toNat y1.1*(4:Nat))) fun y3 =>
  .el x1.1 (x1.n) y1.1 fun y4 =>
  .ql11 (y4.add (Int.toNat y1.1*(4:Nat))) fun y5 =>
  .call false x2 [qv8 y3,qv8 y5] (.v (.o (.b))) fun y6 =>
  .bF y6 <|
 .nx 0 [.v (.int .i64 (IntKind.i64.wrap (y1.1+(1:Int))))]) <|
 .rT
theorem fX_EqualFunc_Rest x0 x1 x2:qft aX_EqualFunc_Rest 49 [Sc.val .l x0,Sc.val .l x1,(Value.func (Fn.func x2) { toList:=[]:Array Value } { toList:=[]:Array Value })] (tX_EqualFunc_Rest x0 x1 x2) :=fitK (by kernel_rfl)
def tI_RestsSame_1 (x0:qy8) (x1:qy8):T :=
 .br (ByteArray.toList x0.1 == ByteArray.toList x1.1) (
  .qc1 51 [qv1 x0.2,qv1 x1.2] fun y1 =>
  .ret [.bool y1]) <|
 .rF
theorem fI_RestsSame_1 x0 x1:qft qa0 50 [qv8 x0,qv8 x1] (tI_RestsSame_1 x0 x1) :=fitK (by kernel_rfl)
def tI_ratSame (x0:qy1) (x1:qy1):T :=
 .qc1 105 [qv0 (x0.1,x0.2.1,()),qv0 (x1.1,x1.2.1,())] fun y1 =>
 .br y1 (
  .qc1 106 [Sc.val .l x0.2.2.1,Sc.val .l x1.2.2.1] fun y2 =>
  .ret [.bool y2]) <|
 .rF
theorem fI_ratSame x0 x1:qft qa0 51 [qv1 x0,qv1 x1] (tI_ratSame x0 x1) :=fitK (by kernel_rfl)
def tI_CurKnown (x0:ByteArray):T :=
 .qc25 107 [.string x0] fun y1 =>
 .ret [.bool y1.2.1]
theorem fI_CurKnown x0:qft qa0 52 [.string x0] (tI_CurKnown x0) :=fitK (by kernel_rfl)
def tI_RatOk (x0:qy1):T :=
 .qc1 108 [qv0 (x0.1,x0.2.1,())] fun y1 =>
 .bF y1 <|
 .qc1 109 [Sc.val .l x0.2.2.1] fun y2 =>
 .bF y2 <|
 .br ((↑x0.2.2.1.n:Int) == (0:Int)) (
  .rF) <|
 .br (decide ((↑x0.2.2.1.n:Int) > (18:Int))) (
  .rF) <|
 .br (decide ((↑x0.2.1.n:Int) > (18:Int))) (
  .rF) <|
 .qc13 110 [Sc.val .l x0.2.1,Sc.val .l x0.2.2.1] fun y3 =>
 .br ((↑y3.n:Int) == (1:Int)) (
  .el y3.1 (y3.n) ((0:Int)) fun y4 =>
  .ql23 (y4.add (Int.toNat (0:Int)*(1:Nat))) fun y5 =>
  .ret [.bool (y5 == (1:Int))]) <|
 .rF
theorem fI_RatOk x0:qft qa0 53 [qv1 x0] (tI_RatOk x0) :=fitK (by kernel_rfl)
def tI_RatSign (x0:qy1):T :=
 .qc1 53 [qv1 x0] fun y1 =>
 .bn y1 (.ret [.int .i64 0]) <|
 .qc2 111 [qv0 (x0.1,x0.2.1,())] fun y2 =>
 .ret [.int .i64 y2]
theorem fI_RatSign x0:qft qa0 54 [qv1 x0] (tI_RatSign x0) :=fitK (by kernel_rfl)
def aI_natMul:An:=⟨[(3,[.s 5,.s 21],[.a 3,.o (.o (.i .i64))]),(7,[.s 5,.s 8,.s 28],[.a 3,.o (.o (.i .i64)),.o (.o (.i .i64))]),(14,[.s 5,.s 8,.s 11],[.a 3,.o (.o (.i .i64)),.o (.o (.i .i64))])],[],[]⟩
def tI_natMul (x0:SlV) (x1:SlV):T :=
 .rq ((0:Int)≤IntKind.i64.wrap (IntKind.i64.wrap ((↑x0.n:Int)+(↑x1.n:Int))+(1:Int))∧IntKind.i64.wrap (IntKind.i64.wrap ((↑x0.n:Int)+(↑x1.n:Int))+(1:Int))≤IntKind.i64.wrap (IntKind.i64.wrap ((↑x0.n:Int)+(↑x1.n:Int))+(1:Int))∧(↑(8:Nat):Int)*IntKind.i64.wrap (IntKind.i64.wrap ((↑x0.n:Int)+(↑x1.n:Int))+(1:Int))≤(281474976710656:Int)∧IntKind.i64.wrap (IntKind.i64.wrap ((↑x0.n:Int)+(↑x1.n:Int))+(1:Int))≤(9223372036854775807:Int)) <|
 .lp [.a 3,.o (.o (.i .i64))] [.a 3 ((IntKind.i64.wrap (IntKind.i64.wrap ((↑x0.n:Int)+(↑x1.n:Int))+(1:Int))).toNat) ((madeCells { toList:=[Value.int IntKind.i64 (0:Int)]:Array Value } ((IntKind.i64.wrap (IntKind.i64.wrap ((↑x0.n:Int)+(↑x1.n:Int))+(1:Int))).toNat*(1:Nat))).toList),.v (.int .i64 0)] fun y1 =>
 .br (decide (y1.2.1<(↑x0.n:Int))) (
  .el x0.1 (x0.n) y1.2.1 fun y2 =>
  .ql23 (y2.add (Int.toNat y1.2.1*(1:Nat))) fun y3 =>
  .lp [.a 3,.o (.o (.i .i64)),.o (.o (.i .i64))] [.a 3 y1.1.1 y1.1.2,.v (.int .i64 0),.v (.int .i64 0)] fun y4 =>
  .br (decide (y4.2.2.1<(↑x1.n:Int))) (
   .el x1.1 (x1.n) y4.2.2.1 fun y5 =>
   .ql23 (y5.add (Int.toNat y4.2.2.1*(1:Nat))) fun y6 =>
   .rq ((0:Int)≤IntKind.i64.wrap (y1.2.1+y4.2.2.1)∧IntKind.i64.wrap (y1.2.1+y4.2.2.1)<(↑y4.1.1:Int)) <|
 .xs y4.1.2 ((IntKind.i64.wrap (y1.2.1+y4.2.2.1)).toNat*(1:Nat)) (.o (.i .i64)) fun y7 =>
   .rq ((1000000000:Int)≠(0:Int)) <|
 .rq ((0:Int)≤IntKind.i64.wrap (y1.2.1+y4.2.2.1)∧IntKind.i64.wrap (y1.2.1+y4.2.2.1)<(↑y4.1.1:Int)) <|
 .rq ((IntKind.i64.wrap (y1.2.1+y4.2.2.1)).toNat*(1:Nat)+[Value.int IntKind.i64 ((IntKind.i64.wrap (y4.2.1+IntKind.i64.wrap (y7+IntKind.i64.wrap (y3*y6)))).tmod (1000000000:Int))].length≤y4.1.2.length) <|
 .rq ((1000000000:Int)≠(0:Int)) <|
 .nx 1 [.a 3 y4.1.1 (setl y4.1.2 ((IntKind.i64.wrap (y1.2.1+y4.2.2.1)).toNat*(1:Nat)) [Value.int IntKind.i64 ((IntKind.i64.wrap (y4.2.1+IntKind.i64.wrap (y7+IntKind.i64.wrap (y3*y6)))).tmod (1000000000:Int))]),.v (.int .i64 (IntKind.i64.wrap ((IntKind.i64.wrap (y4.2.1+IntKind.i64.wrap (y7+IntKind.i64.wrap (y3*y6)))).tdiv (1000000000:Int)))),.v (.int .i64 (IntKind.i64.wrap (y4.2.2.1+(1:Int))))]) <|
 .lp [.a 3,.o (.o (.i .i64)),.o (.o (.i .i64))] [.a 3 y4.1.1 y4.1.2,.v (.int .i64 y4.2.1),.v (.int .i64 (IntKind.i64.wrap (y1.2.1+(↑x1.n:Int))))] fun y5 =>
  .br (decide (y5.2.1 > (0:Int))) (
   .rq ((0:Int)≤y5.2.2.1∧y5.2.2.1<(↑y5.1.1:Int)) <|
 .xs y5.1.2 (Int.toNat y5.2.2.1*(1:Nat)) (.o (.i .i64)) fun y6 =>
   .rq ((1000000000:Int)≠(0:Int)) <|
 .rq ((0:Int)≤y5.2.2.1∧y5.2.2.1<(↑y5.1.1:Int)) <|
 .rq (Int.toNat y5.2.2.1*(1:Nat)+[Value.int IntKind.i64 ((IntKind.i64.wrap (y5.2.1+y6)).tmod (1000000000:Int))].length≤y5.1.2.length) <|
 .rq ((1000000000:Int)≠(0:Int)) <|
 .nx 2 [.a 3 y5.1.1 (setl y5.1.2 (Int.toNat y5.2.2.1*(1:Nat)) [Value.int IntKind.i64 ((IntKind.i64.wrap (y5.2.1+y6)).tmod (1000000000:Int))]),.v (.int .i64 (IntKind.i64.wrap ((IntKind.i64.wrap (y5.2.1+y6)).tdiv (1000000000:Int)))),.v (.int .i64 (IntKind.i64.wrap (y5.2.2.1+(1:Int))))]) <|
 .nx 0 [.a 3 y5.1.1 y5.1.2,.v (.int .i64 (IntKind.i64.wrap (y1.2.1+(1:Int))))]) <|
 .fz y1.1.1 y1.1.2 3 fun b2 c2 =>
 .qc13 121 [.slice (some { block:=b2,off:=(0:Nat):Addr }) y1.1.1 (c2)] fun y3 =>
 .ret [Sc.val .l y3]
theorem fI_natMul x0 x1:qft aI_natMul 65 [Sc.val .l x0,Sc.val .l x1] (tI_natMul x0 x1) :=fitK (by kernel_rfl)
def tS_Lines (x0:ByteArray):T :=
 .qc13 85 [.string x0,.string ({ data:={ toList:=[(10:UInt8)]:Array UInt8 }:ByteArray })] fun y1 =>
 .el y1.1 (y1.n) (IntKind.i64.wrap ((↑y1.n:Int)-(1:Int))) fun y2 =>
 .ql14 (y2.add ((IntKind.i64.wrap ((↑y1.n:Int)-(1:Int))).toNat*(1:Nat))) fun y3 =>
 .br (y3.toList == { data:={ toList:=[]:Array UInt8 }:ByteArray }.toList) (
  .rq ((0:Int)≤(0:Int)∧(0:Int)≤IntKind.i64.wrap ((↑y1.n:Int)-(1:Int))∧IntKind.i64.wrap ((↑y1.n:Int)-(1:Int))≤(↑y1.c:Int)∧(↑y1.c:Int)≤(↑y1.c:Int)) <|
 .ret [.slice (if (↑y1.c:Int).toNat=Int.toNat (0:Int) then y1.1 else Option.map (fun x=>x.add (Int.toNat (0:Int)*Go.Proofs.Tryz.prog.types[(9:Nat)].size)) y1.1) ((IntKind.i64.wrap ((↑y1.n:Int)-(1:Int))).toNat-Int.toNat (0:Int)) ((↑y1.c:Int).toNat-Int.toNat (0:Int))]) <|
 .ret [Sc.val .l y1]
theorem fS_Lines x0:qft qa0 66 [.string x0] (tS_Lines x0) :=fitK (by kernel_rfl)
def tS_l24Line (x0:qy2) (x1:ByteArray):T :=
 .qc13 33 [.string x1] fun y1 =>
 .qc26 122 [Sc.val .l y1] fun y2 =>
 .br (ByteArray.toList y2.1 == { data:={ toList:=[(112:UInt8),(105:UInt8),(118:UInt8),(111:UInt8),(116:UInt8)]:Array UInt8 }:ByteArray }.toList) (
  .br ((↑y2.2.1.n:Int) == (1:Int)) (
   .el y2.2.1.1 (y2.2.1.n) ((0:Int)) fun y3 =>
   .ql14 (y3.add (Int.toNat (0:Int)*(1:Nat))) fun y4 =>
   .ret [qv3 (x0.1,x0.2.1,y4,x0.2.2.2.1,()),.bool (true)]) <|
 .br (ByteArray.toList y2.1 == { data:={ toList:=[(114:UInt8),(97:UInt8),(116:UInt8),(101:UInt8)]:Array UInt8 }:ByteArray }.toList) (
   .qc4 92 [Sc.val .l y2.2.1,.string ({ data:={ toList:=[(32:UInt8)]:Array UInt8 }:ByteArray })] fun y3 =>
   .qc27 123 [.string y3] fun y4 =>
   .rq ([Value.string y4.1.1,Value.string y4.1.2.1,Value.bool y4.1.2.2.1,Value.slice y4.1.2.2.2.1.1 y4.1.2.2.2.1.n y4.1.2.2.2.1.c,Value.int IntKind.i64 y4.1.2.2.2.2.1].length=(1:Nat)*(5:Nat)) <|
 .rq (one [Value.string y4.1.1,Value.string y4.1.2.1,Value.bool y4.1.2.2.1,Value.slice y4.1.2.2.2.1.1 y4.1.2.2.2.1.n y4.1.2.2.2.1.c,Value.int IntKind.i64 y4.1.2.2.2.2.1]=true) <|
 .ap ({ a:=x0.2.2.2.1.1,n:=x0.2.2.2.1.n,c:=x0.2.2.2.1.c:SlV }) 5 72 [.string y4.1.1,.string y4.1.2.1,.bool y4.1.2.2.1,Sc.val .l y4.1.2.2.2.1,.int .i64 y4.1.2.2.2.2.1] ((1:Nat)) 104 fun y5 =>
   .ret [qv3 (x0.1,x0.2.1,x0.2.2.1,y5,()),.bool y4.2.1]) <|
 .br (ByteArray.toList y2.1 == { data:={ toList:=[(97:UInt8),(99:UInt8),(99:UInt8),(116:UInt8)]:Array UInt8 }:ByteArray }.toList) (
   .br ((↑y2.2.1.n:Int) == (3:Int)) (
    .rg <|
 .el y2.2.1.1 (y2.2.1.n) ((1:Int)) fun y3 =>
    .ql9 (y3.add (Int.toNat (1:Int)*(1:Nat))) fun y4 =>
    .rq (y4.size+{ data:={ toList:=[(32:UInt8)]:Array UInt8 }:ByteArray }.size≤(9223372036854775807:Nat)) <|
 .el y2.2.1.1 (y2.2.1.n) ((2:Int)) fun y5 =>
    .ql9 (y5.add (Int.toNat (2:Int)*(1:Nat))) fun y6 =>
    .rq ((y4++{ data:={ toList:=[(32:UInt8)]:Array UInt8 }:ByteArray }).size+y6.size≤(9223372036854775807:Nat)) <|
 .qc28 124 [.string (y4++{ data:={ toList:=[(32:UInt8)]:Array UInt8 }:ByteArray }++y6)] fun y7 =>
    .rg <|
 .el y2.2.1.1 (y2.2.1.n) ((0:Int)) fun y8 =>
    .ql9 (y8.add (Int.toNat (0:Int)*(1:Nat))) fun y9 =>
    .rq ([Value.string y9,Value.string y7.1.1,Value.bool y7.1.2.1,Value.slice y7.1.2.2.1.1 y7.1.2.2.1.n y7.1.2.2.1.c].length=(1:Nat)*(4:Nat)) <|
 .rq (one [Value.string y9,Value.string y7.1.1,Value.bool y7.1.2.1,Value.slice y7.1.2.2.1.1 y7.1.2.2.1.n y7.1.2.2.1.c]=true) <|
 .ap ({ a:=x0.1.1,n:=x0.1.n,c:=x0.1.c:SlV }) 4 64 [.string y9,.string y7.1.1,.bool y7.1.2.1,Sc.val .l y7.1.2.2.1] ((1:Nat)) 109 fun y10 =>
    .ret [qv3 (y10,x0.2.1,x0.2.2.1,x0.2.2.2.1,()),.bool y7.2.1]) <|
 .br (ByteArray.toList y2.1 == { data:={ toList:=[(114:UInt8),(101:UInt8),(115:UInt8),(116:UInt8)]:Array UInt8 }:ByteArray }.toList) (
    .br ((↑y2.2.1.n:Int) == (2:Int)) (
     .el y2.2.1.1 (y2.2.1.n) ((1:Int)) fun y3 =>
     .ql14 (y3.add (Int.toNat (1:Int)*(1:Nat))) fun y4 =>
     .qc22 34 [.string y4] fun y5 =>
     .rg <|
 .el y2.2.1.1 (y2.2.1.n) ((0:Int)) fun y6 =>
     .ql9 (y6.add (Int.toNat (0:Int)*(1:Nat))) fun y7 =>
     .rq ([Value.string y7,Value.bool y5.1.1,Value.slice y5.1.2.1.1 y5.1.2.1.n y5.1.2.1.c,Value.slice y5.1.2.2.1.1 y5.1.2.2.1.n y5.1.2.2.1.c].length=(1:Nat)*(4:Nat)) <|
 .rq (one [Value.string y7,Value.bool y5.1.1,Value.slice y5.1.2.1.1 y5.1.2.1.n y5.1.2.1.c,Value.slice y5.1.2.2.1.1 y5.1.2.2.1.n y5.1.2.2.1.c]=true) <|
 .ap ({ a:=x0.2.1.1,n:=x0.2.1.n,c:=x0.2.1.c:SlV }) 4 72 [.string y7,.bool y5.1.1,Sc.val .l y5.1.2.1,Sc.val .l y5.1.2.2.1] ((1:Nat)) 40 fun y8 =>
     .ret [qv3 (x0.1,y8,x0.2.2.1,x0.2.2.2.1,()),.bool y5.2.1]) <|
 .ret [qv3 x0,.bool (false)]) <|
 .ret [qv3 x0,.bool (false)]) <|
 .br (ByteArray.toList y2.1 == { data:={ toList:=[(114:UInt8),(101:UInt8),(115:UInt8),(116:UInt8)]:Array UInt8 }:ByteArray }.toList) (
   .br ((↑y2.2.1.n:Int) == (2:Int)) (
    .el y2.2.1.1 (y2.2.1.n) ((1:Int)) fun y3 =>
    .ql14 (y3.add (Int.toNat (1:Int)*(1:Nat))) fun y4 =>
    .qc22 34 [.string y4] fun y5 =>
    .rg <|
 .el y2.2.1.1 (y2.2.1.n) ((0:Int)) fun y6 =>
    .ql9 (y6.add (Int.toNat (0:Int)*(1:Nat))) fun y7 =>
    .rq ([Value.string y7,Value.bool y5.1.1,Value.slice y5.1.2.1.1 y5.1.2.1.n y5.1.2.1.c,Value.slice y5.1.2.2.1.1 y5.1.2.2.1.n y5.1.2.2.1.c].length=(1:Nat)*(4:Nat)) <|
 .rq (one [Value.string y7,Value.bool y5.1.1,Value.slice y5.1.2.1.1 y5.1.2.1.n y5.1.2.1.c,Value.slice y5.1.2.2.1.1 y5.1.2.2.1.n y5.1.2.2.1.c]=true) <|
 .ap ({ a:=x0.2.1.1,n:=x0.2.1.n,c:=x0.2.1.c:SlV }) 4 72 [.string y7,.bool y5.1.1,Sc.val .l y5.1.2.1,Sc.val .l y5.1.2.2.1] ((1:Nat)) 40 fun y8 =>
    .ret [qv3 (x0.1,y8,x0.2.2.1,x0.2.2.2.1,()),.bool y5.2.1]) <|
 .ret [qv3 x0,.bool (false)]) <|
 .ret [qv3 x0,.bool (false)]) <|
 .br (ByteArray.toList y2.1 == { data:={ toList:=[(114:UInt8),(97:UInt8),(116:UInt8),(101:UInt8)]:Array UInt8 }:ByteArray }.toList) (
  .qc4 92 [Sc.val .l y2.2.1,.string ({ data:={ toList:=[(32:UInt8)]:Array UInt8 }:ByteArray })] fun y3 =>
  .qc27 123 [.string y3] fun y4 =>
  .rq ([Value.string y4.1.1,Value.string y4.1.2.1,Value.bool y4.1.2.2.1,Value.slice y4.1.2.2.2.1.1 y4.1.2.2.2.1.n y4.1.2.2.2.1.c,Value.int IntKind.i64 y4.1.2.2.2.2.1].length=(1:Nat)*(5:Nat)) <|
 .rq (one [Value.string y4.1.1,Value.string y4.1.2.1,Value.bool y4.1.2.2.1,Value.slice y4.1.2.2.2.1.1 y4.1.2.2.2.1.n y4.1.2.2.2.1.c,Value.int IntKind.i64 y4.1.2.2.2.2.1]=true) <|
 .ap ({ a:=x0.2.2.2.1.1,n:=x0.2.2.2.1.n,c:=x0.2.2.2.1.c:SlV }) 5 72 [.string y4.1.1,.string y4.1.2.1,.bool y4.1.2.2.1,Sc.val .l y4.1.2.2.2.1,.int .i64 y4.1.2.2.2.2.1] ((1:Nat)) 104 fun y5 =>
  .ret [qv3 (x0.1,x0.2.1,x0.2.2.1,y5,()),.bool y4.2.1]) <|
 .br (ByteArray.toList y2.1 == { data:={ toList:=[(97:UInt8),(99:UInt8),(99:UInt8),(116:UInt8)]:Array UInt8 }:ByteArray }.toList) (
  .br ((↑y2.2.1.n:Int) == (3:Int)) (
   .rg <|
 .el y2.2.1.1 (y2.2.1.n) ((1:Int)) fun y3 =>
   .ql9 (y3.add (Int.toNat (1:Int)*(1:Nat))) fun y4 =>
   .rq (y4.size+{ data:={ toList:=[(32:UInt8)]:Array UInt8 }:ByteArray }.size≤(9223372036854775807:Nat)) <|
 .el y2.2.1.1 (y2.2.1.n) ((2:Int)) fun y5 =>
   .ql9 (y5.add (Int.toNat (2:Int)*(1:Nat))) fun y6 =>
   .rq ((y4++{ data:={ toList:=[(32:UInt8)]:Array UInt8 }:ByteArray }).size+y6.size≤(9223372036854775807:Nat)) <|
 .qc28 124 [.string (y4++{ data:={ toList:=[(32:UInt8)]:Array UInt8 }:ByteArray }++y6)] fun y7 =>
   .rg <|
 .el y2.2.1.1 (y2.2.1.n) ((0:Int)) fun y8 =>
   .ql9 (y8.add (Int.toNat (0:Int)*(1:Nat))) fun y9 =>
   .rq ([Value.string y9,Value.string y7.1.1,Value.bool y7.1.2.1,Value.slice y7.1.2.2.1.1 y7.1.2.2.1.n y7.1.2.2.1.c].length=(1:Nat)*(4:Nat)) <|
 .rq (one [Value.string y9,Value.string y7.1.1,Value.bool y7.1.2.1,Value.slice y7.1.2.2.1.1 y7.1.2.2.1.n y7.1.2.2.1.c]=true) <|
 .ap ({ a:=x0.1.1,n:=x0.1.n,c:=x0.1.c:SlV }) 4 64 [.string y9,.string y7.1.1,.bool y7.1.2.1,Sc.val .l y7.1.2.2.1] ((1:Nat)) 109 fun y10 =>
   .ret [qv3 (y10,x0.2.1,x0.2.2.1,x0.2.2.2.1,()),.bool y7.2.1]) <|
 .br (ByteArray.toList y2.1 == { data:={ toList:=[(114:UInt8),(101:UInt8),(115:UInt8),(116:UInt8)]:Array UInt8 }:ByteArray }.toList) (
   .br ((↑y2.2.1.n:Int) == (2:Int)) (
    .el y2.2.1.1 (y2.2.1.n) ((1:Int)) fun y3 =>
    .ql14 (y3.add (Int.toNat (1:Int)*(1:Nat))) fun y4 =>
    .qc22 34 [.string y4] fun y5 =>
    .rg <|
 .el y2.2.1.1 (y2.2.1.n) ((0:Int)) fun y6 =>
    .ql9 (y6.add (Int.toNat (0:Int)*(1:Nat))) fun y7 =>
    .rq ([Value.string y7,Value.bool y5.1.1,Value.slice y5.1.2.1.1 y5.1.2.1.n y5.1.2.1.c,Value.slice y5.1.2.2.1.1 y5.1.2.2.1.n y5.1.2.2.1.c].length=(1:Nat)*(4:Nat)) <|
 .rq (one [Value.string y7,Value.bool y5.1.1,Value.slice y5.1.2.1.1 y5.1.2.1.n y5.1.2.1.c,Value.slice y5.1.2.2.1.1 y5.1.2.2.1.n y5.1.2.2.1.c]=true) <|
 .ap ({ a:=x0.2.1.1,n:=x0.2.1.n,c:=x0.2.1.c:SlV }) 4 72 [.string y7,.bool y5.1.1,Sc.val .l y5.1.2.1,Sc.val .l y5.1.2.2.1] ((1:Nat)) 40 fun y8 =>
    .ret [qv3 (x0.1,y8,x0.2.2.1,x0.2.2.2.1,()),.bool y5.2.1]) <|
 .ret [qv3 x0,.bool (false)]) <|
 .ret [qv3 x0,.bool (false)]) <|
 .br (ByteArray.toList y2.1 == { data:={ toList:=[(114:UInt8),(101:UInt8),(115:UInt8),(116:UInt8)]:Array UInt8 }:ByteArray }.toList) (
  .br ((↑y2.2.1.n:Int) == (2:Int)) (
   .el y2.2.1.1 (y2.2.1.n) ((1:Int)) fun y3 =>
   .ql14 (y3.add (Int.toNat (1:Int)*(1:Nat))) fun y4 =>
   .qc22 34 [.string y4] fun y5 =>
   .rg <|
 .el y2.2.1.1 (y2.2.1.n) ((0:Int)) fun y6 =>
   .ql9 (y6.add (Int.toNat (0:Int)*(1:Nat))) fun y7 =>
   .rq ([Value.string y7,Value.bool y5.1.1,Value.slice y5.1.2.1.1 y5.1.2.1.n y5.1.2.1.c,Value.slice y5.1.2.2.1.1 y5.1.2.2.1.n y5.1.2.2.1.c].length=(1:Nat)*(4:Nat)) <|
 .rq (one [Value.string y7,Value.bool y5.1.1,Value.slice y5.1.2.1.1 y5.1.2.1.n y5.1.2.1.c,Value.slice y5.1.2.2.1.1 y5.1.2.2.1.n y5.1.2.2.1.c]=true) <|
 .ap ({ a:=x0.2.1.1,n:=x0.2.1.n,c:=x0.2.1.c:SlV }) 4 72 [.string y7,.bool y5.1.1,Sc.val .l y5.1.2.1,Sc.val .l y5.1.2.2.1] ((1:Nat)) 40 fun y8 =>
   .ret [qv3 (x0.1,y8,x0.2.2.1,x0.2.2.2.1,()),.bool y5.2.1]) <|
 .ret [qv3 x0,.bool (false)]) <|
 .ret [qv3 x0,.bool (false)]
theorem fS_l24Line x0 x1:qft qa0 67 [qv3 x0,.string x1] (tS_l24Line x0 x1) :=fitK (by kernel_rfl)
def tS_LedgerOk (x0:qy2):T :=
 .qc1 125 [qv5 (x0.1,())] fun y1 =>
 .br y1 (
  .qc1 35 [Sc.val .l x0.2.1] fun y2 =>
  .br y2 (
   .qc1 126 [qv7 x0.2.2] fun y3 =>
   .ret [.bool y3]) <|
 .rF) <|
 .rF
theorem fS_LedgerOk x0:qft qa0 68 [qv3 x0] (tS_LedgerOk x0) :=fitK (by kernel_rfl)
def aS_LedgerText:An:=⟨[(5,[.s 3,.s 22],[.o (.o (.s)),.o (.o (.i .i64))]),(10,[.s 3,.s 37],[.o (.o (.s)),.o (.o (.i .i64))]),(15,[.s 3,.s 56],[.o (.o (.s)),.o (.o (.i .i64))])],[],[]⟩
def tS_LedgerText (x0:qy2):T :=
 .qc1 68 [qv3 x0] fun y1 =>
 .bn y1 (.ret [.string ({ data:={ toList:=[]:Array UInt8 }:ByteArray })]) <|
 .rq ({ data:={ toList:=[(112:UInt8),(105:UInt8),(118:UInt8),(111:UInt8),(116:UInt8),(32:UInt8)]:Array UInt8 }:ByteArray }.size+ByteArray.size x0.2.2.1≤(9223372036854775807:Nat)) <|
 .rq (({ data:={ toList:=[(112:UInt8),(105:UInt8),(118:UInt8),(111:UInt8),(116:UInt8),(32:UInt8)]:Array UInt8 }:ByteArray }++x0.2.2.1).size+{ data:={ toList:=[(10:UInt8)]:Array UInt8 }:ByteArray }.size≤(9223372036854775807:Nat)) <|
 .lp [.o (.o (.s)),.o (.o (.i .i64))] [.v (.string ({ data:={ toList:=[(112:UInt8),(105:UInt8),(118:UInt8),(111:UInt8),(116:UInt8),(32:UInt8)]:Array UInt8 }:ByteArray }++x0.2.2.1++{ data:={ toList:=[(10:UInt8)]:Array UInt8 }:ByteArray })),.v (.int .i64 0)] fun y2 =>
 .br (decide (y2.2.1<(↑x0.2.2.2.1.n:Int))) (
  .el x0.2.2.2.1.1 (x0.2.2.2.1.n) y2.2.1 fun y3 =>
  .ql17 (y3.add (Int.toNat y2.2.1*(5:Nat))) fun y4 =>
  .rq (ByteArray.size y2.1+{ data:={ toList:=[(114:UInt8),(97:UInt8),(116:UInt8),(101:UInt8),(32:UInt8)]:Array UInt8 }:ByteArray }.size≤(9223372036854775807:Nat)) <|
 .qc4 127 [qv6 y4] fun y5 =>
  .rq ((y2.1++{ data:={ toList:=[(114:UInt8),(97:UInt8),(116:UInt8),(101:UInt8),(32:UInt8)]:Array UInt8 }:ByteArray }).size+y5.size≤(9223372036854775807:Nat)) <|
 .rq ((y2.1++{ data:={ toList:=[(114:UInt8),(97:UInt8),(116:UInt8),(101:UInt8),(32:UInt8)]:Array UInt8 }:ByteArray }++y5).size+{ data:={ toList:=[(10:UInt8)]:Array UInt8 }:ByteArray }.size≤(9223372036854775807:Nat)) <|
 .nx 0 [.v (.string (y2.1++{ data:={ toList:=[(114:UInt8),(97:UInt8),(116:UInt8),(101:UInt8),(32:UInt8)]:Array UInt8 }:ByteArray }++y5++{ data:={ toList:=[(10:UInt8)]:Array UInt8 }:ByteArray })),.v (.int .i64 (IntKind.i64.wrap (y2.2.1+(1:Int))))]) <|
 .lp [.o (.o (.s)),.o (.o (.i .i64))] [.v (.string y2.1),.v (.int .i64 0)] fun y3 =>
 .br (decide (y3.2.1<(↑x0.1.n:Int))) (
  .el x0.1.1 (x0.1.n) y3.2.1 fun y4 =>
  .ql18 (y4.add (Int.toNat y3.2.1*(4:Nat))) fun y5 =>
  .rg <|
 .rq (ByteArray.size y3.1+{ data:={ toList:=[(97:UInt8),(99:UInt8),(99:UInt8),(116:UInt8),(32:UInt8)]:Array UInt8 }:ByteArray }.size≤(9223372036854775807:Nat)) <|
 .rq ((y3.1++{ data:={ toList:=[(97:UInt8),(99:UInt8),(99:UInt8),(116:UInt8),(32:UInt8)]:Array UInt8 }:ByteArray }).size+ByteArray.size y5.1≤(9223372036854775807:Nat)) <|
 .rq ((y3.1++{ data:={ toList:=[(97:UInt8),(99:UInt8),(99:UInt8),(116:UInt8),(32:UInt8)]:Array UInt8 }:ByteArray }++y5.1).size+{ data:={ toList:=[(32:UInt8)]:Array UInt8 }:ByteArray }.size≤(9223372036854775807:Nat)) <|
 .qc6 128 [qv4 y5.2] fun y6 =>
  .rq ((y3.1++{ data:={ toList:=[(97:UInt8),(99:UInt8),(99:UInt8),(116:UInt8),(32:UInt8)]:Array UInt8 }:ByteArray }++y5.1++{ data:={ toList:=[(32:UInt8)]:Array UInt8 }:ByteArray }).size+y6.size≤(9223372036854775807:Nat)) <|
 .rq ((y3.1++{ data:={ toList:=[(97:UInt8),(99:UInt8),(99:UInt8),(116:UInt8),(32:UInt8)]:Array UInt8 }:ByteArray }++y5.1++{ data:={ toList:=[(32:UInt8)]:Array UInt8 }:ByteArray }++y6).size+{ data:={ toList:=[(10:UInt8)]:Array UInt8 }:ByteArray }.size≤(9223372036854775807:Nat)) <|
 .nx 1 [.v (.string (y3.1++{ data:={ toList:=[(97:UInt8),(99:UInt8),(99:UInt8),(116:UInt8),(32:UInt8)]:Array UInt8 }:ByteArray }++y5.1++{ data:={ toList:=[(32:UInt8)]:Array UInt8 }:ByteArray }++y6++{ data:={ toList:=[(10:UInt8)]:Array UInt8 }:ByteArray })),.v (.int .i64 (IntKind.i64.wrap (y3.2.1+(1:Int))))]) <|
 .lp [.o (.o (.s)),.o (.o (.i .i64))] [.v (.string y3.1),.v (.int .i64 0)] fun y4 =>
 .br (decide (y4.2.1<(↑x0.2.1.n:Int))) (
  .el x0.2.1.1 (x0.2.1.n) y4.2.1 fun y5 =>
  .ql11 (y5.add (Int.toNat y4.2.1*(4:Nat))) fun y6 =>
  .rg <|
 .rq (ByteArray.size y4.1+{ data:={ toList:=[(114:UInt8),(101:UInt8),(115:UInt8),(116:UInt8),(32:UInt8)]:Array UInt8 }:ByteArray }.size≤(9223372036854775807:Nat)) <|
 .rq ((y4.1++{ data:={ toList:=[(114:UInt8),(101:UInt8),(115:UInt8),(116:UInt8),(32:UInt8)]:Array UInt8 }:ByteArray }).size+ByteArray.size y6.1≤(9223372036854775807:Nat)) <|
 .rq ((y4.1++{ data:={ toList:=[(114:UInt8),(101:UInt8),(115:UInt8),(116:UInt8),(32:UInt8)]:Array UInt8 }:ByteArray }++y6.1).size+{ data:={ toList:=[(32:UInt8)]:Array UInt8 }:ByteArray }.size≤(9223372036854775807:Nat)) <|
 .qc6 88 [qv1 y6.2] fun y7 =>
  .rq ((y4.1++{ data:={ toList:=[(114:UInt8),(101:UInt8),(115:UInt8),(116:UInt8),(32:UInt8)]:Array UInt8 }:ByteArray }++y6.1++{ data:={ toList:=[(32:UInt8)]:Array UInt8 }:ByteArray }).size+y7.size≤(9223372036854775807:Nat)) <|
 .rq ((y4.1++{ data:={ toList:=[(114:UInt8),(101:UInt8),(115:UInt8),(116:UInt8),(32:UInt8)]:Array UInt8 }:ByteArray }++y6.1++{ data:={ toList:=[(32:UInt8)]:Array UInt8 }:ByteArray }++y7).size+{ data:={ toList:=[(10:UInt8)]:Array UInt8 }:ByteArray }.size≤(9223372036854775807:Nat)) <|
 .nx 2 [.v (.string (y4.1++{ data:={ toList:=[(114:UInt8),(101:UInt8),(115:UInt8),(116:UInt8),(32:UInt8)]:Array UInt8 }:ByteArray }++y6.1++{ data:={ toList:=[(32:UInt8)]:Array UInt8 }:ByteArray }++y7++{ data:={ toList:=[(10:UInt8)]:Array UInt8 }:ByteArray })),.v (.int .i64 (IntKind.i64.wrap (y4.2.1+(1:Int))))]) <|
 .ret [.string y4.1]
theorem fS_LedgerText x0:qft aS_LedgerText 69 [qv3 x0] (tS_LedgerText x0) :=fitK (by kernel_rfl)
def tI_Lines (x0:ByteArray):T :=
 .qc13 129 [.string x0,.string ({ data:={ toList:=[(10:UInt8)]:Array UInt8 }:ByteArray })] fun y1 =>
 .el y1.1 (y1.n) (IntKind.i64.wrap ((↑y1.n:Int)-(1:Int))) fun y2 =>
 .ql14 (y2.add ((IntKind.i64.wrap ((↑y1.n:Int)-(1:Int))).toNat*(1:Nat))) fun y3 =>
 .br (y3.toList == { data:={ toList:=[]:Array UInt8 }:ByteArray }.toList) (
  .rq ((0:Int)≤(0:Int)∧(0:Int)≤IntKind.i64.wrap ((↑y1.n:Int)-(1:Int))∧IntKind.i64.wrap ((↑y1.n:Int)-(1:Int))≤(↑y1.c:Int)∧(↑y1.c:Int)≤(↑y1.c:Int)) <|
 .ret [.slice (if (↑y1.c:Int).toNat=Int.toNat (0:Int) then y1.1 else Option.map (fun x=>x.add (Int.toNat (0:Int)*Go.Proofs.Tryz.prog.types[(9:Nat)].size)) y1.1) ((IntKind.i64.wrap ((↑y1.n:Int)-(1:Int))).toNat-Int.toNat (0:Int)) ((↑y1.c:Int).toNat-Int.toNat (0:Int))]) <|
 .ret [Sc.val .l y1]
theorem fI_Lines x0:qft qa0 70 [.string x0] (tI_Lines x0) :=fitK (by kernel_rfl)
def tI_readLine (x0:Addr) (x1:ByteArray):T :=
 .qc21 94 [.string x1,.string ({ data:={ toList:=[(32:UInt8)]:Array UInt8 }:ByteArray })] fun y1 =>
 .br (ByteArray.toList y1.1 == { data:={ toList:=[(112:UInt8),(105:UInt8),(118:UInt8),(111:UInt8),(116:UInt8)]:Array UInt8 }:ByteArray }.toList) (
  .st ((x0.add (2:Nat)).add (0:Nat)) [.string y1.2.1] <|
 .rT) <|
 .br (ByteArray.toList y1.1 == { data:={ toList:=[(114:UInt8),(97:UInt8),(116:UInt8),(101:UInt8)]:Array UInt8 }:ByteArray }.toList) (
  .qc27 130 [.string y1.2.1] fun y2 =>
  .rg <|
 .ql29 ((x0.add (2:Nat)).add (1:Nat)) fun y3 =>
  .rq ([Value.string y2.1.1,Value.string y2.1.2.1,Value.bool y2.1.2.2.1,Value.slice y2.1.2.2.2.1.1 y2.1.2.2.2.1.n y2.1.2.2.2.1.c,Value.int IntKind.i64 y2.1.2.2.2.2.1].length=(1:Nat)*(5:Nat)) <|
 .rq (one [Value.string y2.1.1,Value.string y2.1.2.1,Value.bool y2.1.2.2.1,Value.slice y2.1.2.2.2.1.1 y2.1.2.2.2.1.n y2.1.2.2.2.1.c,Value.int IntKind.i64 y2.1.2.2.2.2.1]=true) <|
 .ap ({ a:=y3.1,n:=y3.n,c:=y3.c:SlV }) 5 72 [.string y2.1.1,.string y2.1.2.1,.bool y2.1.2.2.1,Sc.val .l y2.1.2.2.2.1,.int .i64 y2.1.2.2.2.2.1] ((1:Nat)) 104 fun y4 =>
  .st ((x0.add (2:Nat)).add (1:Nat)) [Sc.val .l y4] <|
 .ret [.bool y2.2.1]) <|
 .br (ByteArray.toList y1.1 == { data:={ toList:=[(97:UInt8),(99:UInt8),(99:UInt8),(116:UInt8)]:Array UInt8 }:ByteArray }.toList) (
  .qc21 94 [.string y1.2.1,.string ({ data:={ toList:=[(32:UInt8)]:Array UInt8 }:ByteArray })] fun y2 =>
  .qc28 131 [.string y2.2.1] fun y3 =>
  .rg <|
 .ql29 ((x0.add (0:Nat)).add (0:Nat)) fun y4 =>
  .rq ([Value.string y2.1,Value.string y3.1.1,Value.bool y3.1.2.1,Value.slice y3.1.2.2.1.1 y3.1.2.2.1.n y3.1.2.2.1.c].length=(1:Nat)*(4:Nat)) <|
 .rq (one [Value.string y2.1,Value.string y3.1.1,Value.bool y3.1.2.1,Value.slice y3.1.2.2.1.1 y3.1.2.2.1.n y3.1.2.2.1.c]=true) <|
 .ap ({ a:=y4.1,n:=y4.n,c:=y4.c:SlV }) 4 64 [.string y2.1,.string y3.1.1,.bool y3.1.2.1,Sc.val .l y3.1.2.2.1] ((1:Nat)) 109 fun y5 =>
  .st ((x0.add (0:Nat)).add (0:Nat)) [Sc.val .l y5] <|
 .ret [.bool y3.2.1]) <|
 .br (ByteArray.toList y1.1 == { data:={ toList:=[(114:UInt8),(101:UInt8),(115:UInt8),(116:UInt8)]:Array UInt8 }:ByteArray }.toList) (
  .qc30 38 [.string y1.2.1] fun y2 =>
  .rg <|
 .ql29 (x0.add (1:Nat)) fun y3 =>
  .rq ([Value.string y2.1.1,Value.bool y2.1.2.1,Value.slice y2.1.2.2.1.1 y2.1.2.2.1.n y2.1.2.2.1.c,Value.slice y2.1.2.2.2.1.1 y2.1.2.2.2.1.n y2.1.2.2.2.1.c].length=(1:Nat)*(4:Nat)) <|
 .rq (one [Value.string y2.1.1,Value.bool y2.1.2.1,Value.slice y2.1.2.2.1.1 y2.1.2.2.1.n y2.1.2.2.1.c,Value.slice y2.1.2.2.2.1.1 y2.1.2.2.2.1.n y2.1.2.2.2.1.c]=true) <|
 .ap ({ a:=y3.1,n:=y3.n,c:=y3.c:SlV }) 4 72 [.string y2.1.1,.bool y2.1.2.1,Sc.val .l y2.1.2.2.1,Sc.val .l y2.1.2.2.2.1] ((1:Nat)) 40 fun y4 =>
  .st (x0.add (1:Nat)) [Sc.val .l y4] <|
 .ret [.bool y2.2.1]) <|
 .rF
theorem fI_readLine x0 x1:qft qa0 71 [.pointer (some x0),.string x1] (tI_readLine x0 x1) :=fitK (by kernel_rfl)
def tI_LedgerOk (x0:qy2):T :=
 .qc1 132 [qv5 (x0.1,())] fun y1 =>
 .br y1 (
  .qc1 17 [Sc.val .l x0.2.1] fun y2 =>
  .br y2 (
   .qc1 133 [qv7 x0.2.2] fun y3 =>
   .ret [.bool y3]) <|
 .rF) <|
 .rF
theorem fI_LedgerOk x0:qft qa0 72 [qv3 x0] (tI_LedgerOk x0) :=fitK (by kernel_rfl)
def tL_eqBook (x0:qy4) (x1:qy4):T :=
 .qc1 134 [Sc.val .l x0.1,Sc.val .l x1.1] fun y1 =>
 .bF y1 <|
 .rT
theorem fL_eqBook x0 x1:qft qa0 73 [qv5 x0,qv5 x1] (tL_eqBook x0 x1) :=fitK (by kernel_rfl)
def tL_eqRates (x0:qy6) (x1:qy6):T :=
 .br (!ByteArray.toList x0.1 == ByteArray.toList x1.1) (
  .rF) <|
 .qc1 135 [Sc.val .l x0.2.1,Sc.val .l x1.2.1] fun y1 =>
 .bF y1 <|
 .rT
theorem fL_eqRates x0 x1:qft qa0 74 [qv7 x0,qv7 x1] (tL_eqRates x0 x1) :=fitK (by kernel_rfl)
def tL_markBook (x0:qy4) (x1:Int):T :=
 .qc2 136 [Sc.val .l x0.1,.int .i64 x1] fun y1 =>
 .ret [.int .i64 y1]
theorem fL_markBook x0 x1:qft qa0 75 [qv5 x0,.int .i64 x1] (tL_markBook x0 x1) :=fitK (by kernel_rfl)
def tL_markRates (x0:qy6) (x1:Int):T :=
 .qc2 137 [Sc.val .l x0.2.1,.int .i64 x1] fun y1 =>
 .ret [.int .i64 y1]
theorem fL_markRates x0 x1:qft qa0 76 [qv7 x0,.int .i64 x1] (tL_markRates x0 x1) :=fitK (by kernel_rfl)
def tL_heldBook (x0:qy4) (x1:Int):T :=
 .qc2 138 [Sc.val .l x0.1,.int .i64 x1] fun y1 =>
 .br (decide (y1<(0:Int))) (
  .rM) <|
 .ret [.int .i64 y1]
theorem fL_heldBook x0 x1:qft qa0 77 [qv5 x0,.int .i64 x1] (tL_heldBook x0 x1) :=fitK (by kernel_rfl)
def tL_heldRates (x0:qy6) (x1:Int):T :=
 .qc2 139 [Sc.val .l x0.2.1,.int .i64 x1] fun y1 =>
 .br (decide (y1<(0:Int))) (
  .rM) <|
 .ret [.int .i64 y1]
theorem fL_heldRates x0 x1:qft qa0 78 [qv7 x0,.int .i64 x1] (tL_heldRates x0 x1) :=fitK (by kernel_rfl)
def aS_l20Draw:An:=⟨[(3,[.s 4,.c 3 0,.c 3 1,.c 3 2,.c 3 3],[.o (.o (.i .i64)),.o (.o (.l)),.o (.o (.l)),.o (.o (.s)),.o (.o (.l))])],[],[]⟩
def tS_l20Draw (x0:Addr):T :=
 .qc31 140 [.pointer (some x0)] fun y1 =>
 .qc32 141 [.pointer (some x0)] fun y2 =>
 .qc2 97 [.pointer (some x0),.int .i64 3] fun y3 =>
 .lp [.o (.o (.i .i64)),.o (.o (.l)),.o (.o (.l)),.o (.o (.s)),.o (.o (.l))] [.v (.int .i64 y3),.v (Sc.val .l y1.1),.v (.slice none 0 0),.v (.string y2.1),.v (Sc.val .l y2.2.1)] fun y4 =>
 .br (decide (y4.1 > (0:Int))) (
  .rf <|
 .cf 99 [.pointer (some x0)] (.v (.o (.s))) fun y5 =>
  .cf 100 [.pointer (some x0),.int .i64 1] (.v (.g [.b,.l,.l])) fun y6 =>
  .qc20 98 [Sc.val .l y4.2.2.1,.string y5,qv1 y6] fun y7 =>
  .br y7.2.1 (
   .nx 0 [.v (.int .i64 (IntKind.i64.wrap (y4.1-(1:Int)))),.v (Sc.val .l y4.2.1),.v (Sc.val .l y7.1),.v (.string y4.2.2.2.1),.v (Sc.val .l y4.2.2.2.2.1)]) <|
 .nx 0 [.v (.int .i64 (IntKind.i64.wrap (y4.1-(1:Int)))),.v (Sc.val .l y4.2.1),.v (Sc.val .l y4.2.2.1),.v (.string y4.2.2.2.1),.v (Sc.val .l y4.2.2.2.2.1)]) <|
 .ret [qv3 y4.2]
theorem fS_l20Draw x0:qft aS_l20Draw 79 [.pointer (some x0)] (tS_l20Draw x0) :=fitK (by kernel_rfl)
def tI_RateText (x0:qy5):T :=
 .qc1 142 [qv6 x0] fun y1 =>
 .bn y1 (.ret [.string ({ data:={ toList:=[]:Array UInt8 }:ByteArray })]) <|
 .rg <|
 .rq (ByteArray.size x0.1+{ data:={ toList:=[(32:UInt8)]:Array UInt8 }:ByteArray }.size≤(9223372036854775807:Nat)) <|
 .rq ((x0.1++{ data:={ toList:=[(32:UInt8)]:Array UInt8 }:ByteArray }).size+ByteArray.size x0.2.1≤(9223372036854775807:Nat)) <|
 .rq ((x0.1++{ data:={ toList:=[(32:UInt8)]:Array UInt8 }:ByteArray }++x0.2.1).size+{ data:={ toList:=[(32:UInt8)]:Array UInt8 }:ByteArray }.size≤(9223372036854775807:Nat)) <|
 .qc6 143 [qv2 x0.2.2] fun y2 =>
 .rq ((x0.1++{ data:={ toList:=[(32:UInt8)]:Array UInt8 }:ByteArray }++x0.2.1++{ data:={ toList:=[(32:UInt8)]:Array UInt8 }:ByteArray }).size+y2.size≤(9223372036854775807:Nat)) <|
 .ret [.string (x0.1++{ data:={ toList:=[(32:UInt8)]:Array UInt8 }:ByteArray }++x0.2.1++{ data:={ toList:=[(32:UInt8)]:Array UInt8 }:ByteArray }++y2)]
theorem fI_RateText x0:qft qa0 80 [qv6 x0] (tI_RateText x0) :=fitK (by kernel_rfl)
def tI_MoneyText (x0:qy3):T :=
 .qc1 144 [qv4 x0] fun y1 =>
 .bn y1 (.ret [.string ({ data:={ toList:=[]:Array UInt8 }:ByteArray })]) <|
 .rg <|
 .rq (ByteArray.size x0.1+{ data:={ toList:=[(32:UInt8)]:Array UInt8 }:ByteArray }.size≤(9223372036854775807:Nat)) <|
 .qc12 145 [.string x0.1] fun y2 =>
 .qc6 143 [qv2 (x0.2.1,x0.2.2.1,((y2):Int),())] fun y3 =>
 .rq ((x0.1++{ data:={ toList:=[(32:UInt8)]:Array UInt8 }:ByteArray }).size+y3.size≤(9223372036854775807:Nat)) <|
 .ret [.string (x0.1++{ data:={ toList:=[(32:UInt8)]:Array UInt8 }:ByteArray }++y3)]
theorem fI_MoneyText x0:qft qa0 81 [qv4 x0] (tI_MoneyText x0) :=fitK (by kernel_rfl)
def tI_BookSame (x0:qy4) (x1:qy4):T :=
 .qc1 146 [Sc.val .l x0.1,Sc.val .l x1.1,(Value.func (Fn.func (147:Nat)) { toList:=[]:Array Value } { toList:=[]:Array Value })] fun y1 =>
 .ret [.bool y1]
theorem fI_BookSame x0 x1:qft qa0 82 [qv5 x0,qv5 x1] (tI_BookSame x0 x1) :=fitK (by kernel_rfl)
def aX_EqualFunc_Rate:An:=⟨[(4,[.s 17],[.o (.o (.i .i64))])],[],[]⟩
def tX_EqualFunc_Rate (x0:SlV) (x1:SlV) (x2:Nat):T :=
 .br ((↑x0.n:Int) != (↑x1.n:Int)) (
  .rF) <|
 .lp [.o (.o (.i .i64))] [.v (.int .i64 0)] fun y1 =>
 .br (decide (y1.1<(↑x0.n:Int))) (
  .el x0.1 (x0.n) y1.1 fun y2 =>
  .ql17 (y2.add (Int.toNat y1.1*(5:Nat))) fun y3 =>
  .el x1.1 (x1.n) y1.1 fun y4 =>
  .ql17 (y4.add (Int.toNat y1.1*(5:Nat))) fun y5 =>
  .call false x2 [qv6 y3,qv6 y5] (.v (.o (.b))) fun y6 =>
  .bF y6 <|
 .nx 0 [.v (.int .i64 (IntKind.i64.wrap (y1.1+(1:Int))))]) <|
 .rT
theorem fX_EqualFunc_Rate x0 x1 x2:qft aX_EqualFunc_Rate 83 [Sc.val .l x0,Sc.val .l x1,(Value.func (Fn.func x2) { toList:=[]:Array Value } { toList:=[]:Array Value })] (tX_EqualFunc_Rate x0 x1 x2) :=fitK (by kernel_rfl)
def tI_rateSame (x0:qy5) (x1:qy5):T :=
 .br (ByteArray.toList x0.1 == ByteArray.toList x1.1) (
  .br (ByteArray.toList x0.2.1 == ByteArray.toList x1.2.1) (
   .qc1 149 [qv2 x0.2.2,qv2 x1.2.2] fun y1 =>
   .ret [.bool y1]) <|
 .rF) <|
 .rF
theorem fI_rateSame x0 x1:qft qa0 84 [qv6 x0,qv6 x1] (tI_rateSame x0 x1) :=fitK (by kernel_rfl)
def aS_CutAt:An:=⟨[(4,[.s 5,.s 6,.s 7],[.a 9,.o (.o (.i .i64)),.o (.o (.i .i64))]),(7,[.s 5,.s 6,.s 8],[.a 9,.o (.o (.i .i64)),.o (.o (.i .i64))])],[],[]⟩
def tS_CutAt (x0:ByteArray) (x1:ByteArray):T :=
 .lp [.a 9,.o (.o (.i .i64)),.o (.o (.i .i64))] [.a 9 ((0:Nat)) [],.v (.int .i64 0),.v (.int .i64 0)] fun y1 =>
 .br (decide (y1.2.2.1<(↑x0.size:Int))) (
  .lp [.a 9,.o (.o (.i .i64)),.o (.o (.i .i64))] [.a 9 y1.1.1 y1.1.2,.v (.int .i64 y1.2.1),.v (.int .i64 0)] fun y2 =>
  .br (decide (y2.2.2.1<(↑x1.size:Int))) (
   .rg <|
 .rq ((0:Int)≤y1.2.2.1∧y1.2.2.1<(↑x0.size:Int)) <|
 .rq ((0:Int)≤y2.2.2.1∧y2.2.2.1<(↑x1.size:Int)) <|
 .br (at0 x0 (Int.toNat y1.2.2.1) == at0 x1 (Int.toNat y2.2.2.1)) (
    .rq ((0:Int)≤y2.2.1∧y2.2.1≤y1.2.2.1∧y1.2.2.1≤(↑x0.size:Int)) <|
 .rq ([Value.string (x0.extract (Int.toNat y2.2.1) (Int.toNat y1.2.2.1))].length=(1:Nat)*(1:Nat)) <|
 .rq (one [Value.string (x0.extract (Int.toNat y2.2.1) (Int.toNat y1.2.2.1))]=true∧(y2.1.1+(1:Nat))*(16:Nat)≤(140737488355328:Nat)∧y2.1.1+(1:Nat)≤(9223372036854775807:Nat)) <|
 .nx 0 [.a 9 (y2.1.1+(1:Nat)) (y2.1.2++[Value.string (x0.extract (Int.toNat y2.2.1) (Int.toNat y1.2.2.1))]),.v (.int .i64 (IntKind.i64.wrap (y1.2.2.1+(1:Int)))),.v (.int .i64 (IntKind.i64.wrap (y1.2.2.1+(1:Int))))]) <|
 .nx 1 [.a 9 y2.1.1 y2.1.2,.v (.int .i64 y2.2.1),.v (.int .i64 (IntKind.i64.wrap (y2.2.2.1+(1:Int))))]) <|
 .nx 0 [.a 9 y2.1.1 y2.1.2,.v (.int .i64 y2.2.1),.v (.int .i64 (IntKind.i64.wrap (y1.2.2.1+(1:Int))))]) <|
 .rq ((0:Int)≤y1.2.1∧y1.2.1≤(↑x0.size:Int)∧(↑x0.size:Int)≤(↑x0.size:Int)) <|
 .rq ([Value.string (x0.extract (Int.toNat y1.2.1) (↑x0.size:Int).toNat)].length=(1:Nat)*(1:Nat)) <|
 .rq (one [Value.string (x0.extract (Int.toNat y1.2.1) (↑x0.size:Int).toNat)]=true∧(y1.1.1+(1:Nat))*(16:Nat)≤(140737488355328:Nat)∧y1.1.1+(1:Nat)≤(9223372036854775807:Nat)) <|
 .fz (y1.1.1+(1:Nat)) (y1.1.2++[Value.string (x0.extract (Int.toNat y1.2.1) (↑x0.size:Int).toNat)]) 9 fun b2 c2 =>
 .ret [.slice (some { block:=b2,off:=(0:Nat):Addr }) (y1.1.1+(1:Nat)) (c2)]
theorem fS_CutAt x0 x1:qft aS_CutAt 85 [.string x0,.string x1] (tS_CutAt x0 x1) :=fitK (by kernel_rfl)
def tS_StrInt (x0:ByteArray):T :=
 .br (decide ((↑x0.size:Int) > (0:Int))) (
  .rq ((0:Int)≤(0:Int)∧(0:Int)<(↑x0.size:Int)) <|
 .br (at0 x0 (Int.toNat (0:Int)) == (45:Int)) (
   .rq ((0:Int)≤(1:Int)∧(1:Int)≤(↑x0.size:Int)∧(↑x0.size:Int)≤(↑x0.size:Int)) <|
 .qc20 87 [.string (x0.extract (Int.toNat (1:Int)) (↑x0.size:Int).toNat)] fun y1 =>
   .bn y1.2.1 (.ret [qv0 ((false),nilS,()),.bool (false)]) <|
 .br (at0 x0 (Int.toNat (0:Int)) == (45:Int)) (
    .br ((↑y1.1.n:Int) == (0:Int)) (
     .ret [qv0 ((false),nilS,()),.bool (false)]) <|
 .ret [qv0 ((at0 x0 (Int.toNat (0:Int)) == (45:Int)),y1.1,()),.bool (true)]) <|
 .ret [qv0 ((at0 x0 (Int.toNat (0:Int)) == (45:Int)),y1.1,()),.bool (true)]) <|
 .qc20 87 [.string x0] fun y1 =>
  .bn y1.2.1 (.ret [qv0 ((false),nilS,()),.bool (false)]) <|
 .br (at0 x0 (Int.toNat (0:Int)) == (45:Int)) (
   .br ((↑y1.1.n:Int) == (0:Int)) (
    .ret [qv0 ((false),nilS,()),.bool (false)]) <|
 .ret [qv0 ((at0 x0 (Int.toNat (0:Int)) == (45:Int)),y1.1,()),.bool (true)]) <|
 .ret [qv0 ((at0 x0 (Int.toNat (0:Int)) == (45:Int)),y1.1,()),.bool (true)]) <|
 .qc20 87 [.string x0] fun y1 =>
 .bn y1.2.1 (.ret [qv0 ((false),nilS,()),.bool (false)]) <|
 .ret [qv0 ((false),y1.1,()),.bool (true)]
theorem fS_StrInt x0:qft qa0 86 [.string x0] (tS_StrInt x0) :=fitK (by kernel_rfl)
def aS_TextNat:An:=⟨[(5,[.s 4,.s 5],[.a 3,.o (.o (.i .i64))]),(12,[.s 7,.s 8],[.o (.o (.i .i64)),.o (.o (.i .i64))])],[],[]⟩
def tS_TextNat (x0:ByteArray):T :=
 .qc1 150 [.string x0] fun y1 =>
 .bn y1 (.ret [.slice none 0 0,.bool (false)]) <|
 .br (decide ((↑x0.size:Int) > (450:Int))) (
  .ret [.slice none 0 0,.bool (false)]) <|
 .br (decide ((↑x0.size:Int) > (1:Int))) (
  .rq ((0:Int)≤(0:Int)∧(0:Int)<(↑x0.size:Int)) <|
 .br (at0 x0 (Int.toNat (0:Int)) == (48:Int)) (
   .ret [.slice none 0 0,.bool (false)]) <|
 .lp [.a 3,.o (.o (.i .i64))] [.a 3 ((0:Nat)) [],.v (.int .i64 ((↑x0.size:Int)))] fun y2 =>
  .br (decide (y2.2.1 > (0:Int))) (
   .br (decide (IntKind.i64.wrap (y2.2.1-(9:Int))<(0:Int))) (
    .lp [.o (.o (.i .i64)),.o (.o (.i .i64))] [.v (.int .i64 0),.v (.int .i64 0)] fun y3 =>
    .br (decide (y3.2.1<y2.2.1)) (
     .rq ((0:Int)≤y3.2.1∧y3.2.1<(↑x0.size:Int)) <|
 .nx 1 [.v (.int .i64 (IntKind.i64.wrap (IntKind.i64.wrap (IntKind.i64.wrap (y3.1*(10:Int))+IntKind.i64.wrap (at0 x0 (Int.toNat y3.2.1)))-(48:Int)))),.v (.int .i64 (IntKind.i64.wrap (y3.2.1+(1:Int))))]) <|
 .rq ([Value.int IntKind.i64 y3.1].length=(1:Nat)*(1:Nat)) <|
 .rq (one [Value.int IntKind.i64 y3.1]=true∧(y2.1.1+(1:Nat))*(8:Nat)≤(140737488355328:Nat)∧y2.1.1+(1:Nat)≤(9223372036854775807:Nat)) <|
 .nx 0 [.a 3 (y2.1.1+(1:Nat)) (y2.1.2++[Value.int IntKind.i64 y3.1]),.v (.int .i64 (IntKind.i64.wrap (y2.2.1-(9:Int))))]) <|
 .lp [.o (.o (.i .i64)),.o (.o (.i .i64))] [.v (.int .i64 0),.v (.int .i64 (IntKind.i64.wrap (y2.2.1-(9:Int))))] fun y3 =>
   .br (decide (y3.2.1<y2.2.1)) (
    .rq ((0:Int)≤y3.2.1∧y3.2.1<(↑x0.size:Int)) <|
 .nx 1 [.v (.int .i64 (IntKind.i64.wrap (IntKind.i64.wrap (IntKind.i64.wrap (y3.1*(10:Int))+IntKind.i64.wrap (at0 x0 (Int.toNat y3.2.1)))-(48:Int)))),.v (.int .i64 (IntKind.i64.wrap (y3.2.1+(1:Int))))]) <|
 .rq ([Value.int IntKind.i64 y3.1].length=(1:Nat)*(1:Nat)) <|
 .rq (one [Value.int IntKind.i64 y3.1]=true∧(y2.1.1+(1:Nat))*(8:Nat)≤(140737488355328:Nat)∧y2.1.1+(1:Nat)≤(9223372036854775807:Nat)) <|
 .nx 0 [.a 3 (y2.1.1+(1:Nat)) (y2.1.2++[Value.int IntKind.i64 y3.1]),.v (.int .i64 (IntKind.i64.wrap (y2.2.1-(9:Int))))]) <|
 .fz y2.1.1 y2.1.2 3 fun b3 c3 =>
  .qc13 151 [.slice (some { block:=b3,off:=(0:Nat):Addr }) y2.1.1 (c3)] fun y4 =>
  .ret [Sc.val .l y4,.bool (true)]) <|
 .lp [.a 3,.o (.o (.i .i64))] [.a 3 ((0:Nat)) [],.v (.int .i64 ((↑x0.size:Int)))] fun y2 =>
 .br (decide (y2.2.1 > (0:Int))) (
  .br (decide (IntKind.i64.wrap (y2.2.1-(9:Int))<(0:Int))) (
   .lp [.o (.o (.i .i64)),.o (.o (.i .i64))] [.v (.int .i64 0),.v (.int .i64 0)] fun y3 =>
   .br (decide (y3.2.1<y2.2.1)) (
    .rq ((0:Int)≤y3.2.1∧y3.2.1<(↑x0.size:Int)) <|
 .nx 1 [.v (.int .i64 (IntKind.i64.wrap (IntKind.i64.wrap (IntKind.i64.wrap (y3.1*(10:Int))+IntKind.i64.wrap (at0 x0 (Int.toNat y3.2.1)))-(48:Int)))),.v (.int .i64 (IntKind.i64.wrap (y3.2.1+(1:Int))))]) <|
 .rq ([Value.int IntKind.i64 y3.1].length=(1:Nat)*(1:Nat)) <|
 .rq (one [Value.int IntKind.i64 y3.1]=true∧(y2.1.1+(1:Nat))*(8:Nat)≤(140737488355328:Nat)∧y2.1.1+(1:Nat)≤(9223372036854775807:Nat)) <|
 .nx 0 [.a 3 (y2.1.1+(1:Nat)) (y2.1.2++[Value.int IntKind.i64 y3.1]),.v (.int .i64 (IntKind.i64.wrap (y2.2.1-(9:Int))))]) <|
 .lp [.o (.o (.i .i64)),.o (.o (.i .i64))] [.v (.int .i64 0),.v (.int .i64 (IntKind.i64.wrap (y2.2.1-(9:Int))))] fun y3 =>
  .br (decide (y3.2.1<y2.2.1)) (
   .rq ((0:Int)≤y3.2.1∧y3.2.1<(↑x0.size:Int)) <|
 .nx 1 [.v (.int .i64 (IntKind.i64.wrap (IntKind.i64.wrap (IntKind.i64.wrap (y3.1*(10:Int))+IntKind.i64.wrap (at0 x0 (Int.toNat y3.2.1)))-(48:Int)))),.v (.int .i64 (IntKind.i64.wrap (y3.2.1+(1:Int))))]) <|
 .rq ([Value.int IntKind.i64 y3.1].length=(1:Nat)*(1:Nat)) <|
 .rq (one [Value.int IntKind.i64 y3.1]=true∧(y2.1.1+(1:Nat))*(8:Nat)≤(140737488355328:Nat)∧y2.1.1+(1:Nat)≤(9223372036854775807:Nat)) <|
 .nx 0 [.a 3 (y2.1.1+(1:Nat)) (y2.1.2++[Value.int IntKind.i64 y3.1]),.v (.int .i64 (IntKind.i64.wrap (y2.2.1-(9:Int))))]) <|
 .fz y2.1.1 y2.1.2 3 fun b3 c3 =>
 .qc13 151 [.slice (some { block:=b3,off:=(0:Nat):Addr }) y2.1.1 (c3)] fun y4 =>
 .ret [Sc.val .l y4,.bool (true)]
theorem fS_TextNat x0:qft aS_TextNat 87 [.string x0] (tS_TextNat x0) :=fitK (by kernel_rfl)
def tS_RatText (x0:qy1):T :=
 .qc1 90 [qv1 x0] fun y1 =>
 .bn y1 (.ret [.string ({ data:={ toList:=[]:Array UInt8 }:ByteArray })]) <|
 .fz ((1:Nat)) [.int .i64 1] 3 fun b2 c2 =>
 .qc2 152 [Sc.val .l x0.2.2.1,.slice (some { block:=b2,off:=(0:Nat):Addr }) ((1:Nat)) (c2)] fun y3 =>
 .br (y3 == (0:Int)) (
  .qc4 153 [qv0 (x0.1,x0.2.1,())] fun y4 =>
  .ret [.string y4]) <|
 .rg <|
 .qc6 153 [qv0 (x0.1,x0.2.1,())] fun y4 =>
 .rq (y4.size+{ data:={ toList:=[(47:UInt8)]:Array UInt8 }:ByteArray }.size≤(9223372036854775807:Nat)) <|
 .qc4 154 [Sc.val .l x0.2.2.1] fun y5 =>
 .rq ((y4++{ data:={ toList:=[(47:UInt8)]:Array UInt8 }:ByteArray }).size+y5.size≤(9223372036854775807:Nat)) <|
 .ret [.string (y4++{ data:={ toList:=[(47:UInt8)]:Array UInt8 }:ByteArray }++y5)]
theorem fS_RatText x0:qft qa0 88 [qv1 x0] (tS_RatText x0) :=fitK (by kernel_rfl)
def tS_CurKnown (x0:ByteArray):T :=
 .qc33 155 [.string x0] fun y1 =>
 .ret [.bool (!ByteArray.toList y1.1 == { data:={ toList:=[]:Array UInt8 }:ByteArray }.toList)]
theorem fS_CurKnown x0:qft qa0 89 [.string x0] (tS_CurKnown x0) :=fitK (by kernel_rfl)
def tS_RatOk (x0:qy1):T :=
 .qc1 156 [qv0 (x0.1,x0.2.1,())] fun y1 =>
 .bF y1 <|
 .qc1 157 [Sc.val .l x0.2.2.1] fun y2 =>
 .bF y2 <|
 .br ((↑x0.2.2.1.n:Int) == (0:Int)) (
  .rF) <|
 .br (decide ((↑x0.2.2.1.n:Int) > (18:Int))) (
  .rF) <|
 .br (decide ((↑x0.2.1.n:Int) > (18:Int))) (
  .rF) <|
 .qc13 158 [Sc.val .l x0.2.1,Sc.val .l x0.2.2.1] fun y3 =>
 .fz ((1:Nat)) [.int .i64 1] 3 fun b4 c4 =>
 .qc2 152 [Sc.val .l y3,.slice (some { block:=b4,off:=(0:Nat):Addr }) ((1:Nat)) (c4)] fun y5 =>
 .ret [.bool (y5 == (0:Int))]
theorem fS_RatOk x0:qft qa0 90 [qv1 x0] (tS_RatOk x0) :=fitK (by kernel_rfl)
def tS_RatSign (x0:qy1):T :=
 .rg <|
 .qc34 160 [] fun y1 =>
 .qc2 159 [qv1 x0,qv1 y1] fun y2 =>
 .ret [.int .i64 y2]
theorem fS_RatSign x0:qft qa0 91 [qv1 x0] (tS_RatSign x0) :=fitK (by kernel_rfl)
def aS_Join:An:=⟨[(3,[.s 5,.s 10],[.o (.o (.s)),.o (.o (.i .i64))])],[],[]⟩
def tS_Join (x0:SlV) (x1:ByteArray):T :=
 .lp [.o (.o (.s)),.o (.o (.i .i64))] [.v (.string ({ data:={ toList:=[]:Array UInt8 }:ByteArray })),.v (.int .i64 0)] fun y1 =>
 .br (decide (y1.2.1<(↑x0.n:Int))) (
  .el x0.1 (x0.n) y1.2.1 fun y2 =>
  .ql14 (y2.add (Int.toNat y1.2.1*(1:Nat))) fun y3 =>
  .br (decide (y1.2.1 > (0:Int))) (
   .rq (ByteArray.size y1.1+x1.size≤(9223372036854775807:Nat)) <|
 .rq ((y1.1++x1).size+y3.size≤(9223372036854775807:Nat)) <|
 .nx 0 [.v (.string (y1.1++x1++y3)),.v (.int .i64 (IntKind.i64.wrap (y1.2.1+(1:Int))))]) <|
 .rq (ByteArray.size y1.1+y3.size≤(9223372036854775807:Nat)) <|
 .nx 0 [.v (.string (y1.1++y3)),.v (.int .i64 (IntKind.i64.wrap (y1.2.1+(1:Int))))]) <|
 .ret [.string y1.1]
theorem fS_Join x0 x1:qft aS_Join 92 [Sc.val .l x0,.string x1] (tS_Join x0 x1) :=fitK (by kernel_rfl)
def tI_TextRat (x0:ByteArray):T :=
 .qc13 129 [.string x0,.string ({ data:={ toList:=[(47:UInt8)]:Array UInt8 }:ByteArray })] fun y1 =>
 .fz ((1:Nat)) [.int .i64 1] 3 fun b2 c2 =>
 .el y1.1 (y1.n) ((0:Int)) fun y3 =>
 .ql14 (y3.add (Int.toNat (0:Int)*(1:Nat))) fun y4 =>
 .qc19 165 [.string y4] fun y5 =>
 .bn y5.2.1 (.ret [qv1 ((false),nilS,nilS,()),.bool (false)]) <|
 .br (decide ((↑y1.n:Int) > (2:Int))) (
  .ret [qv1 ((false),nilS,nilS,()),.bool (false)]) <|
 .br ((↑y1.n:Int) == (2:Int)) (
  .el y1.1 (y1.n) ((1:Int)) fun y6 =>
  .ql14 (y6.add (Int.toNat (1:Int)*(1:Nat))) fun y7 =>
  .qc20 166 [.string y7] fun y8 =>
  .bn y8.2.1 (.ret [qv1 ((false),nilS,nilS,()),.bool (false)]) <|
 .qc1 167 [Sc.val .l y8.1] fun y9 =>
  .br y9 (
   .ret [qv1 ((false),nilS,nilS,()),.bool (false)]) <|
 .qc1 53 [qv1 (y5.1.1,y5.1.2.1,y8.1,())] fun y10 =>
  .bn y10 (.ret [qv1 ((false),nilS,nilS,()),.bool (false)]) <|
 .ret [qv1 (y5.1.1,y5.1.2.1,y8.1,()),.bool (true)]) <|
 .qc1 53 [qv1 (y5.1.1,y5.1.2.1,(⟨(some { block:=b2,off:=(0:Nat):Addr }),((1:Nat)),(c2)⟩:SlV),())] fun y6 =>
 .bn y6 (.ret [qv1 ((false),nilS,nilS,()),.bool (false)]) <|
 .ret [qv1 (y5.1.1,y5.1.2.1,(⟨(some { block:=b2,off:=(0:Nat):Addr }),((1:Nat)),(c2)⟩:SlV),()),.bool (true)]
theorem fI_TextRat x0:qft qa0 95 [.string x0] (tI_TextRat x0) :=fitK (by kernel_rfl)
def tL_eqRat (x0:qy1) (x1:qy1):T :=
 .qc1 168 [qv0 (x0.1,x0.2.1,()),qv0 (x1.1,x1.2.1,())] fun y1 =>
 .bF y1 <|
 .qc1 169 [Sc.val .l x0.2.2.1,Sc.val .l x1.2.2.1] fun y2 =>
 .bF y2 <|
 .rT
theorem fL_eqRat x0 x1:qft qa0 96 [qv1 x0,qv1 x1] (tL_eqRat x0 x1) :=fitK (by kernel_rfl)
def tS_l01Below (x0:Addr) (x1:Int):T :=
 .br (decide (x1≤(0:Int))) (
  .ret [.int .i64 0]) <|
 .br (decide (x1≤(256:Int))) (
  .qc2 170 [.pointer (some x0)] fun y1 =>
  .rq (x1≠(0:Int)) <|
 .ret [.int .i64 (y1.tmod x1)]) <|
 .qc2 170 [.pointer (some x0)] fun y1 =>
 .qc2 170 [.pointer (some x0)] fun y2 =>
 .qc2 170 [.pointer (some x0)] fun y3 =>
 .qc2 170 [.pointer (some x0)] fun y4 =>
 .rq (x1≠(0:Int)) <|
 .ret [.int .i64 ((IntKind.i64.wrap (IntKind.i64.wrap (IntKind.i64.wrap (IntKind.i64.wrap (y1*(16777216:Int))+IntKind.i64.wrap (y2*(65536:Int)))+IntKind.i64.wrap (y3*(256:Int)))+y4)).tmod x1)]
theorem fS_l01Below x0 x1:qft qa0 97 [.pointer (some x0),.int .i64 x1] (tS_l01Below x0 x1) :=fitK (by kernel_rfl)
def aS_RestAdd:An:=⟨[(7,[.s 10,.s 11,.s 38],[.o (.o (.l)),.o (.o (.b)),.o (.o (.i .i64))])],[(13,[.s 10,.s 11],[.o (.o (.l)),.o (.o (.b))]),(17,[.s 10],[.o (.o (.l))])],[]⟩
def tS_RestAdd (x0:SlV) (x1:ByteArray) (x2:qy1):T :=
 .rg <|
 .qc34 172 [Sc.val .l x0,.string x1] fun y1 =>
 .qc22 171 [qv1 y1,qv1 x2] fun y2 =>
 .qc1 35 [Sc.val .l x0] fun y3 =>
 .bn y3 (.ret [.slice none 0 0,.bool (false)]) <|
 .qc1 89 [.string x1] fun y4 =>
 .bn y4 (.ret [.slice none 0 0,.bool (false)]) <|
 .bn y2.2.1 (.ret [.slice none 0 0,.bool (false)]) <|
 .qc13 173 [Sc.val .l x0] fun y5 =>
 .fz ((0:Nat)) [] 40 fun b6 c6 =>
 .lp [.o (.o (.l)),.o (.o (.b)),.o (.o (.i .i64))] [.v (.slice (some { block:=b6,off:=(0:Nat):Addr }) ((0:Nat)) (c6)),.v (.bool (false)),.v (.int .i64 0)] fun y7 =>
 .br (decide (y7.2.2.1<(↑y5.n:Int))) (
  .el y5.1 (y5.n) y7.2.2.1 fun y8 =>
  .ql11 (y8.add (Int.toNat y7.2.2.1*(4:Nat))) fun y9 =>
  .br (ByteArray.toList y9.1 == x1.toList) (
   .nx 0 [.v (Sc.val .l y7.1),.v (.bool y7.2.1),.v (.int .i64 (IntKind.i64.wrap (y7.2.2.1+(1:Int))))]) <|
 .jn [.o (.o (.l)),.o (.o (.b))] (fun y10 =>
   .rq ([Value.string y9.1,Value.bool y9.2.1,Value.slice y9.2.2.1.1 y9.2.2.1.n y9.2.2.1.c,Value.slice y9.2.2.2.1.1 y9.2.2.2.1.n y9.2.2.2.1.c].length=(1:Nat)*(4:Nat)) <|
 .rq (one [Value.string y9.1,Value.bool y9.2.1,Value.slice y9.2.2.1.1 y9.2.2.1.n y9.2.2.1.c,Value.slice y9.2.2.2.1.1 y9.2.2.2.1.n y9.2.2.2.1.c]=true) <|
 .ap ({ a:=y10.1.1,n:=y10.1.n,c:=y10.1.c:SlV }) 4 72 [.string y9.1,.bool y9.2.1,Sc.val .l y9.2.2.1,Sc.val .l y9.2.2.2.1] ((1:Nat)) 40 fun y11 =>
   .nx 0 [.v (Sc.val .l y11),.v (.bool y10.2.1),.v (.int .i64 (IntKind.i64.wrap (y7.2.2.1+(1:Int))))]) <|
 .bn y7.2.1 (.br (!(Op.bytesLess (ByteArray.toList y9.1) x1.toList || ByteArray.toList y9.1 == x1.toList)) (
    .qc2 91 [qv1 y2.1] fun y10 =>
    .br (y10 != (0:Int)) (
     .rq ([Value.string x1,Value.bool y2.1.1,Value.slice y2.1.2.1.1 y2.1.2.1.n y2.1.2.1.c,Value.slice y2.1.2.2.1.1 y2.1.2.2.1.n y2.1.2.2.1.c].length=(1:Nat)*(4:Nat)) <|
 .rq (one [Value.string x1,Value.bool y2.1.1,Value.slice y2.1.2.1.1 y2.1.2.1.n y2.1.2.1.c,Value.slice y2.1.2.2.1.1 y2.1.2.2.1.n y2.1.2.2.1.c]=true) <|
 .ap ({ a:=y7.1.1,n:=y7.1.n,c:=y7.1.c:SlV }) 4 72 [.string x1,.bool y2.1.1,Sc.val .l y2.1.2.1,Sc.val .l y2.1.2.2.1] ((1:Nat)) 40 fun y11 =>
     .nx 1 [.v (Sc.val .l y11),.v (.bool (true))]) <|
 .nx 1 [.v (Sc.val .l y7.1),.v (.bool y7.2.1)]) <|
 .nx 1 [.v (Sc.val .l y7.1),.v (.bool y7.2.1)]) <|
 .nx 1 [.v (Sc.val .l y7.1),.v (.bool y7.2.1)]) <|
 .jn [.o (.o (.l))] (fun y8 =>
  .ret [Sc.val .l y8.1,.bool (true)]) <|
 .bn y7.2.1 (.qc2 91 [qv1 y2.1] fun y8 =>
  .br (y8 != (0:Int)) (
   .rq ([Value.string x1,Value.bool y2.1.1,Value.slice y2.1.2.1.1 y2.1.2.1.n y2.1.2.1.c,Value.slice y2.1.2.2.1.1 y2.1.2.2.1.n y2.1.2.2.1.c].length=(1:Nat)*(4:Nat)) <|
 .rq (one [Value.string x1,Value.bool y2.1.1,Value.slice y2.1.2.1.1 y2.1.2.1.n y2.1.2.1.c,Value.slice y2.1.2.2.1.1 y2.1.2.2.1.n y2.1.2.2.1.c]=true) <|
 .ap ({ a:=y7.1.1,n:=y7.1.n,c:=y7.1.c:SlV }) 4 72 [.string x1,.bool y2.1.1,Sc.val .l y2.1.2.1,Sc.val .l y2.1.2.2.1] ((1:Nat)) 40 fun y9 =>
   .nx 1 [.v (Sc.val .l y9)]) <|
 .nx 1 [.v (Sc.val .l y7.1)]) <|
 .nx 1 [.v (Sc.val .l y7.1)]
theorem fS_RestAdd x0 x1 x2:qft aS_RestAdd 98 [Sc.val .l x0,.string x1,qv1 x2] (tS_RestAdd x0 x1 x2) :=fitK (by kernel_rfl)
def tS_l08Cur (x0:Addr):T :=
 .fz ((7:Nat)) [.string ({ data:={ toList:=[(67:UInt8),(72:UInt8),(70:UInt8)]:Array UInt8 }:ByteArray }),.string ({ data:={ toList:=[(69:UInt8),(85:UInt8),(82:UInt8)]:Array UInt8 }:ByteArray }),.string ({ data:={ toList:=[(85:UInt8),(83:UInt8),(68:UInt8)]:Array UInt8 }:ByteArray }),.string ({ data:={ toList:=[(74:UInt8),(80:UInt8),(89:UInt8)]:Array UInt8 }:ByteArray }),.string ({ data:={ toList:=[(75:UInt8),(87:UInt8),(68:UInt8)]:Array UInt8 }:ByteArray }),.string ({ data:={ toList:=[(72:UInt8),(85:UInt8),(70:UInt8)]:Array UInt8 }:ByteArray }),.string ({ data:={ toList:=[(67:UInt8),(76:UInt8),(70:UInt8)]:Array UInt8 }:ByteArray })] 9 fun b1 c1 =>
 .qc4 174 [.pointer (some x0),.slice (some { block:=b1,off:=(0:Nat):Addr }) ((7:Nat)) (c1)] fun y2 =>
 .ret [.string y2]
theorem fS_l08Cur x0:qft qa0 99 [.pointer (some x0)] (tS_l08Cur x0) :=fitK (by kernel_rfl)
def tS_l05Draw (x0:Addr) (x1:Int):T :=
 .qc35 175 [.pointer (some x0),.int .i64 x1] fun y1 =>
 .qc2 97 [.pointer (some x0),.int .i64 12] fun y2 =>
 .qc13 176 [.int .i64 (IntKind.i64.wrap ((1:Int)+y2))] fun y3 =>
 .qc1 177 [.pointer (some x0),.int .i64 3] fun y4 =>
 .br y4 (
  .qc13 178 [.pointer (some x0),.int .i64 (IntKind.i64.wrap (x1-(1:Int)))] fun y5 =>
  .qc2 97 [.pointer (some x0),.int .i64 999] fun y6 =>
  .rq ([Value.int IntKind.i64 (IntKind.i64.wrap ((1:Int)+y6))].length=(1:Nat)*(1:Nat)) <|
 .rq (one [Value.int IntKind.i64 (IntKind.i64.wrap ((1:Int)+y6))]=true) <|
 .ap ({ a:=y5.1,n:=y5.n,c:=y5.c:SlV }) 1 8 [.int .i64 (IntKind.i64.wrap ((1:Int)+y6))] ((1:Nat)) 3 fun y7 =>
  .qc22 179 [qv0 y1,qv0 ((false),y7,())] fun y8 =>
  .bn y8.2.1 (.qc36 160 [] fun y9 =>
   .ret [qv1 y9]) <|
 .ret [qv1 y8.1]) <|
 .qc22 179 [qv0 y1,qv0 ((false),y3,())] fun y5 =>
 .bn y5.2.1 (.qc36 160 [] fun y6 =>
  .ret [qv1 y6]) <|
 .ret [qv1 y5.1]
theorem fS_l05Draw x0 x1:qft qa0 100 [.pointer (some x0),.int .i64 x1] (tS_l05Draw x0 x1) :=fitK (by kernel_rfl)
def tI_natCopy (x0:SlV):T :=
 .rd ({ a:=x0.1,n:=x0.n,c:=x0.c:SlV }) ((1:Nat)) fun y1 =>
 .rq (one y1=true∧((0:Nat)+x0.n)*(8:Nat)≤(140737488355328:Nat)∧(0:Nat)+x0.n≤(9223372036854775807:Nat)) <|
 .fz ((0:Nat)+x0.n) ([]++y1) 3 fun b2 c2 =>
 .ret [.slice (some { block:=b2,off:=(0:Nat):Addr }) ((0:Nat)+x0.n) (c2)]
theorem fI_natCopy x0:qft qa0 102 [Sc.val .l x0] (tI_natCopy x0) :=fitK (by kernel_rfl)
def tI_RatText (x0:qy1):T :=
 .qc1 53 [qv1 x0] fun y1 =>
 .bn y1 (.ret [.string ({ data:={ toList:=[]:Array UInt8 }:ByteArray })]) <|
 .qc1 167 [Sc.val .l x0.2.2.1] fun y2 =>
 .br y2 (
  .qc4 180 [qv0 (x0.1,x0.2.1,())] fun y3 =>
  .ret [.string y3]) <|
 .rg <|
 .qc6 180 [qv0 (x0.1,x0.2.1,())] fun y3 =>
 .rq (y3.size+{ data:={ toList:=[(47:UInt8)]:Array UInt8 }:ByteArray }.size≤(9223372036854775807:Nat)) <|
 .qc4 181 [Sc.val .l x0.2.2.1] fun y4 =>
 .rq ((y3++{ data:={ toList:=[(47:UInt8)]:Array UInt8 }:ByteArray }).size+y4.size≤(9223372036854775807:Nat)) <|
 .ret [.string (y3++{ data:={ toList:=[(47:UInt8)]:Array UInt8 }:ByteArray }++y4)]
theorem fI_RatText x0:qft qa0 103 [qv1 x0] (tI_RatText x0) :=fitK (by kernel_rfl)
def tI_intSame (x0:qy0) (x1:qy0):T :=
 .br (x0.1 == x1.1) (
  .qc1 106 [Sc.val .l x0.2.1,Sc.val .l x1.2.1] fun y1 =>
  .ret [.bool y1]) <|
 .rF
theorem fI_intSame x0 x1:qft qa0 105 [qv0 x0,qv0 x1] (tI_intSame x0 x1) :=fitK (by kernel_rfl)
def aI_sameInts:An:=⟨[(4,[.s 13],[.o (.o (.i .i64))])],[],[]⟩
def tI_sameInts (x0:SlV) (x1:SlV):T :=
 .br ((↑x0.n:Int) != (↑x1.n:Int)) (
  .rF) <|
 .lp [.o (.o (.i .i64))] [.v (.int .i64 0)] fun y1 =>
 .br (decide (y1.1<(↑x0.n:Int))) (
  .rg <|
 .el x0.1 (x0.n) y1.1 fun y2 =>
  .ql37 (y2.add (Int.toNat y1.1*(1:Nat))) fun y3 =>
  .el x1.1 (x1.n) y1.1 fun y4 =>
  .ql37 (y4.add (Int.toNat y1.1*(1:Nat))) fun y5 =>
  .br (y3 != y5) (
   .rF) <|
 .nx 0 [.v (.int .i64 (IntKind.i64.wrap (y1.1+(1:Int))))]) <|
 .rT
theorem fI_sameInts x0 x1:qft aI_sameInts 106 [Sc.val .l x0,Sc.val .l x1] (tI_sameInts x0 x1) :=fitK (by kernel_rfl)
def aI_currencyOf:An:=⟨[(2,[.s 7,.c 2 0,.c 2 1,.c 2 2,.c 2 3],[.o (.o (.i .i64)),.o (.o (.s)),.o (.o (.s)),.o (.o (.i .i64)),.o (.o (.i .i64))])],[],[]⟩
def tI_currencyOf (x0:ByteArray):T :=
 .ql38 ({ block:=(0:Nat),off:=(0:Nat):Addr }) fun y1 =>
 .lp [.o (.o (.i .i64)),.o (.o (.s)),.o (.o (.s)),.o (.o (.i .i64)),.o (.o (.i .i64))] [.v (.int .i64 0),.v (.string ({ data:={ toList:=[]:Array UInt8 }:ByteArray })),.v (.string ({ data:={ toList:=[]:Array UInt8 }:ByteArray })),.v (.int .i64 0),.v (.int .i64 0)] fun y2 =>
 .br (decide (y2.1<(20:Int))) (
  .rq ((0:Int)≤y2.1∧y2.1<(↑(20:Nat):Int)) <|
 .xs [.string y1.1,.string y1.2.1,.int .i64 y1.2.2.1,.int .i64 y1.2.2.2.1,.string y1.2.2.2.2.1,.string y1.2.2.2.2.2.1,.int .i64 y1.2.2.2.2.2.2.1,.int .i64 y1.2.2.2.2.2.2.2.1,.string y1.2.2.2.2.2.2.2.2.1,.string y1.2.2.2.2.2.2.2.2.2.1,.int .i64 y1.2.2.2.2.2.2.2.2.2.2.1,.int .i64 y1.2.2.2.2.2.2.2.2.2.2.2.1,.string y1.2.2.2.2.2.2.2.2.2.2.2.2.1,.string y1.2.2.2.2.2.2.2.2.2.2.2.2.2.1,.int .i64 y1.2.2.2.2.2.2.2.2.2.2.2.2.2.2.1,.int .i64 y1.2.2.2.2.2.2.2.2.2.2.2.2.2.2.2.1,.string y1.2.2.2.2.2.2.2.2.2.2.2.2.2.2.2.2.1,.string y1.2.2.2.2.2.2.2.2.2.2.2.2.2.2.2.2.2.1,.int .i64 y1.2.2.2.2.2.2.2.2.2.2.2.2.2.2.2.2.2.2.1,.int .i64 y1.2.2.2.2.2.2.2.2.2.2.2.2.2.2.2.2.2.2.2.1,.string y1.2.2.2.2.2.2.2.2.2.2.2.2.2.2.2.2.2.2.2.2.1,.string y1.2.2.2.2.2.2.2.2.2.2.2.2.2.2.2.2.2.2.2.2.2.1,.int .i64 y1.2.2.2.2.2.2.2.2.2.2.2.2.2.2.2.2.2.2.2.2.2.2.1,.int .i64 y1.2.2.2.2.2.2.2.2.2.2.2.2.2.2.2.2.2.2.2.2.2.2.2.1,.string y1.2.2.2.2.2.2.2.2.2.2.2.2.2.2.2.2.2.2.2.2.2.2.2.2.1,.string y1.2.2.2.2.2.2.2.2.2.2.2.2.2.2.2.2.2.2.2.2.2.2.2.2.2.1,.int .i64 y1.2.2.2.2.2.2.2.2.2.2.2.2.2.2.2.2.2.2.2.2.2.2.2.2.2.2.1,.int .i64 y1.2.2.2.2.2.2.2.2.2.2.2.2.2.2.2.2.2.2.2.2.2.2.2.2.2.2.2.1,.string y1.2.2.2.2.2.2.2.2.2.2.2.2.2.2.2.2.2.2.2.2.2.2.2.2.2.2.2.2.1,.string y1.2.2.2.2.2.2.2.2.2.2.2.2.2.2.2.2.2.2.2.2.2.2.2.2.2.2.2.2.2.1,.int .i64 y1.2.2.2.2.2.2.2.2.2.2.2.2.2.2.2.2.2.2.2.2.2.2.2.2.2.2.2.2.2.2.1,.int .i64 y1.2.2.2.2.2.2.2.2.2.2.2.2.2.2.2.2.2.2.2.2.2.2.2.2.2.2.2.2.2.2.2.1,.string y1.2.2.2.2.2.2.2.2.2.2.2.2.2.2.2.2.2.2.2.2.2.2.2.2.2.2.2.2.2.2.2.2.1,.string y1.2.2.2.2.2.2.2.2.2.2.2.2.2.2.2.2.2.2.2.2.2.2.2.2.2.2.2.2.2.2.2.2.2.1,.int .i64 y1.2.2.2.2.2.2.2.2.2.2.2.2.2.2.2.2.2.2.2.2.2.2.2.2.2.2.2.2.2.2.2.2.2.2.1,.int .i64 y1.2.2.2.2.2.2.2.2.2.2.2.2.2.2.2.2.2.2.2.2.2.2.2.2.2.2.2.2.2.2.2.2.2.2.2.1,.string y1.2.2.2.2.2.2.2.2.2.2.2.2.2.2.2.2.2.2.2.2.2.2.2.2.2.2.2.2.2.2.2.2.2.2.2.2.1,.string y1.2.2.2.2.2.2.2.2.2.2.2.2.2.2.2.2.2.2.2.2.2.2.2.2.2.2.2.2.2.2.2.2.2.2.2.2.2.1,.int .i64 y1.2.2.2.2.2.2.2.2.2.2.2.2.2.2.2.2.2.2.2.2.2.2.2.2.2.2.2.2.2.2.2.2.2.2.2.2.2.2.1,.int .i64 y1.2.2.2.2.2.2.2.2.2.2.2.2.2.2.2.2.2.2.2.2.2.2.2.2.2.2.2.2.2.2.2.2.2.2.2.2.2.2.2.1,.string y1.2.2.2.2.2.2.2.2.2.2.2.2.2.2.2.2.2.2.2.2.2.2.2.2.2.2.2.2.2.2.2.2.2.2.2.2.2.2.2.2.1,.string y1.2.2.2.2.2.2.2.2.2.2.2.2.2.2.2.2.2.2.2.2.2.2.2.2.2.2.2.2.2.2.2.2.2.2.2.2.2.2.2.2.2.1,.int .i64 y1.2.2.2.2.2.2.2.2.2.2.2.2.2.2.2.2.2.2.2.2.2.2.2.2.2.2.2.2.2.2.2.2.2.2.2.2.2.2.2.2.2.2.1,.int .i64 y1.2.2.2.2.2.2.2.2.2.2.2.2.2.2.2.2.2.2.2.2.2.2.2.2.2.2.2.2.2.2.2.2.2.2.2.2.2.2.2.2.2.2.2.1,.string y1.2.2.2.2.2.2.2.2.2.2.2.2.2.2.2.2.2.2.2.2.2.2.2.2.2.2.2.2.2.2.2.2.2.2.2.2.2.2.2.2.2.2.2.2.1,.string y1.2.2.2.2.2.2.2.2.2.2.2.2.2.2.2.2.2.2.2.2.2.2.2.2.2.2.2.2.2.2.2.2.2.2.2.2.2.2.2.2.2.2.2.2.2.1,.int .i64 y1.2.2.2.2.2.2.2.2.2.2.2.2.2.2.2.2.2.2.2.2.2.2.2.2.2.2.2.2.2.2.2.2.2.2.2.2.2.2.2.2.2.2.2.2.2.2.1,.int .i64 y1.2.2.2.2.2.2.2.2.2.2.2.2.2.2.2.2.2.2.2.2.2.2.2.2.2.2.2.2.2.2.2.2.2.2.2.2.2.2.2.2.2.2.2.2.2.2.2.1,.string y1.2.2.2.2.2.2.2.2.2.2.2.2.2.2.2.2.2.2.2.2.2.2.2.2.2.2.2.2.2.2.2.2.2.2.2.2.2.2.2.2.2.2.2.2.2.2.2.2.1,.string y1.2.2.2.2.2.2.2.2.2.2.2.2.2.2.2.2.2.2.2.2.2.2.2.2.2.2.2.2.2.2.2.2.2.2.2.2.2.2.2.2.2.2.2.2.2.2.2.2.2.1,.int .i64 y1.2.2.2.2.2.2.2.2.2.2.2.2.2.2.2.2.2.2.2.2.2.2.2.2.2.2.2.2.2.2.2.2.2.2.2.2.2.2.2.2.2.2.2.2.2.2.2.2.2.2.1,.int .i64 y1.2.2.2.2.2.2.2.2.2.2.2.2.2.2.2.2.2.2.2.2.2.2.2.2.2.2.2.2.2.2.2.2.2.2.2.2.2.2.2.2.2.2.2.2.2.2.2.2.2.2.2.1,.string y1.2.2.2.2.2.2.2.2.2.2.2.2.2.2.2.2.2.2.2.2.2.2.2.2.2.2.2.2.2.2.2.2.2.2.2.2.2.2.2.2.2.2.2.2.2.2.2.2.2.2.2.2.1,.string y1.2.2.2.2.2.2.2.2.2.2.2.2.2.2.2.2.2.2.2.2.2.2.2.2.2.2.2.2.2.2.2.2.2.2.2.2.2.2.2.2.2.2.2.2.2.2.2.2.2.2.2.2.2.1,.int .i64 y1.2.2.2.2.2.2.2.2.2.2.2.2.2.2.2.2.2.2.2.2.2.2.2.2.2.2.2.2.2.2.2.2.2.2.2.2.2.2.2.2.2.2.2.2.2.2.2.2.2.2.2.2.2.2.1,.int .i64 y1.2.2.2.2.2.2.2.2.2.2.2.2.2.2.2.2.2.2.2.2.2.2.2.2.2.2.2.2.2.2.2.2.2.2.2.2.2.2.2.2.2.2.2.2.2.2.2.2.2.2.2.2.2.2.2.1,.string y1.2.2.2.2.2.2.2.2.2.2.2.2.2.2.2.2.2.2.2.2.2.2.2.2.2.2.2.2.2.2.2.2.2.2.2.2.2.2.2.2.2.2.2.2.2.2.2.2.2.2.2.2.2.2.2.2.1,.string y1.2.2.2.2.2.2.2.2.2.2.2.2.2.2.2.2.2.2.2.2.2.2.2.2.2.2.2.2.2.2.2.2.2.2.2.2.2.2.2.2.2.2.2.2.2.2.2.2.2.2.2.2.2.2.2.2.2.1,.int .i64 y1.2.2.2.2.2.2.2.2.2.2.2.2.2.2.2.2.2.2.2.2.2.2.2.2.2.2.2.2.2.2.2.2.2.2.2.2.2.2.2.2.2.2.2.2.2.2.2.2.2.2.2.2.2.2.2.2.2.2.1,.int .i64 y1.2.2.2.2.2.2.2.2.2.2.2.2.2.2.2.2.2.2.2.2.2.2.2.2.2.2.2.2.2.2.2.2.2.2.2.2.2.2.2.2.2.2.2.2.2.2.2.2.2.2.2.2.2.2.2.2.2.2.2.1,.string y1.2.2.2.2.2.2.2.2.2.2.2.2.2.2.2.2.2.2.2.2.2.2.2.2.2.2.2.2.2.2.2.2.2.2.2.2.2.2.2.2.2.2.2.2.2.2.2.2.2.2.2.2.2.2.2.2.2.2.2.2.1,.string y1.2.2.2.2.2.2.2.2.2.2.2.2.2.2.2.2.2.2.2.2.2.2.2.2.2.2.2.2.2.2.2.2.2.2.2.2.2.2.2.2.2.2.2.2.2.2.2.2.2.2.2.2.2.2.2.2.2.2.2.2.2.1,.int .i64 y1.2.2.2.2.2.2.2.2.2.2.2.2.2.2.2.2.2.2.2.2.2.2.2.2.2.2.2.2.2.2.2.2.2.2.2.2.2.2.2.2.2.2.2.2.2.2.2.2.2.2.2.2.2.2.2.2.2.2.2.2.2.2.1,.int .i64 y1.2.2.2.2.2.2.2.2.2.2.2.2.2.2.2.2.2.2.2.2.2.2.2.2.2.2.2.2.2.2.2.2.2.2.2.2.2.2.2.2.2.2.2.2.2.2.2.2.2.2.2.2.2.2.2.2.2.2.2.2.2.2.2.1,.string y1.2.2.2.2.2.2.2.2.2.2.2.2.2.2.2.2.2.2.2.2.2.2.2.2.2.2.2.2.2.2.2.2.2.2.2.2.2.2.2.2.2.2.2.2.2.2.2.2.2.2.2.2.2.2.2.2.2.2.2.2.2.2.2.2.1,.string y1.2.2.2.2.2.2.2.2.2.2.2.2.2.2.2.2.2.2.2.2.2.2.2.2.2.2.2.2.2.2.2.2.2.2.2.2.2.2.2.2.2.2.2.2.2.2.2.2.2.2.2.2.2.2.2.2.2.2.2.2.2.2.2.2.2.1,.int .i64 y1.2.2.2.2.2.2.2.2.2.2.2.2.2.2.2.2.2.2.2.2.2.2.2.2.2.2.2.2.2.2.2.2.2.2.2.2.2.2.2.2.2.2.2.2.2.2.2.2.2.2.2.2.2.2.2.2.2.2.2.2.2.2.2.2.2.2.1,.int .i64 y1.2.2.2.2.2.2.2.2.2.2.2.2.2.2.2.2.2.2.2.2.2.2.2.2.2.2.2.2.2.2.2.2.2.2.2.2.2.2.2.2.2.2.2.2.2.2.2.2.2.2.2.2.2.2.2.2.2.2.2.2.2.2.2.2.2.2.2.1,.string y1.2.2.2.2.2.2.2.2.2.2.2.2.2.2.2.2.2.2.2.2.2.2.2.2.2.2.2.2.2.2.2.2.2.2.2.2.2.2.2.2.2.2.2.2.2.2.2.2.2.2.2.2.2.2.2.2.2.2.2.2.2.2.2.2.2.2.2.2.1,.string y1.2.2.2.2.2.2.2.2.2.2.2.2.2.2.2.2.2.2.2.2.2.2.2.2.2.2.2.2.2.2.2.2.2.2.2.2.2.2.2.2.2.2.2.2.2.2.2.2.2.2.2.2.2.2.2.2.2.2.2.2.2.2.2.2.2.2.2.2.2.1,.int .i64 y1.2.2.2.2.2.2.2.2.2.2.2.2.2.2.2.2.2.2.2.2.2.2.2.2.2.2.2.2.2.2.2.2.2.2.2.2.2.2.2.2.2.2.2.2.2.2.2.2.2.2.2.2.2.2.2.2.2.2.2.2.2.2.2.2.2.2.2.2.2.2.1,.int .i64 y1.2.2.2.2.2.2.2.2.2.2.2.2.2.2.2.2.2.2.2.2.2.2.2.2.2.2.2.2.2.2.2.2.2.2.2.2.2.2.2.2.2.2.2.2.2.2.2.2.2.2.2.2.2.2.2.2.2.2.2.2.2.2.2.2.2.2.2.2.2.2.2.1,.string y1.2.2.2.2.2.2.2.2.2.2.2.2.2.2.2.2.2.2.2.2.2.2.2.2.2.2.2.2.2.2.2.2.2.2.2.2.2.2.2.2.2.2.2.2.2.2.2.2.2.2.2.2.2.2.2.2.2.2.2.2.2.2.2.2.2.2.2.2.2.2.2.2.1,.string y1.2.2.2.2.2.2.2.2.2.2.2.2.2.2.2.2.2.2.2.2.2.2.2.2.2.2.2.2.2.2.2.2.2.2.2.2.2.2.2.2.2.2.2.2.2.2.2.2.2.2.2.2.2.2.2.2.2.2.2.2.2.2.2.2.2.2.2.2.2.2.2.2.2.1,.int .i64 y1.2.2.2.2.2.2.2.2.2.2.2.2.2.2.2.2.2.2.2.2.2.2.2.2.2.2.2.2.2.2.2.2.2.2.2.2.2.2.2.2.2.2.2.2.2.2.2.2.2.2.2.2.2.2.2.2.2.2.2.2.2.2.2.2.2.2.2.2.2.2.2.2.2.2.1,.int .i64 y1.2.2.2.2.2.2.2.2.2.2.2.2.2.2.2.2.2.2.2.2.2.2.2.2.2.2.2.2.2.2.2.2.2.2.2.2.2.2.2.2.2.2.2.2.2.2.2.2.2.2.2.2.2.2.2.2.2.2.2.2.2.2.2.2.2.2.2.2.2.2.2.2.2.2.2.1,.string y1.2.2.2.2.2.2.2.2.2.2.2.2.2.2.2.2.2.2.2.2.2.2.2.2.2.2.2.2.2.2.2.2.2.2.2.2.2.2.2.2.2.2.2.2.2.2.2.2.2.2.2.2.2.2.2.2.2.2.2.2.2.2.2.2.2.2.2.2.2.2.2.2.2.2.2.2.1,.string y1.2.2.2.2.2.2.2.2.2.2.2.2.2.2.2.2.2.2.2.2.2.2.2.2.2.2.2.2.2.2.2.2.2.2.2.2.2.2.2.2.2.2.2.2.2.2.2.2.2.2.2.2.2.2.2.2.2.2.2.2.2.2.2.2.2.2.2.2.2.2.2.2.2.2.2.2.2.1,.int .i64 y1.2.2.2.2.2.2.2.2.2.2.2.2.2.2.2.2.2.2.2.2.2.2.2.2.2.2.2.2.2.2.2.2.2.2.2.2.2.2.2.2.2.2.2.2.2.2.2.2.2.2.2.2.2.2.2.2.2.2.2.2.2.2.2.2.2.2.2.2.2.2.2.2.2.2.2.2.2.2.1,.int .i64 y1.2.2.2.2.2.2.2.2.2.2.2.2.2.2.2.2.2.2.2.2.2.2.2.2.2.2.2.2.2.2.2.2.2.2.2.2.2.2.2.2.2.2.2.2.2.2.2.2.2.2.2.2.2.2.2.2.2.2.2.2.2.2.2.2.2.2.2.2.2.2.2.2.2.2.2.2.2.2.2.1] (Int.toNat y2.1*(4:Nat)) (.g [.s,.s,.i .i64,.i .i64]) fun y3 =>
  .br (ByteArray.toList y3.1 == x0.toList) (
   .ret [qv10 y3,.bool (true)]) <|
 .nx 0 [.v (.int .i64 (IntKind.i64.wrap (y2.1+(1:Int)))),.v (.string y2.2.1),.v (.string y2.2.2.1),.v (.int .i64 y2.2.2.2.1),.v (.int .i64 y2.2.2.2.2.1)]) <|
 .ret [qv10 (({ data:={ toList:=[]:Array UInt8 }:ByteArray }),({ data:={ toList:=[]:Array UInt8 }:ByteArray }),(((0:Int)):Int),(((0:Int)):Int),()),.bool (false)]
theorem fI_currencyOf x0:qft aI_currencyOf 107 [.string x0] (tI_currencyOf x0) :=fitK (by kernel_rfl)
def tI_IntOk (x0:qy0):T :=
 .qc1 109 [Sc.val .l x0.2.1] fun y1 =>
 .br y1 (
  .br (!x0.1) (
   .rT) <|
 .ret [.bool (decide ((↑x0.2.1.n:Int) > (0:Int)))]) <|
 .rF
theorem fI_IntOk x0:qft qa0 108 [qv0 x0] (tI_IntOk x0) :=fitK (by kernel_rfl)
def aI_NatOk:An:=⟨[(4,[.s 24],[.o (.o (.i .i64))])],[],[]⟩
def tI_NatOk (x0:SlV):T :=
 .br (decide ((↑x0.n:Int) > (50:Int))) (
  .rF) <|
 .br (decide ((↑x0.n:Int) > (0:Int))) (
  .el x0.1 (x0.n) (IntKind.i64.wrap ((↑x0.n:Int)-(1:Int))) fun y1 =>
  .ql23 (y1.add ((IntKind.i64.wrap ((↑x0.n:Int)-(1:Int))).toNat*(1:Nat))) fun y2 =>
  .br (y2 == (0:Int)) (
   .rF) <|
 .lp [.o (.o (.i .i64))] [.v (.int .i64 0)] fun y3 =>
  .br (decide (y3.1<(↑x0.n:Int))) (
   .el x0.1 (x0.n) y3.1 fun y4 =>
   .ql23 (y4.add (Int.toNat y3.1*(1:Nat))) fun y5 =>
   .br (decide (y5<(0:Int))) (
    .rF) <|
 .br (decide (y5≥(1000000000:Int))) (
    .rF) <|
 .nx 0 [.v (.int .i64 (IntKind.i64.wrap (y3.1+(1:Int))))]) <|
 .rT) <|
 .lp [.o (.o (.i .i64))] [.v (.int .i64 0)] fun y1 =>
 .br (decide (y1.1<(↑x0.n:Int))) (
  .el x0.1 (x0.n) y1.1 fun y2 =>
  .ql23 (y2.add (Int.toNat y1.1*(1:Nat))) fun y3 =>
  .br (decide (y3<(0:Int))) (
   .rF) <|
 .br (decide (y3≥(1000000000:Int))) (
   .rF) <|
 .nx 0 [.v (.int .i64 (IntKind.i64.wrap (y1.1+(1:Int))))]) <|
 .rT
theorem fI_NatOk x0:qft aI_NatOk 109 [Sc.val .l x0] (tI_NatOk x0) :=fitK (by kernel_rfl)
def aI_natGcd:An:=⟨[(1,[.s 0,.s 1],[.o (.o (.l)),.o (.o (.l))])],[],[]⟩
def tI_natGcd (x0:SlV) (x1:SlV):T :=
 .lp [.o (.o (.l)),.o (.o (.l))] [.v (Sc.val .l x0),.v (Sc.val .l x1)] fun y1 =>
 .br (decide ((↑y1.2.1.n:Int) > (0:Int))) (
  .qc39 117 [Sc.val .l y1.1,Sc.val .l y1.2.1] fun y2 =>
  .nx 0 [.v (Sc.val .l y1.2.1),.v (Sc.val .l y2.2.1)]) <|
 .qc13 102 [Sc.val .l y1.1] fun y2 =>
 .ret [Sc.val .l y2]
theorem fI_natGcd x0 x1:qft aI_natGcd 110 [Sc.val .l x0,Sc.val .l x1] (tI_natGcd x0 x1) :=fitK (by kernel_rfl)
def tI_intSign (x0:qy0):T :=
 .br ((↑x0.2.1.n:Int) == (0:Int)) (
  .ret [.int .i64 0]) <|
 .br x0.1 (
  .rM) <|
 .ret [.int .i64 1]
theorem fI_intSign x0:qft qa0 111 [qv0 x0] (tI_intSign x0) :=fitK (by kernel_rfl)
def tI_signed (x0:Bool) (x1:SlV):T :=
 .br x0 (
  .ret [qv0 ((decide ((↑x1.n:Int) > (0:Int))),x1,())]) <|
 .ret [qv0 ((false),x1,())]
theorem fI_signed x0 x1:qft qa0 112 [.bool x0,Sc.val .l x1] (tI_signed x0 x1) :=fitK (by kernel_rfl)
def aI_natOf:An:=⟨[(2,[.s 0,.s 3],[.o (.o (.i .u64)),.a 3])],[],[]⟩
def tI_natOf (x0:Int):T :=
 .lp [.o (.o (.i .u64)),.a 3] [.v (.int .u64 x0),.a 3 ((0:Nat)) []] fun y1 =>
 .br (decide (y1.1 > (0:Int))) (
  .rq ((1000000000:Int)≠(0:Int)) <|
 .rq ([Value.int IntKind.i64 (IntKind.i64.wrap (Int.tmod y1.1 (1000000000:Int)))].length=(1:Nat)*(1:Nat)) <|
 .rq (one [Value.int IntKind.i64 (IntKind.i64.wrap (Int.tmod y1.1 (1000000000:Int)))]=true∧(y1.2.1.1+(1:Nat))*(8:Nat)≤(140737488355328:Nat)∧y1.2.1.1+(1:Nat)≤(9223372036854775807:Nat)) <|
 .rq ((1000000000:Int)≠(0:Int)) <|
 .nx 0 [.v (.int .u64 (IntKind.u64.wrap (Int.tdiv y1.1 (1000000000:Int)))),.a 3 (y1.2.1.1+(1:Nat)) (y1.2.1.2++[Value.int IntKind.i64 (IntKind.i64.wrap (Int.tmod y1.1 (1000000000:Int)))])]) <|
 .fz y1.2.1.1 y1.2.1.2 3 fun b2 c2 =>
 .ret [.slice (some { block:=b2,off:=(0:Nat):Addr }) y1.2.1.1 (c2)]
theorem fI_natOf x0:qft aI_natOf 116 [.int .u64 x0] (tI_natOf x0) :=fitK (by kernel_rfl)
def aI_natDiv:An:=⟨[(9,[.s 9],[.o (.o (.l))]),(14,[.s 12,.s 13],[.a 3,.o (.o (.i .i64))])],[],[]⟩
def tI_natDiv (x0:SlV) (x1:SlV):T :=
 .qc2 119 [Sc.val .l x0,Sc.val .l x1] fun y1 =>
 .br (decide (y1<(0:Int))) (
  .qc13 102 [Sc.val .l x0] fun y2 =>
  .fz ((0:Nat)) [] 3 fun b3 c3 =>
  .ret [.slice (some { block:=b3,off:=(0:Nat):Addr }) ((0:Nat)) (c3),Sc.val .l y2]) <|
 .br ((↑x1.n:Int) == (1:Int)) (
  .el x1.1 (x1.n) ((0:Int)) fun y2 =>
  .ql23 (y2.add (Int.toNat (0:Int)*(1:Nat))) fun y3 =>
  .qc40 186 [Sc.val .l x0,.int .i64 y3] fun y4 =>
  .qc13 187 [.int .i64 y4.2.1] fun y5 =>
  .ret [Sc.val .l y4.1,Sc.val .l y5]) <|
 .el x1.1 (x1.n) (IntKind.i64.wrap ((↑x1.n:Int)-(1:Int))) fun y2 =>
 .ql23 (y2.add ((IntKind.i64.wrap ((↑x1.n:Int)-(1:Int))).toNat*(1:Nat))) fun y3 =>
 .rq (IntKind.i64.wrap (y3+(1:Int))≠(0:Int)) <|
 .fz ((1:Nat)) [.int .i64 (IntKind.i64.wrap (Int.tdiv (1000000000:Int) (IntKind.i64.wrap (y3+(1:Int)))))] 3 fun b4 c4 =>
 .qc13 65 [Sc.val .l x0,.slice (some { block:=b4,off:=(0:Nat):Addr }) ((1:Nat)) (c4)] fun y5 =>
 .fz ((1:Nat)) [.int .i64 (IntKind.i64.wrap (Int.tdiv (1000000000:Int) (IntKind.i64.wrap (y3+(1:Int)))))] 3 fun b6 c6 =>
 .qc13 65 [Sc.val .l x1,.slice (some { block:=b6,off:=(0:Nat):Addr }) ((1:Nat)) (c6)] fun y7 =>
 .lp [.o (.o (.l))] [.v (Sc.val .l y5)] fun y8 =>
 .br (decide ((↑y8.1.n:Int)≤(↑x0.n:Int))) (
  .rq ([Value.int IntKind.i64 (0:Int)].length=(1:Nat)*(1:Nat)) <|
 .rq (one [Value.int IntKind.i64 (0:Int)]=true) <|
 .ap ({ a:=y8.1.1,n:=y8.1.n,c:=y8.1.c:SlV }) 1 8 [.int .i64 0] ((1:Nat)) 3 fun y9 =>
  .nx 0 [.v (Sc.val .l y9)]) <|
 .rq ((0:Int)≤IntKind.i64.wrap ((↑y8.1.n:Int)-(↑y7.n:Int))∧IntKind.i64.wrap ((↑y8.1.n:Int)-(↑y7.n:Int))≤IntKind.i64.wrap ((↑y8.1.n:Int)-(↑y7.n:Int))∧(↑(8:Nat):Int)*IntKind.i64.wrap ((↑y8.1.n:Int)-(↑y7.n:Int))≤(281474976710656:Int)∧IntKind.i64.wrap ((↑y8.1.n:Int)-(↑y7.n:Int))≤(9223372036854775807:Int)) <|
 .lp [.a 3,.o (.o (.i .i64))] [.a 3 ((IntKind.i64.wrap ((↑y8.1.n:Int)-(↑y7.n:Int))).toNat) ((madeCells { toList:=[Value.int IntKind.i64 (0:Int)]:Array Value } ((IntKind.i64.wrap ((↑y8.1.n:Int)-(↑y7.n:Int))).toNat*(1:Nat))).toList),.v (.int .i64 (IntKind.i64.wrap ((↑(IntKind.i64.wrap ((↑y8.1.n:Int)-(↑y7.n:Int))).toNat:Int)-(1:Int))))] fun y9 =>
 .br (decide (y9.2.1≥(0:Int))) (
  .rq ((0:Int)≤y9.2.1∧y9.2.1≤IntKind.i64.wrap (IntKind.i64.wrap (y9.2.1+(↑y7.n:Int))+(1:Int))∧IntKind.i64.wrap (IntKind.i64.wrap (y9.2.1+(↑y7.n:Int))+(1:Int))≤(↑y8.1.c:Int)∧(↑y8.1.c:Int)≤(↑y8.1.c:Int)) <|
 .qc2 188 [.slice (if (↑y8.1.c:Int).toNat=Int.toNat y9.2.1 then y8.1.1 else Option.map (fun x=>x.add (Int.toNat y9.2.1*Go.Proofs.Tryz.prog.types[(3:Nat)].size)) y8.1.1) ((IntKind.i64.wrap (IntKind.i64.wrap (y9.2.1+(↑y7.n:Int))+(1:Int))).toNat-Int.toNat y9.2.1) ((↑y8.1.c:Int).toNat-Int.toNat y9.2.1),Sc.val .l y7] fun y10 =>
  .rq ((0:Int)≤y9.2.1∧y9.2.1<(↑y9.1.1:Int)) <|
 .rq (Int.toNat y9.2.1*(1:Nat)+[Value.int IntKind.i64 y10].length≤y9.1.2.length) <|
 .nx 1 [.a 3 y9.1.1 (setl y9.1.2 (Int.toNat y9.2.1*(1:Nat)) [Value.int IntKind.i64 y10]),.v (.int .i64 (IntKind.i64.wrap (y9.2.1-(1:Int))))]) <|
 .qc13 121 [Sc.val .l y8.1] fun y10 =>
 .qc40 186 [Sc.val .l y10,.int .i64 (IntKind.i64.wrap (Int.tdiv (1000000000:Int) (IntKind.i64.wrap (y3+(1:Int)))))] fun y11 =>
 .fz y9.1.1 y9.1.2 3 fun b12 c12 =>
 .qc13 121 [.slice (some { block:=b12,off:=(0:Nat):Addr }) y9.1.1 (c12)] fun y13 =>
 .ret [Sc.val .l y13,Sc.val .l y11.1]
theorem fI_natDiv x0 x1:qft aI_natDiv 117 [Sc.val .l x0,Sc.val .l x1] (tI_natDiv x0 x1) :=fitK (by kernel_rfl)
end
end Go.Proofs.YtagkjnpggkmehaaGreatDoor
