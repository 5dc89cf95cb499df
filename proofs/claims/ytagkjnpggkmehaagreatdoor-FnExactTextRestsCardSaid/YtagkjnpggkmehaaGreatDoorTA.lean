/-
  What each function of the seat comes to, as a tree; each tree is checked against the code.
-/
import Derived.Test.YtagkjnpggkmehaaGreatDoorEngD
import Derived.Test.YtagkjnpggkmehaaGreatDoorChecked
import Derived.KernelRfl
namespace Go.Proofs.YtagkjnpggkmehaaGreatDoor
open Sx
set_option maxRecDepth 100000
noncomputable section
abbrev qft:=@fits Tryz.prog
abbrev qa0:An:=⟨[],[],[]⟩
abbrev _root_.Sx.T.rF:T:=.ret [.bool false]
abbrev _root_.Sx.T.rT:T:=.ret [.bool true]
abbrev _root_.Sx.T.rM:T:=.ret [.int .i64 (-1)]
abbrev _root_.Sx.T.bF (b:Bool) (y:T):T:=.br (!b) (.ret [.bool false]) y
abbrev _root_.Sx.T.bn (b:Bool) (x:T) (y:T):T:=.br (!b) x y
abbrev _root_.Sx.T.qc0 (g:Nat) (l:List Value) (k:Sh.ty (.t [(.o (.l)),(.o (.b))])→T):T:=.call false g l (.t [(.o (.l)),(.o (.b))]) k
abbrev _root_.Sx.T.qc1 (g:Nat) (l:List Value) (k:Sh.ty (.v (.o (.b)))→T):T:=.call false g l (.v (.o (.b))) k
abbrev _root_.Sx.T.qc2 (g:Nat) (l:List Value) (k:Sh.ty (.v (.o (.i .i64)))→T):T:=.call false g l (.v (.o (.i .i64))) k
abbrev _root_.Sx.T.qc3 (g:Nat) (l:List Value) (k:Sh.ty (.v (.o (.l)))→T):T:=.call false g l (.v (.o (.l))) k
abbrev _root_.Sx.T.ql4 (a:Addr) (k:Sh1.ty (.o (.s))→T):T:=.ld false a (.o (.s)) k
abbrev _root_.Sx.T.qc5 (g:Nat) (l:List Value) (k:Sh.ty (.t [(.g [.b,.l,.l]),(.o (.b))])→T):T:=.call false g l (.t [(.g [.b,.l,.l]),(.o (.b))]) k
abbrev _root_.Sx.T.ql6 (a:Addr) (k:Sh1.ty (.o (.s))→T):T:=.ld true a (.o (.s)) k
abbrev _root_.Sx.T.qc7 (g:Nat) (l:List Value) (k:Sh.ty (.v (.o (.s)))→T):T:=.call false g l (.v (.o (.s))) k
abbrev _root_.Sx.T.qc8 (g:Nat) (l:List Value) (k:Sh.ty (.t [(.g [.s,.b,.l,.l]),(.o (.b))])→T):T:=.call false g l (.t [(.g [.s,.b,.l,.l]),(.o (.b))]) k
abbrev _root_.Sx.T.ql9 (a:Addr) (k:Sh1.ty (.g [.s,.b,.l,.l])→T):T:=.ld true a (.g [.s,.b,.l,.l]) k
abbrev _root_.Sx.T.ql10 (a:Addr) (k:Sh1.ty (.o (.l))→T):T:=.ld false a (.o (.l)) k
abbrev _root_.Sx.T.qc11 (g:Nat) (l:List Value) (k:Sh.ty (.v (.o (.s)))→T):T:=.call true g l (.v (.o (.s))) k
abbrev _root_.Sx.T.ql12 (a:Addr) (k:Sh1.ty (.o (.b))→T):T:=.ld false a (.o (.b)) k
abbrev _root_.Sx.T.ql13 (a:Addr) (k:Sh1.ty (.g [.s,.b,.l,.l])→T):T:=.ld false a (.g [.s,.b,.l,.l]) k
abbrev _root_.Sx.T.qc14 (g:Nat) (l:List Value) (k:Sh.ty (.v (.o (.b)))→T):T:=.call true g l (.v (.o (.b))) k
abbrev _root_.Sx.T.qc15 (g:Nat) (l:List Value) (k:Sh.ty (.v (.o (.i .i64)))→T):T:=.call true g l (.v (.o (.i .i64))) k
abbrev _root_.Sx.T.qc16 (g:Nat) (l:List Value) (k:Sh.ty (.t [(.g [.b,.l]),(.o (.b))])→T):T:=.call false g l (.t [(.g [.b,.l]),(.o (.b))]) k
abbrev _root_.Sx.T.qc17 (g:Nat) (l:List Value) (k:Sh.ty (.t [(.o (.s)),(.o (.s)),(.o (.b))])→T):T:=.call false g l (.t [(.o (.s)),(.o (.s)),(.o (.b))]) k
abbrev _root_.Sx.T.ql18 (a:Addr) (k:Sh1.ty (.o (.i .i64))→T):T:=.ld false a (.o (.i .i64)) k
abbrev _root_.Sx.T.qc19 (g:Nat) (l:List Value) (k:Sh.ty (.t [(.g [.s,.s,.i .i64,.i .i64]),(.o (.b))])→T):T:=.call false g l (.t [(.g [.s,.s,.i .i64,.i .i64]),(.o (.b))]) k
abbrev _root_.Sx.T.qc20 (g:Nat) (l:List Value) (k:Sh.ty (.v (.g [.s,.s,.i .i64,.i .i64]))→T):T:=.call false g l (.v (.g [.s,.s,.i .i64,.i .i64])) k
abbrev _root_.Sx.T.qc21 (g:Nat) (l:List Value) (k:Sh.ty (.v (.g [.b,.l,.l]))→T):T:=.call true g l (.v (.g [.b,.l,.l])) k
abbrev _root_.Sx.T.ql22 (a:Addr) (k:Sh1.ty (.g [.s,.s,.i .i64,.i .i64,.s,.s,.i .i64,.i .i64,.s,.s,.i .i64,.i .i64,.s,.s,.i .i64,.i .i64,.s,.s,.i .i64,.i .i64,.s,.s,.i .i64,.i .i64,.s,.s,.i .i64,.i .i64,.s,.s,.i .i64,.i .i64,.s,.s,.i .i64,.i .i64,.s,.s,.i .i64,.i .i64,.s,.s,.i .i64,.i .i64,.s,.s,.i .i64,.i .i64,.s,.s,.i .i64,.i .i64,.s,.s,.i .i64,.i .i64,.s,.s,.i .i64,.i .i64,.s,.s,.i .i64,.i .i64,.s,.s,.i .i64,.i .i64,.s,.s,.i .i64,.i .i64,.s,.s,.i .i64,.i .i64,.s,.s,.i .i64,.i .i64])→T):T:=.ld false a (.g [.s,.s,.i .i64,.i .i64,.s,.s,.i .i64,.i .i64,.s,.s,.i .i64,.i .i64,.s,.s,.i .i64,.i .i64,.s,.s,.i .i64,.i .i64,.s,.s,.i .i64,.i .i64,.s,.s,.i .i64,.i .i64,.s,.s,.i .i64,.i .i64,.s,.s,.i .i64,.i .i64,.s,.s,.i .i64,.i .i64,.s,.s,.i .i64,.i .i64,.s,.s,.i .i64,.i .i64,.s,.s,.i .i64,.i .i64,.s,.s,.i .i64,.i .i64,.s,.s,.i .i64,.i .i64,.s,.s,.i .i64,.i .i64,.s,.s,.i .i64,.i .i64,.s,.s,.i .i64,.i .i64,.s,.s,.i .i64,.i .i64,.s,.s,.i .i64,.i .i64]) k
abbrev _root_.Sx.T.qc23 (g:Nat) (l:List Value) (k:Sh.ty (.t [(.o (.l)),(.o (.l))])→T):T:=.call false g l (.t [(.o (.l)),(.o (.l))]) k
abbrev _root_.Sx.T.qc24 (g:Nat) (l:List Value) (k:Sh.ty (.t [(.o (.l)),(.o (.i .i64))])→T):T:=.call false g l (.t [(.o (.l)),(.o (.i .i64))]) k
abbrev _root_.Sx.T.ql25 (a:Addr) (k:Sh1.ty (.o (.i .i64))→T):T:=.ld true a (.o (.i .i64)) k
abbrev _root_.Sx.T.ql26 (a:Addr) (k:Sh1.ty (.g [.s,.s,.i .i64,.i .i64])→T):T:=.ld false a (.g [.s,.s,.i .i64,.i .i64]) k
abbrev _root_.Sx.T.qc27 (g:Nat) (l:List Value) (k:Sh.ty (.v (.o (.l)))→T):T:=.call true g l (.v (.o (.l))) k
abbrev _root_.Sx.T.qc28 (g:Nat) (l:List Value) (k:Sh.ty (.v (.g [.b,.l]))→T):T:=.call true g l (.v (.g [.b,.l])) k
abbrev _root_.Sx.T.qc29 (g:Nat) (l:List Value) (k:Sh.ty (.v (.g [.b,.l]))→T):T:=.call false g l (.v (.g [.b,.l])) k
abbrev _root_.Sx.T.ql30 (a:Addr) (k:Sh1.ty (.o (.i .u8))→T):T:=.ld false a (.o (.i .u8)) k
abbrev _root_.Sx.T.qc31 (g:Nat) (l:List Value) (k:Sh.ty (.t [])→T):T:=.call false g l (.t []) k
def tL_FnExactTextRests (x0:ByteArray):T :=
 .br (decide ((↑x0.size:Int) > (1048576:Int))) (
  .rT) <|
 .qc0 7 [.string x0] fun y1 =>
 .qc0 8 [.string x0] fun y2 =>
 .qc1 9 [Sc.val .l y2.1,Sc.val .l y1.1] fun y3 =>
 .bF y3 <|
 .br (!y2.2.1 == y1.2.1) (
  .rF) <|
 .qc2 10 [Sc.val .l y2.1,.int .i64 1] fun y4 =>
 .qc2 11 [Sc.val .l y2.1,.int .i64 1] fun y5 =>
 .br (decide (y5<(0:Int))) (
  .rF) <|
 .br (y5 != y4) (
  .rF) <|
 .qc0 8 [.string x0] fun y6 =>
 .qc1 9 [Sc.val .l y6.1,Sc.val .l y1.1] fun y7 =>
 .bF y7 <|
 .br (!y6.2.1 == y1.2.1) (
  .rF) <|
 .qc2 11 [Sc.val .l y2.1,.int .i64 1] fun y8 =>
 .br (decide (y8<(0:Int))) (
  .rF) <|
 .br (y8 != y4) (
  .rF) <|
 .rT
theorem fL_FnExactTextRests x0:qft qa0 3 [.string x0] (tL_FnExactTextRests x0) :=fitK (by kernel_rfl)
def aS_TextRests:An:=⟨[(5,[.s 4,.s 17],[.a 40,.o (.o (.i .i64))])],[],[]⟩
def tS_TextRests (x0:ByteArray):T :=
 .br (x0.toList == { data:={ toList:=[]:Array UInt8 }:ByteArray }.toList) (
  .fz ((0:Nat)) [] 40 fun b1 c1 =>
  .ret [.slice (some { block:=b1,off:=(0:Nat):Addr }) ((0:Nat)) (c1),.bool (true)]) <|
 .qc3 32 [.string x0] fun y1 =>
 .lp [.a 40,.o (.o (.i .i64))] [.a 40 ((0:Nat)) [],.v (.int .i64 0)] fun y2 =>
 .br (decide (y2.2.1<(↑y1.n:Int))) (
  .el y1.1 (y1.n) y2.2.1 fun y3 =>
  .ql4 (y3.add (Int.toNat y2.2.1*(1:Nat))) fun y4 =>
  .qc3 33 [.string y4] fun y5 =>
  .br ((↑y5.n:Int) != (2:Int)) (
   .ret [.slice none 0 0,.bool (false)]) <|
 .el y5.1 (y5.n) ((1:Int)) fun y6 =>
  .ql4 (y6.add (Int.toNat (1:Int)*(1:Nat))) fun y7 =>
  .qc5 34 [.string y7] fun y8 =>
  .bn y8.2.1 (.ret [.slice none 0 0,.bool (false)]) <|
 .rg <|
 .el y5.1 (y5.n) ((0:Int)) fun y9 =>
  .ql6 (y9.add (Int.toNat (0:Int)*(1:Nat))) fun y10 =>
  .rq ([Value.string y10,Value.bool y8.1.1,Value.slice y8.1.2.1.1 y8.1.2.1.n y8.1.2.1.c,Value.slice y8.1.2.2.1.1 y8.1.2.2.1.n y8.1.2.2.1.c].length=(1:Nat)*(4:Nat)) <|
 .rq (one [Value.string y10,Value.bool y8.1.1,Value.slice y8.1.2.1.1 y8.1.2.1.n y8.1.2.1.c,Value.slice y8.1.2.2.1.1 y8.1.2.2.1.n y8.1.2.2.1.c]=true∧(y2.1.1+(1:Nat))*(72:Nat)≤(140737488355328:Nat)∧y2.1.1+(1:Nat)≤(9223372036854775807:Nat)) <|
 .nx 0 [.a 40 (y2.1.1+(1:Nat)) (y2.1.2++[Value.string y10,Value.bool y8.1.1,Value.slice y8.1.2.1.1 y8.1.2.1.n y8.1.2.1.c,Value.slice y8.1.2.2.1.1 y8.1.2.2.1.n y8.1.2.2.1.c]),.v (.int .i64 (IntKind.i64.wrap (y2.2.1+(1:Int))))]) <|
 .fz y2.1.1 y2.1.2 40 fun b3 c3 =>
 .qc1 35 [.slice (some { block:=b3,off:=(0:Nat):Addr }) y2.1.1 (c3)] fun y4 =>
 .bn y4 (.ret [.slice none 0 0,.bool (false)]) <|
 .qc7 36 [.slice (some { block:=b3,off:=(0:Nat):Addr }) y2.1.1 (c3)] fun y5 =>
 .br (!y5.toList == x0.toList) (
  .ret [.slice none 0 0,.bool (false)]) <|
 .ret [.slice (some { block:=b3,off:=(0:Nat):Addr }) y2.1.1 (c3),.bool (true)]
theorem fS_TextRests x0:qft aS_TextRests 7 [.string x0] (tS_TextRests x0) :=fitK (by kernel_rfl)
def aI_TextRests:An:=⟨[(5,[.s 4,.s 16],[.a 40,.o (.o (.i .i64))])],[],[]⟩
def tI_TextRests (x0:ByteArray):T :=
 .br (x0.toList == { data:={ toList:=[]:Array UInt8 }:ByteArray }.toList) (
  .fz ((0:Nat)) [] 40 fun b1 c1 =>
  .ret [.slice (some { block:=b1,off:=(0:Nat):Addr }) ((0:Nat)) (c1),.bool (true)]) <|
 .qc3 37 [.string x0,.string ({ data:={ toList:=[(59:UInt8),(32:UInt8)]:Array UInt8 }:ByteArray })] fun y1 =>
 .lp [.a 40,.o (.o (.i .i64))] [.a 40 ((0:Nat)) [],.v (.int .i64 0)] fun y2 =>
 .br (decide (y2.2.1<(↑y1.n:Int))) (
  .el y1.1 (y1.n) y2.2.1 fun y3 =>
  .ql4 (y3.add (Int.toNat y2.2.1*(1:Nat))) fun y4 =>
  .qc8 38 [.string y4] fun y5 =>
  .bn y5.2.1 (.ret [.slice none 0 0,.bool (false)]) <|
 .br ((↑y2.1.1:Int) == (20:Int)) (
   .ret [.slice none 0 0,.bool (false)]) <|
 .rq ([Value.string y5.1.1,Value.bool y5.1.2.1,Value.slice y5.1.2.2.1.1 y5.1.2.2.1.n y5.1.2.2.1.c,Value.slice y5.1.2.2.2.1.1 y5.1.2.2.2.1.n y5.1.2.2.2.1.c].length=(1:Nat)*(4:Nat)) <|
 .rq (one [Value.string y5.1.1,Value.bool y5.1.2.1,Value.slice y5.1.2.2.1.1 y5.1.2.2.1.n y5.1.2.2.1.c,Value.slice y5.1.2.2.2.1.1 y5.1.2.2.2.1.n y5.1.2.2.2.1.c]=true∧(y2.1.1+(1:Nat))*(72:Nat)≤(140737488355328:Nat)∧y2.1.1+(1:Nat)≤(9223372036854775807:Nat)) <|
 .nx 0 [.a 40 (y2.1.1+(1:Nat)) (y2.1.2++[Value.string y5.1.1,Value.bool y5.1.2.1,Value.slice y5.1.2.2.1.1 y5.1.2.2.1.n y5.1.2.2.1.c,Value.slice y5.1.2.2.2.1.1 y5.1.2.2.2.1.n y5.1.2.2.2.1.c]),.v (.int .i64 (IntKind.i64.wrap (y2.2.1+(1:Int))))]) <|
 .fz y2.1.1 y2.1.2 40 fun b3 c3 =>
 .qc1 17 [.slice (some { block:=b3,off:=(0:Nat):Addr }) y2.1.1 (c3)] fun y4 =>
 .bn y4 (.ret [.slice none 0 0,.bool (false)]) <|
 .qc7 15 [.slice (some { block:=b3,off:=(0:Nat):Addr }) y2.1.1 (c3)] fun y5 =>
 .br (!y5.toList == x0.toList) (
  .ret [.slice none 0 0,.bool (false)]) <|
 .ret [.slice (some { block:=b3,off:=(0:Nat):Addr }) y2.1.1 (c3),.bool (true)]
theorem fI_TextRests x0:qft aI_TextRests 8 [.string x0] (tI_TextRests x0) :=fitK (by kernel_rfl)
def aL_eqRestS:An:=⟨[(4,[.s 5],[.o (.o (.i .i64))])],[],[]⟩
def tL_eqRestS (x0:SlV) (x1:SlV):T :=
 .br ((↑x0.n:Int) != (↑x1.n:Int)) (
  .rF) <|
 .lp [.o (.o (.i .i64))] [.v (.int .i64 0)] fun y1 =>
 .br (decide (y1.1<(↑x0.n:Int))) (
  .rg <|
 .el x0.1 (x0.n) y1.1 fun y2 =>
  .ql9 (y2.add (Int.toNat y1.1*(4:Nat))) fun y3 =>
  .el x1.1 (x1.n) y1.1 fun y4 =>
  .ql9 (y4.add (Int.toNat y1.1*(4:Nat))) fun y5 =>
  .qc1 39 [qv2 y3,qv2 y5] fun y6 =>
  .bF y6 <|
 .nx 0 [.v (.int .i64 (IntKind.i64.wrap (y1.1+(1:Int))))]) <|
 .rT
theorem fL_eqRestS x0 x1:qft aL_eqRestS 9 [Sc.val .l x0,Sc.val .l x1] (tL_eqRestS x0 x1) :=fitK (by kernel_rfl)
def aL_markRestS:An:=⟨[(2,[.s 1,.s 5],[.o (.o (.i .i64)),.o (.o (.i .i64))])],[],[]⟩
def tL_markRestS (x0:SlV) (x1:Int):T :=
 .lp [.o (.o (.i .i64)),.o (.o (.i .i64))] [.v (.int .i64 x1),.v (.int .i64 0)] fun y1 =>
 .br (decide (y1.2.1<(↑x0.n:Int))) (
  .qc7 40 [.int .i64 y1.1] fun y2 =>
  .el x0.1 (x0.n) y1.2.1 fun y3 =>
  .st ((y3.add (Int.toNat y1.2.1*(4:Nat))).add (0:Nat)) [.string y2] <|
 .rq ((3:Int)≠(0:Int)) <|
 .el x0.1 (x0.n) y1.2.1 fun y4 =>
  .st ((((y4.add (Int.toNat y1.2.1*(4:Nat))).add (1:Nat)).add (0:Nat)).add (0:Nat)) [.bool ((IntKind.i64.wrap (y1.1+(1:Int))).tmod (3:Int) == (0:Int))] <|
 .el x0.1 (x0.n) y1.2.1 fun y5 =>
  .ql10 ((((y5.add (Int.toNat y1.2.1*(4:Nat))).add (1:Nat)).add (0:Nat)).add (1:Nat)) fun y6 =>
  .qc2 41 [Sc.val .l y6,.int .i64 (IntKind.i64.wrap (IntKind.i64.wrap (y1.1+(1:Int))+(1:Int)))] fun y7 =>
  .el x0.1 (x0.n) y1.2.1 fun y8 =>
  .ql10 (((y8.add (Int.toNat y1.2.1*(4:Nat))).add (1:Nat)).add (2:Nat)) fun y9 =>
  .qc2 41 [Sc.val .l y9,.int .i64 y7] fun y10 =>
  .nx 0 [.v (.int .i64 y10),.v (.int .i64 (IntKind.i64.wrap (y1.2.1+(1:Int))))]) <|
 .ret [.int .i64 y1.1]
theorem fL_markRestS x0 x1:qft aL_markRestS 10 [Sc.val .l x0,.int .i64 x1] (tL_markRestS x0 x1) :=fitK (by kernel_rfl)
def aL_heldRestS:An:=⟨[(2,[.s 1,.s 5],[.o (.o (.i .i64)),.o (.o (.i .i64))])],[],[]⟩
def tL_heldRestS (x0:SlV) (x1:Int):T :=
 .lp [.o (.o (.i .i64)),.o (.o (.i .i64))] [.v (.int .i64 x1),.v (.int .i64 0)] fun y1 =>
 .br (decide (y1.2.1<(↑x0.n:Int))) (
  .rg <|
 .el x0.1 (x0.n) y1.2.1 fun y2 =>
  .ql6 ((y2.add (Int.toNat y1.2.1*(4:Nat))).add (0:Nat)) fun y3 =>
  .qc11 40 [.int .i64 y1.1] fun y4 =>
  .br (!y3.toList == y4.toList) (
   .rM) <|
 .el x0.1 (x0.n) y1.2.1 fun y5 =>
  .ql12 ((((y5.add (Int.toNat y1.2.1*(4:Nat))).add (1:Nat)).add (0:Nat)).add (0:Nat)) fun y6 =>
  .rq ((3:Int)≠(0:Int)) <|
 .br (!y6 == ((IntKind.i64.wrap (y1.1+(1:Int))).tmod (3:Int) == (0:Int))) (
   .rM) <|
 .el x0.1 (x0.n) y1.2.1 fun y7 =>
  .ql10 ((((y7.add (Int.toNat y1.2.1*(4:Nat))).add (1:Nat)).add (0:Nat)).add (1:Nat)) fun y8 =>
  .qc2 42 [Sc.val .l y8,.int .i64 (IntKind.i64.wrap (IntKind.i64.wrap (y1.1+(1:Int))+(1:Int)))] fun y9 =>
  .br (decide (y9<(0:Int))) (
   .rM) <|
 .el x0.1 (x0.n) y1.2.1 fun y10 =>
  .ql10 (((y10.add (Int.toNat y1.2.1*(4:Nat))).add (1:Nat)).add (2:Nat)) fun y11 =>
  .qc2 42 [Sc.val .l y11,.int .i64 y9] fun y12 =>
  .br (decide (y12<(0:Int))) (
   .rM) <|
 .nx 0 [.v (.int .i64 y12),.v (.int .i64 (IntKind.i64.wrap (y1.2.1+(1:Int))))]) <|
 .ret [.int .i64 y1.1]
theorem fL_heldRestS x0 x1:qft aL_heldRestS 11 [Sc.val .l x0,.int .i64 x1] (tL_heldRestS x0 x1) :=fitK (by kernel_rfl)
def aI_RestsText:An:=⟨[(3,[.s 3,.s 9],[.a 9,.o (.o (.i .i64))])],[],[]⟩
def tI_RestsText (x0:SlV):T :=
 .lp [.a 9,.o (.o (.i .i64))] [.a 9 ((0:Nat)) [],.v (.int .i64 0)] fun y1 =>
 .br (decide (y1.2.1<(↑x0.n:Int))) (
  .el x0.1 (x0.n) y1.2.1 fun y2 =>
  .ql13 (y2.add (Int.toNat y1.2.1*(4:Nat))) fun y3 =>
  .qc7 47 [qv2 y3] fun y4 =>
  .rq ([Value.string y4].length=(1:Nat)*(1:Nat)) <|
 .rq (one [Value.string y4]=true∧(y1.1.1+(1:Nat))*(16:Nat)≤(140737488355328:Nat)∧y1.1.1+(1:Nat)≤(9223372036854775807:Nat)) <|
 .nx 0 [.a 9 (y1.1.1+(1:Nat)) (y1.1.2++[Value.string y4]),.v (.int .i64 (IntKind.i64.wrap (y1.2.1+(1:Int))))]) <|
 .fz y1.1.1 y1.1.2 9 fun b2 c2 =>
 .qc7 48 [.slice (some { block:=b2,off:=(0:Nat):Addr }) y1.1.1 (c2),.string ({ data:={ toList:=[(59:UInt8),(32:UInt8)]:Array UInt8 }:ByteArray })] fun y3 =>
 .ret [.string y3]
theorem fI_RestsText x0:qft aI_RestsText 15 [Sc.val .l x0] (tI_RestsText x0) :=fitK (by kernel_rfl)
def aI_RestsOk:An:=⟨[(2,[.s 7],[.o (.o (.i .i64))])],[],[]⟩
def tI_RestsOk (x0:SlV):T :=
 .lp [.o (.o (.i .i64))] [.v (.int .i64 0)] fun y1 =>
 .br (decide (y1.1<(↑x0.n:Int))) (
  .el x0.1 (x0.n) y1.1 fun y2 =>
  .ql13 (y2.add (Int.toNat y1.1*(4:Nat))) fun y3 =>
  .rg <|
 .qc14 52 [.string y3.1] fun y4 =>
  .bF y4 <|
 .qc14 53 [qv0 y3.2] fun y5 =>
  .bF y5 <|
 .qc15 54 [qv0 y3.2] fun y6 =>
  .br (y6 == (0:Int)) (
   .rF) <|
 .br (decide (y1.1 > (0:Int))) (
   .el x0.1 (x0.n) (IntKind.i64.wrap (y1.1-(1:Int))) fun y7 =>
   .ql6 ((y7.add ((IntKind.i64.wrap (y1.1-(1:Int))).toNat*(4:Nat))).add (0:Nat)) fun y8 =>
   .br (!Op.bytesLess y8.toList (ByteArray.toList y3.1)) (
    .rF) <|
 .nx 0 [.v (.int .i64 (IntKind.i64.wrap (y1.1+(1:Int))))]) <|
 .nx 0 [.v (.int .i64 (IntKind.i64.wrap (y1.1+(1:Int))))]) <|
 .rT
theorem fI_RestsOk x0:qft aI_RestsOk 17 [Sc.val .l x0] (tI_RestsOk x0) :=fitK (by kernel_rfl)
def aS_l19Parts:An:=⟨[(3,[.s 3,.s 4],[.o (.o (.l)),.o (.o (.i .i64))])],[],[]⟩
def tS_l19Parts (x0:ByteArray):T :=
 .qc3 85 [.string x0,.string ({ data:={ toList:=[(59:UInt8)]:Array UInt8 }:ByteArray })] fun y1 =>
 .lp [.o (.o (.l)),.o (.o (.i .i64))] [.v (Sc.val .l y1),.v (.int .i64 1)] fun y2 =>
 .br (decide (y2.2.1<(↑y2.1.n:Int))) (
  .el y2.1.1 (y2.1.n) y2.2.1 fun y3 =>
  .ql4 (y3.add (Int.toNat y2.2.1*(1:Nat))) fun y4 =>
  .br (decide ((↑y4.size:Int) > (0:Int))) (
   .el y2.1.1 (y2.1.n) y2.2.1 fun y5 =>
   .ql4 (y5.add (Int.toNat y2.2.1*(1:Nat))) fun y6 =>
   .rq ((0:Int)≤(0:Int)∧(0:Int)<(↑y6.size:Int)) <|
 .br (at0 y6 (Int.toNat (0:Int)) == (32:Int)) (
    .el y2.1.1 (y2.1.n) y2.2.1 fun y7 =>
    .ql4 (y7.add (Int.toNat y2.2.1*(1:Nat))) fun y8 =>
    .rq ((0:Int)≤(1:Int)∧(1:Int)≤(↑y8.size:Int)∧(↑y8.size:Int)≤(↑y8.size:Int)) <|
 .el y2.1.1 (y2.1.n) y2.2.1 fun y9 =>
    .st (y9.add (Int.toNat y2.2.1*(1:Nat))) [.string (y8.extract (Int.toNat (1:Int)) (↑y8.size:Int).toNat)] <|
 .nx 0 [.v (Sc.val .l y2.1),.v (.int .i64 (IntKind.i64.wrap (y2.2.1+(1:Int))))]) <|
 .nx 0 [.v (Sc.val .l y2.1),.v (.int .i64 (IntKind.i64.wrap (y2.2.1+(1:Int))))]) <|
 .nx 0 [.v (Sc.val .l y2.1),.v (.int .i64 (IntKind.i64.wrap (y2.2.1+(1:Int))))]) <|
 .ret [Sc.val .l y2.1]
theorem fS_l19Parts x0:qft aS_l19Parts 32 [.string x0] (tS_l19Parts x0) :=fitK (by kernel_rfl)
def tS_Cut (x0:ByteArray):T :=
 .qc3 85 [.string x0,.string ({ data:={ toList:=[(32:UInt8)]:Array UInt8 }:ByteArray })] fun y1 =>
 .ret [Sc.val .l y1]
theorem fS_Cut x0:qft qa0 33 [.string x0] (tS_Cut x0) :=fitK (by kernel_rfl)
def tS_TextRat (x0:ByteArray):T :=
 .qc3 85 [.string x0,.string ({ data:={ toList:=[(47:UInt8)]:Array UInt8 }:ByteArray })] fun y1 =>
 .el y1.1 (y1.n) ((0:Int)) fun y2 =>
 .ql4 (y2.add (Int.toNat (0:Int)*(1:Nat))) fun y3 =>
 .qc16 86 [.string y3] fun y4 =>
 .br (decide ((↑y1.n:Int) > (1:Int))) (
  .el y1.1 (y1.n) ((1:Int)) fun y5 =>
  .ql4 (y5.add (Int.toNat (1:Int)*(1:Nat))) fun y6 =>
  .qc0 87 [.string y6] fun y7 =>
  .bn y4.2.1 (.ret [qv0 ((false),nilS,nilS,()),.bool (false)]) <|
 .bn y7.2.1 (.ret [qv0 ((false),nilS,nilS,()),.bool (false)]) <|
 .qc7 88 [qv0 (y4.1.1,y4.1.2.1,y7.1,())] fun y8 =>
  .br (y8.toList == { data:={ toList:=[]:Array UInt8 }:ByteArray }.toList) (
   .ret [qv0 ((false),nilS,nilS,()),.bool (false)]) <|
 .qc7 88 [qv0 (y4.1.1,y4.1.2.1,y7.1,())] fun y9 =>
  .br (!y9.toList == x0.toList) (
   .ret [qv0 ((false),nilS,nilS,()),.bool (false)]) <|
 .ret [qv0 (y4.1.1,y4.1.2.1,y7.1,()),.bool (true)]) <|
 .fz ((1:Nat)) [.int .i64 1] 3 fun b5 c5 =>
 .bn y4.2.1 (.ret [qv0 ((false),nilS,nilS,()),.bool (false)]) <|
 .qc7 88 [qv0 (y4.1.1,y4.1.2.1,(⟨(some { block:=b5,off:=(0:Nat):Addr }),((1:Nat)),(c5)⟩:SlV),())] fun y6 =>
 .br (y6.toList == { data:={ toList:=[]:Array UInt8 }:ByteArray }.toList) (
  .ret [qv0 ((false),nilS,nilS,()),.bool (false)]) <|
 .qc7 88 [qv0 (y4.1.1,y4.1.2.1,(⟨(some { block:=b5,off:=(0:Nat):Addr }),((1:Nat)),(c5)⟩:SlV),())] fun y7 =>
 .br (!y7.toList == x0.toList) (
  .ret [qv0 ((false),nilS,nilS,()),.bool (false)]) <|
 .ret [qv0 (y4.1.1,y4.1.2.1,(⟨(some { block:=b5,off:=(0:Nat):Addr }),((1:Nat)),(c5)⟩:SlV),()),.bool (true)]
theorem fS_TextRat x0:qft qa0 34 [.string x0] (tS_TextRat x0) :=fitK (by kernel_rfl)
def aS_RestsOk:An:=⟨[(2,[.s 7],[.o (.o (.i .i64))])],[],[]⟩
def tS_RestsOk (x0:SlV):T :=
 .lp [.o (.o (.i .i64))] [.v (.int .i64 0)] fun y1 =>
 .br (decide (y1.1<(↑x0.n:Int))) (
  .el x0.1 (x0.n) y1.1 fun y2 =>
  .ql13 (y2.add (Int.toNat y1.1*(4:Nat))) fun y3 =>
  .rg <|
 .qc14 89 [.string y3.1] fun y4 =>
  .bF y4 <|
 .qc14 90 [qv0 y3.2] fun y5 =>
  .bF y5 <|
 .qc15 91 [qv0 y3.2] fun y6 =>
  .br (y6 == (0:Int)) (
   .rF) <|
 .br (decide (y1.1 > (0:Int))) (
   .el x0.1 (x0.n) (IntKind.i64.wrap (y1.1-(1:Int))) fun y7 =>
   .ql6 ((y7.add ((IntKind.i64.wrap (y1.1-(1:Int))).toNat*(4:Nat))).add (0:Nat)) fun y8 =>
   .br (!Op.bytesLess y8.toList (ByteArray.toList y3.1)) (
    .rF) <|
 .nx 0 [.v (.int .i64 (IntKind.i64.wrap (y1.1+(1:Int))))]) <|
 .nx 0 [.v (.int .i64 (IntKind.i64.wrap (y1.1+(1:Int))))]) <|
 .rT
theorem fS_RestsOk x0:qft aS_RestsOk 35 [Sc.val .l x0] (tS_RestsOk x0) :=fitK (by kernel_rfl)
def aS_RestsText:An:=⟨[(3,[.s 3,.s 9],[.a 9,.o (.o (.i .i64))])],[],[]⟩
def tS_RestsText (x0:SlV):T :=
 .lp [.a 9,.o (.o (.i .i64))] [.a 9 ((0:Nat)) [],.v (.int .i64 0)] fun y1 =>
 .br (decide (y1.2.1<(↑x0.n:Int))) (
  .el x0.1 (x0.n) y1.2.1 fun y2 =>
  .ql13 (y2.add (Int.toNat y1.2.1*(4:Nat))) fun y3 =>
  .rg <|
 .rq (ByteArray.size y3.1+{ data:={ toList:=[(32:UInt8)]:Array UInt8 }:ByteArray }.size≤(9223372036854775807:Nat)) <|
 .qc11 88 [qv0 y3.2] fun y4 =>
  .rq ((y3.1++{ data:={ toList:=[(32:UInt8)]:Array UInt8 }:ByteArray }).size+y4.size≤(9223372036854775807:Nat)) <|
 .rq ([Value.string (y3.1++{ data:={ toList:=[(32:UInt8)]:Array UInt8 }:ByteArray }++y4)].length=(1:Nat)*(1:Nat)) <|
 .rq (one [Value.string (y3.1++{ data:={ toList:=[(32:UInt8)]:Array UInt8 }:ByteArray }++y4)]=true∧(y1.1.1+(1:Nat))*(16:Nat)≤(140737488355328:Nat)∧y1.1.1+(1:Nat)≤(9223372036854775807:Nat)) <|
 .nx 0 [.a 9 (y1.1.1+(1:Nat)) (y1.1.2++[Value.string (y3.1++{ data:={ toList:=[(32:UInt8)]:Array UInt8 }:ByteArray }++y4)]),.v (.int .i64 (IntKind.i64.wrap (y1.2.1+(1:Int))))]) <|
 .fz y1.1.1 y1.1.2 9 fun b2 c2 =>
 .qc7 92 [.slice (some { block:=b2,off:=(0:Nat):Addr }) y1.1.1 (c2),.string ({ data:={ toList:=[(59:UInt8),(32:UInt8)]:Array UInt8 }:ByteArray })] fun y3 =>
 .ret [.string y3]
theorem fS_RestsText x0:qft aS_RestsText 36 [Sc.val .l x0] (tS_RestsText x0) :=fitK (by kernel_rfl)
def tI_textRest (x0:ByteArray):T :=
 .qc17 94 [.string x0,.string ({ data:={ toList:=[(32:UInt8)]:Array UInt8 }:ByteArray })] fun y1 =>
 .qc5 95 [.string y1.2.1] fun y2 =>
 .br y1.2.2.1 (
  .ret [qv2 (y1.1,y2.1.1,y2.1.2.1,y2.1.2.2.1,()),.bool y2.2.1]) <|
 .ret [qv2 (y1.1,y2.1.1,y2.1.2.1,y2.1.2.2.1,()),.bool (false)]
theorem fI_textRest x0:qft qa0 38 [.string x0] (tI_textRest x0) :=fitK (by kernel_rfl)
def tL_eqRest (x0:qy2) (x1:qy2):T :=
 .br (!ByteArray.toList x0.1 == ByteArray.toList x1.1) (
  .rF) <|
 .qc1 96 [qv0 x0.2,qv0 x1.2] fun y1 =>
 .bF y1 <|
 .rT
theorem fL_eqRest x0 x1:qft qa0 39 [qv2 x0,qv2 x1] (tL_eqRest x0 x1) :=fitK (by kernel_rfl)
def aL_markText:An:=⟨[(4,[.s 0,.s 3],[.o (.o (.i .i64)),.o (.o (.s))])],[],[]⟩
def tL_markText (x0:Int):T :=
 .br (decide (x0≤(0:Int))) (
  .ret [.string ({ data:={ toList:=[(109:UInt8),(48:UInt8)]:Array UInt8 }:ByteArray })]) <|
 .lp [.o (.o (.i .i64)),.o (.o (.s))] [.v (.int .i64 x0),.v (.string ({ data:={ toList:=[]:Array UInt8 }:ByteArray }))] fun y1 =>
 .br (decide (y1.1 > (0:Int))) (
  .rq ((10:Int)≠(0:Int)) <|
 .fz ((1:Nat)) [.int .u8 (IntKind.u8.wrap (IntKind.i64.wrap ((48:Int)+Int.tmod y1.1 (10:Int))))] 5 fun b2 c2 =>
  .rd ({ a:=some { block:=b2,off:=(0:Nat):Addr },n:=(1:Nat),c:=c2:SlV }) ((1:Nat)) fun y3 =>
  .rq (bytesOf y3≠none) <|
 .rq ((bytesD y3).size+ByteArray.size y1.2.1≤(9223372036854775807:Nat)) <|
 .rq ((10:Int)≠(0:Int)) <|
 .nx 0 [.v (.int .i64 (IntKind.i64.wrap (Int.tdiv y1.1 (10:Int)))),.v (.string (bytesD y3++y1.2.1))]) <|
 .rq ({ data:={ toList:=[(109:UInt8)]:Array UInt8 }:ByteArray }.size+ByteArray.size y1.2.1≤(9223372036854775807:Nat)) <|
 .ret [.string ({ data:={ toList:=[(109:UInt8)]:Array UInt8 }:ByteArray }++y1.2.1)]
theorem fL_markText x0:qft aL_markText 40 [.int .i64 x0] (tL_markText x0) :=fitK (by kernel_rfl)
def aL_markIntS:An:=⟨[(2,[.s 1,.s 5],[.o (.o (.i .i64)),.o (.o (.i .i64))])],[],[]⟩
def tL_markIntS (x0:SlV) (x1:Int):T :=
 .lp [.o (.o (.i .i64)),.o (.o (.i .i64))] [.v (.int .i64 x1),.v (.int .i64 0)] fun y1 =>
 .br (decide (y1.2.1<(↑x0.n:Int))) (
  .el x0.1 (x0.n) y1.2.1 fun y2 =>
  .st (y2.add (Int.toNat y1.2.1*(1:Nat))) [.int .i64 y1.1] <|
 .nx 0 [.v (.int .i64 (IntKind.i64.wrap (y1.1+(1:Int)))),.v (.int .i64 (IntKind.i64.wrap (y1.2.1+(1:Int))))]) <|
 .ret [.int .i64 y1.1]
theorem fL_markIntS x0 x1:qft aL_markIntS 41 [Sc.val .l x0,.int .i64 x1] (tL_markIntS x0 x1) :=fitK (by kernel_rfl)
def aL_heldIntS:An:=⟨[(2,[.s 1,.s 5],[.o (.o (.i .i64)),.o (.o (.i .i64))])],[],[]⟩
def tL_heldIntS (x0:SlV) (x1:Int):T :=
 .lp [.o (.o (.i .i64)),.o (.o (.i .i64))] [.v (.int .i64 x1),.v (.int .i64 0)] fun y1 =>
 .br (decide (y1.2.1<(↑x0.n:Int))) (
  .el x0.1 (x0.n) y1.2.1 fun y2 =>
  .ql18 (y2.add (Int.toNat y1.2.1*(1:Nat))) fun y3 =>
  .br (y3 != y1.1) (
   .rM) <|
 .nx 0 [.v (.int .i64 (IntKind.i64.wrap (y1.1+(1:Int)))),.v (.int .i64 (IntKind.i64.wrap (y1.2.1+(1:Int))))]) <|
 .ret [.int .i64 y1.1]
theorem fL_heldIntS x0 x1:qft aL_heldIntS 42 [Sc.val .l x0,.int .i64 x1] (tL_heldIntS x0 x1) :=fitK (by kernel_rfl)
def tI_restText (x0:qy2):T :=
 .rg <|
 .rq (ByteArray.size x0.1+{ data:={ toList:=[(32:UInt8)]:Array UInt8 }:ByteArray }.size≤(9223372036854775807:Nat)) <|
 .qc11 103 [qv0 x0.2] fun y1 =>
 .rq ((x0.1++{ data:={ toList:=[(32:UInt8)]:Array UInt8 }:ByteArray }).size+y1.size≤(9223372036854775807:Nat)) <|
 .ret [.string (x0.1++{ data:={ toList:=[(32:UInt8)]:Array UInt8 }:ByteArray }++y1)]
theorem fI_restText x0:qft qa0 47 [qv2 x0] (tI_restText x0) :=fitK (by kernel_rfl)
def tI_Join (x0:SlV) (x1:ByteArray):T :=
 .qc7 104 [Sc.val .l x0,.string x1] fun y1 =>
 .ret [.string y1]
theorem fI_Join x0 x1:qft qa0 48 [Sc.val .l x0,.string x1] (tI_Join x0 x1) :=fitK (by kernel_rfl)
def tI_CurKnown (x0:ByteArray):T :=
 .qc19 107 [.string x0] fun y1 =>
 .ret [.bool y1.2.1]
theorem fI_CurKnown x0:qft qa0 52 [.string x0] (tI_CurKnown x0) :=fitK (by kernel_rfl)
def tI_RatOk (x0:qy0):T :=
 .qc1 108 [qv1 (x0.1,x0.2.1,())] fun y1 =>
 .bF y1 <|
 .qc1 109 [Sc.val .l x0.2.2.1] fun y2 =>
 .bF y2 <|
 .br ((↑x0.2.2.1.n:Int) == (0:Int)) (
  .rF) <|
 .br (decide ((↑x0.2.2.1.n:Int) > (18:Int))) (
  .rF) <|
 .br (decide ((↑x0.2.1.n:Int) > (18:Int))) (
  .rF) <|
 .qc3 110 [Sc.val .l x0.2.1,Sc.val .l x0.2.2.1] fun y3 =>
 .br ((↑y3.n:Int) == (1:Int)) (
  .el y3.1 (y3.n) ((0:Int)) fun y4 =>
  .ql18 (y4.add (Int.toNat (0:Int)*(1:Nat))) fun y5 =>
  .ret [.bool (y5 == (1:Int))]) <|
 .rF
theorem fI_RatOk x0:qft qa0 53 [qv0 x0] (tI_RatOk x0) :=fitK (by kernel_rfl)
def tI_RatSign (x0:qy0):T :=
 .qc1 53 [qv0 x0] fun y1 =>
 .bn y1 (.ret [.int .i64 0]) <|
 .qc2 111 [qv1 (x0.1,x0.2.1,())] fun y2 =>
 .ret [.int .i64 y2]
theorem fI_RatSign x0:qft qa0 54 [qv0 x0] (tI_RatSign x0) :=fitK (by kernel_rfl)
def aI_natMul:An:=⟨[(3,[.s 5,.s 21],[.a 3,.o (.o (.i .i64))]),(7,[.s 5,.s 8,.s 28],[.a 3,.o (.o (.i .i64)),.o (.o (.i .i64))]),(14,[.s 5,.s 8,.s 11],[.a 3,.o (.o (.i .i64)),.o (.o (.i .i64))])],[],[]⟩
def tI_natMul (x0:SlV) (x1:SlV):T :=
 .rq ((0:Int)≤IntKind.i64.wrap (IntKind.i64.wrap ((↑x0.n:Int)+(↑x1.n:Int))+(1:Int))∧IntKind.i64.wrap (IntKind.i64.wrap ((↑x0.n:Int)+(↑x1.n:Int))+(1:Int))≤IntKind.i64.wrap (IntKind.i64.wrap ((↑x0.n:Int)+(↑x1.n:Int))+(1:Int))∧(↑(8:Nat):Int)*IntKind.i64.wrap (IntKind.i64.wrap ((↑x0.n:Int)+(↑x1.n:Int))+(1:Int))≤(281474976710656:Int)∧IntKind.i64.wrap (IntKind.i64.wrap ((↑x0.n:Int)+(↑x1.n:Int))+(1:Int))≤(9223372036854775807:Int)) <|
 .lp [.a 3,.o (.o (.i .i64))] [.a 3 ((IntKind.i64.wrap (IntKind.i64.wrap ((↑x0.n:Int)+(↑x1.n:Int))+(1:Int))).toNat) ((madeCells { toList:=[Value.int IntKind.i64 (0:Int)]:Array Value } ((IntKind.i64.wrap (IntKind.i64.wrap ((↑x0.n:Int)+(↑x1.n:Int))+(1:Int))).toNat*(1:Nat))).toList),.v (.int .i64 0)] fun y1 =>
 .br (decide (y1.2.1<(↑x0.n:Int))) (
  .el x0.1 (x0.n) y1.2.1 fun y2 =>
  .ql18 (y2.add (Int.toNat y1.2.1*(1:Nat))) fun y3 =>
  .lp [.a 3,.o (.o (.i .i64)),.o (.o (.i .i64))] [.a 3 y1.1.1 y1.1.2,.v (.int .i64 0),.v (.int .i64 0)] fun y4 =>
  .br (decide (y4.2.2.1<(↑x1.n:Int))) (
   .el x1.1 (x1.n) y4.2.2.1 fun y5 =>
   .ql18 (y5.add (Int.toNat y4.2.2.1*(1:Nat))) fun y6 =>
   .rq ((0:Int)≤IntKind.i64.wrap (y1.2.1+y4.2.2.1)∧IntKind.i64.wrap (y1.2.1+y4.2.2.1)<(↑y4.1.1:Int)) <|
 .xs y4.1.2 ((IntKind.i64.wrap (y1.2.1+y4.2.2.1)).toNat*(1:Nat)) (.o (.i .i64)) fun y7 =>
   .rq ((1000000000:Int)≠(0:Int)) <|
 .rq ((0:Int)≤IntKind.i64.wrap (y1.2.1+y4.2.2.1)∧IntKind.i64.wrap (y1.2.1+y4.2.2.1)<(↑y4.1.1:Int)) <|
 .rq ((IntKind.i64.wrap (y1.2.1+y4.2.2.1)).toNat*(1:Nat)+[Value.int IntKind.i64 ((IntKind.i64.wrap (y4.2.1+IntKind.i64.wrap (y7+IntKind.i64.wrap (y3*y6)))).tmod (1000000000:Int))].length≤y4.1.2.length) <|
 .rq ((1000000000:Int)≠(0:Int)) <|
 .nx 1 [.a 3 y4.1.1 (setl y4.1.2 ((IntKind.i64.wrap (y1.2.1+y4.2.2.1)).toNat*(1:Nat)) [Value.int IntKind.i64 ((IntKind.i64.wrap (y4.2.1+IntKind.i64.wrap (y7+IntKind.i64.wrap (y3*y6)))).tmod (1000000000:Int))]),.v (.int .i64 (IntKind.i64.wrap ((IntKind.i64.wrap (y4.2.1+IntKind.i64.wrap (y7+IntKind.i64.wrap (y3*y6)))).tdiv (1000000000:Int)))),.v (.int .i64 (IntKind.i64.wrap (y4.2.2.1+(1:Int))))]) <|
 .lp [.a 3,.o (.o (.i .i64)),.o (.o (.i .i64))] [.a 3 y4.1.1 y4.1.2,.v (.int .i64 y4.2.1),.v (.int .i64 (IntKind.i64.wrap (y1.2.1+(↑x1.n:Int))))] fun y5 =>
  .br (decide (y5.2.1 > (0:Int))) (
   .rq ((0:Int)≤y5.2.2.1∧y5.2.2.1<(↑y5.1.1:Int)) <|
 .xs y5.1.2 (Int.toNat y5.2.2.1*(1:Nat)) (.o (.i .i64)) fun y6 =>
   .rq ((1000000000:Int)≠(0:Int)) <|
 .rq ((0:Int)≤y5.2.2.1∧y5.2.2.1<(↑y5.1.1:Int)) <|
 .rq (Int.toNat y5.2.2.1*(1:Nat)+[Value.int IntKind.i64 ((IntKind.i64.wrap (y5.2.1+y6)).tmod (1000000000:Int))].length≤y5.1.2.length) <|
 .rq ((1000000000:Int)≠(0:Int)) <|
 .nx 2 [.a 3 y5.1.1 (setl y5.1.2 (Int.toNat y5.2.2.1*(1:Nat)) [Value.int IntKind.i64 ((IntKind.i64.wrap (y5.2.1+y6)).tmod (1000000000:Int))]),.v (.int .i64 (IntKind.i64.wrap ((IntKind.i64.wrap (y5.2.1+y6)).tdiv (1000000000:Int)))),.v (.int .i64 (IntKind.i64.wrap (y5.2.2.1+(1:Int))))]) <|
 .nx 0 [.a 3 y5.1.1 y5.1.2,.v (.int .i64 (IntKind.i64.wrap (y1.2.1+(1:Int))))]) <|
 .fz y1.1.1 y1.1.2 3 fun b2 c2 =>
 .qc3 121 [.slice (some { block:=b2,off:=(0:Nat):Addr }) y1.1.1 (c2)] fun y3 =>
 .ret [Sc.val .l y3]
theorem fI_natMul x0 x1:qft aI_natMul 65 [Sc.val .l x0,Sc.val .l x1] (tI_natMul x0 x1) :=fitK (by kernel_rfl)
def aS_CutAt:An:=⟨[(4,[.s 5,.s 6,.s 7],[.a 9,.o (.o (.i .i64)),.o (.o (.i .i64))]),(7,[.s 5,.s 6,.s 8],[.a 9,.o (.o (.i .i64)),.o (.o (.i .i64))])],[],[]⟩
def tS_CutAt (x0:ByteArray) (x1:ByteArray):T :=
 .lp [.a 9,.o (.o (.i .i64)),.o (.o (.i .i64))] [.a 9 ((0:Nat)) [],.v (.int .i64 0),.v (.int .i64 0)] fun y1 =>
 .br (decide (y1.2.2.1<(↑x0.size:Int))) (
  .lp [.a 9,.o (.o (.i .i64)),.o (.o (.i .i64))] [.a 9 y1.1.1 y1.1.2,.v (.int .i64 y1.2.1),.v (.int .i64 0)] fun y2 =>
  .br (decide (y2.2.2.1<(↑x1.size:Int))) (
   .rg <|
 .rq ((0:Int)≤y1.2.2.1∧y1.2.2.1<(↑x0.size:Int)) <|
 .rq ((0:Int)≤y2.2.2.1∧y2.2.2.1<(↑x1.size:Int)) <|
 .br (at0 x0 (Int.toNat y1.2.2.1) == at0 x1 (Int.toNat y2.2.2.1)) (
    .rq ((0:Int)≤y2.2.1∧y2.2.1≤y1.2.2.1∧y1.2.2.1≤(↑x0.size:Int)) <|
 .rq ([Value.string (x0.extract (Int.toNat y2.2.1) (Int.toNat y1.2.2.1))].length=(1:Nat)*(1:Nat)) <|
 .rq (one [Value.string (x0.extract (Int.toNat y2.2.1) (Int.toNat y1.2.2.1))]=true∧(y2.1.1+(1:Nat))*(16:Nat)≤(140737488355328:Nat)∧y2.1.1+(1:Nat)≤(9223372036854775807:Nat)) <|
 .nx 0 [.a 9 (y2.1.1+(1:Nat)) (y2.1.2++[Value.string (x0.extract (Int.toNat y2.2.1) (Int.toNat y1.2.2.1))]),.v (.int .i64 (IntKind.i64.wrap (y1.2.2.1+(1:Int)))),.v (.int .i64 (IntKind.i64.wrap (y1.2.2.1+(1:Int))))]) <|
 .nx 1 [.a 9 y2.1.1 y2.1.2,.v (.int .i64 y2.2.1),.v (.int .i64 (IntKind.i64.wrap (y2.2.2.1+(1:Int))))]) <|
 .nx 0 [.a 9 y2.1.1 y2.1.2,.v (.int .i64 y2.2.1),.v (.int .i64 (IntKind.i64.wrap (y1.2.2.1+(1:Int))))]) <|
 .rq ((0:Int)≤y1.2.1∧y1.2.1≤(↑x0.size:Int)∧(↑x0.size:Int)≤(↑x0.size:Int)) <|
 .rq ([Value.string (x0.extract (Int.toNat y1.2.1) (↑x0.size:Int).toNat)].length=(1:Nat)*(1:Nat)) <|
 .rq (one [Value.string (x0.extract (Int.toNat y1.2.1) (↑x0.size:Int).toNat)]=true∧(y1.1.1+(1:Nat))*(16:Nat)≤(140737488355328:Nat)∧y1.1.1+(1:Nat)≤(9223372036854775807:Nat)) <|
 .fz (y1.1.1+(1:Nat)) (y1.1.2++[Value.string (x0.extract (Int.toNat y1.2.1) (↑x0.size:Int).toNat)]) 9 fun b2 c2 =>
 .ret [.slice (some { block:=b2,off:=(0:Nat):Addr }) (y1.1.1+(1:Nat)) (c2)]
theorem fS_CutAt x0 x1:qft aS_CutAt 85 [.string x0,.string x1] (tS_CutAt x0 x1) :=fitK (by kernel_rfl)
def tS_StrInt (x0:ByteArray):T :=
 .br (decide ((↑x0.size:Int) > (0:Int))) (
  .rq ((0:Int)≤(0:Int)∧(0:Int)<(↑x0.size:Int)) <|
 .br (at0 x0 (Int.toNat (0:Int)) == (45:Int)) (
   .rq ((0:Int)≤(1:Int)∧(1:Int)≤(↑x0.size:Int)∧(↑x0.size:Int)≤(↑x0.size:Int)) <|
 .qc0 87 [.string (x0.extract (Int.toNat (1:Int)) (↑x0.size:Int).toNat)] fun y1 =>
   .bn y1.2.1 (.ret [qv1 ((false),nilS,()),.bool (false)]) <|
 .br (at0 x0 (Int.toNat (0:Int)) == (45:Int)) (
    .br ((↑y1.1.n:Int) == (0:Int)) (
     .ret [qv1 ((false),nilS,()),.bool (false)]) <|
 .ret [qv1 ((at0 x0 (Int.toNat (0:Int)) == (45:Int)),y1.1,()),.bool (true)]) <|
 .ret [qv1 ((at0 x0 (Int.toNat (0:Int)) == (45:Int)),y1.1,()),.bool (true)]) <|
 .qc0 87 [.string x0] fun y1 =>
  .bn y1.2.1 (.ret [qv1 ((false),nilS,()),.bool (false)]) <|
 .br (at0 x0 (Int.toNat (0:Int)) == (45:Int)) (
   .br ((↑y1.1.n:Int) == (0:Int)) (
    .ret [qv1 ((false),nilS,()),.bool (false)]) <|
 .ret [qv1 ((at0 x0 (Int.toNat (0:Int)) == (45:Int)),y1.1,()),.bool (true)]) <|
 .ret [qv1 ((at0 x0 (Int.toNat (0:Int)) == (45:Int)),y1.1,()),.bool (true)]) <|
 .qc0 87 [.string x0] fun y1 =>
 .bn y1.2.1 (.ret [qv1 ((false),nilS,()),.bool (false)]) <|
 .ret [qv1 ((false),y1.1,()),.bool (true)]
theorem fS_StrInt x0:qft qa0 86 [.string x0] (tS_StrInt x0) :=fitK (by kernel_rfl)
def aS_TextNat:An:=⟨[(5,[.s 4,.s 5],[.a 3,.o (.o (.i .i64))]),(12,[.s 7,.s 8],[.o (.o (.i .i64)),.o (.o (.i .i64))])],[],[]⟩
def tS_TextNat (x0:ByteArray):T :=
 .qc1 150 [.string x0] fun y1 =>
 .bn y1 (.ret [.slice none 0 0,.bool (false)]) <|
 .br (decide ((↑x0.size:Int) > (450:Int))) (
  .ret [.slice none 0 0,.bool (false)]) <|
 .br (decide ((↑x0.size:Int) > (1:Int))) (
  .rq ((0:Int)≤(0:Int)∧(0:Int)<(↑x0.size:Int)) <|
 .br (at0 x0 (Int.toNat (0:Int)) == (48:Int)) (
   .ret [.slice none 0 0,.bool (false)]) <|
 .lp [.a 3,.o (.o (.i .i64))] [.a 3 ((0:Nat)) [],.v (.int .i64 ((↑x0.size:Int)))] fun y2 =>
  .br (decide (y2.2.1 > (0:Int))) (
   .br (decide (IntKind.i64.wrap (y2.2.1-(9:Int))<(0:Int))) (
    .lp [.o (.o (.i .i64)),.o (.o (.i .i64))] [.v (.int .i64 0),.v (.int .i64 0)] fun y3 =>
    .br (decide (y3.2.1<y2.2.1)) (
     .rq ((0:Int)≤y3.2.1∧y3.2.1<(↑x0.size:Int)) <|
 .nx 1 [.v (.int .i64 (IntKind.i64.wrap (IntKind.i64.wrap (IntKind.i64.wrap (y3.1*(10:Int))+IntKind.i64.wrap (at0 x0 (Int.toNat y3.2.1)))-(48:Int)))),.v (.int .i64 (IntKind.i64.wrap (y3.2.1+(1:Int))))]) <|
 .rq ([Value.int IntKind.i64 y3.1].length=(1:Nat)*(1:Nat)) <|
 .rq (one [Value.int IntKind.i64 y3.1]=true∧(y2.1.1+(1:Nat))*(8:Nat)≤(140737488355328:Nat)∧y2.1.1+(1:Nat)≤(9223372036854775807:Nat)) <|
 .nx 0 [.a 3 (y2.1.1+(1:Nat)) (y2.1.2++[Value.int IntKind.i64 y3.1]),.v (.int .i64 (IntKind.i64.wrap (y2.2.1-(9:Int))))]) <|
 .lp [.o (.o (.i .i64)),.o (.o (.i .i64))] [.v (.int .i64 0),.v (.int .i64 (IntKind.i64.wrap (y2.2.1-(9:Int))))] fun y3 =>
   .br (decide (y3.2.1<y2.2.1)) (
    .rq ((0:Int)≤y3.2.1∧y3.2.1<(↑x0.size:Int)) <|
 .nx 1 [.v (.int .i64 (IntKind.i64.wrap (IntKind.i64.wrap (IntKind.i64.wrap (y3.1*(10:Int))+IntKind.i64.wrap (at0 x0 (Int.toNat y3.2.1)))-(48:Int)))),.v (.int .i64 (IntKind.i64.wrap (y3.2.1+(1:Int))))]) <|
 .rq ([Value.int IntKind.i64 y3.1].length=(1:Nat)*(1:Nat)) <|
 .rq (one [Value.int IntKind.i64 y3.1]=true∧(y2.1.1+(1:Nat))*(8:Nat)≤(140737488355328:Nat)∧y2.1.1+(1:Nat)≤(9223372036854775807:Nat)) <|
 .nx 0 [.a 3 (y2.1.1+(1:Nat)) (y2.1.2++[Value.int IntKind.i64 y3.1]),.v (.int .i64 (IntKind.i64.wrap (y2.2.1-(9:Int))))]) <|
 .fz y2.1.1 y2.1.2 3 fun b3 c3 =>
  .qc3 151 [.slice (some { block:=b3,off:=(0:Nat):Addr }) y2.1.1 (c3)] fun y4 =>
  .ret [Sc.val .l y4,.bool (true)]) <|
 .lp [.a 3,.o (.o (.i .i64))] [.a 3 ((0:Nat)) [],.v (.int .i64 ((↑x0.size:Int)))] fun y2 =>
 .br (decide (y2.2.1 > (0:Int))) (
  .br (decide (IntKind.i64.wrap (y2.2.1-(9:Int))<(0:Int))) (
   .lp [.o (.o (.i .i64)),.o (.o (.i .i64))] [.v (.int .i64 0),.v (.int .i64 0)] fun y3 =>
   .br (decide (y3.2.1<y2.2.1)) (
    .rq ((0:Int)≤y3.2.1∧y3.2.1<(↑x0.size:Int)) <|
 .nx 1 [.v (.int .i64 (IntKind.i64.wrap (IntKind.i64.wrap (IntKind.i64.wrap (y3.1*(10:Int))+IntKind.i64.wrap (at0 x0 (Int.toNat y3.2.1)))-(48:Int)))),.v (.int .i64 (IntKind.i64.wrap (y3.2.1+(1:Int))))]) <|
 .rq ([Value.int IntKind.i64 y3.1].length=(1:Nat)*(1:Nat)) <|
 .rq (one [Value.int IntKind.i64 y3.1]=true∧(y2.1.1+(1:Nat))*(8:Nat)≤(140737488355328:Nat)∧y2.1.1+(1:Nat)≤(9223372036854775807:Nat)) <|
 .nx 0 [.a 3 (y2.1.1+(1:Nat)) (y2.1.2++[Value.int IntKind.i64 y3.1]),.v (.int .i64 (IntKind.i64.wrap (y2.2.1-(9:Int))))]) <|
 .lp [.o (.o (.i .i64)),.o (.o (.i .i64))] [.v (.int .i64 0),.v (.int .i64 (IntKind.i64.wrap (y2.2.1-(9:Int))))] fun y3 =>
  .br (decide (y3.2.1<y2.2.1)) (
   .rq ((0:Int)≤y3.2.1∧y3.2.1<(↑x0.size:Int)) <|
 .nx 1 [.v (.int .i64 (IntKind.i64.wrap (IntKind.i64.wrap (IntKind.i64.wrap (y3.1*(10:Int))+IntKind.i64.wrap (at0 x0 (Int.toNat y3.2.1)))-(48:Int)))),.v (.int .i64 (IntKind.i64.wrap (y3.2.1+(1:Int))))]) <|
 .rq ([Value.int IntKind.i64 y3.1].length=(1:Nat)*(1:Nat)) <|
 .rq (one [Value.int IntKind.i64 y3.1]=true∧(y2.1.1+(1:Nat))*(8:Nat)≤(140737488355328:Nat)∧y2.1.1+(1:Nat)≤(9223372036854775807:Nat)) <|
 .nx 0 [.a 3 (y2.1.1+(1:Nat)) (y2.1.2++[Value.int IntKind.i64 y3.1]),.v (.int .i64 (IntKind.i64.wrap (y2.2.1-(9:Int))))]) <|
 .fz y2.1.1 y2.1.2 3 fun b3 c3 =>
 .qc3 151 [.slice (some { block:=b3,off:=(0:Nat):Addr }) y2.1.1 (c3)] fun y4 =>
 .ret [Sc.val .l y4,.bool (true)]
theorem fS_TextNat x0:qft aS_TextNat 87 [.string x0] (tS_TextNat x0) :=fitK (by kernel_rfl)
def tS_RatText (x0:qy0):T :=
 .qc1 90 [qv0 x0] fun y1 =>
 .bn y1 (.ret [.string ({ data:={ toList:=[]:Array UInt8 }:ByteArray })]) <|
 .fz ((1:Nat)) [.int .i64 1] 3 fun b2 c2 =>
 .qc2 152 [Sc.val .l x0.2.2.1,.slice (some { block:=b2,off:=(0:Nat):Addr }) ((1:Nat)) (c2)] fun y3 =>
 .br (y3 == (0:Int)) (
  .qc7 153 [qv1 (x0.1,x0.2.1,())] fun y4 =>
  .ret [.string y4]) <|
 .rg <|
 .qc11 153 [qv1 (x0.1,x0.2.1,())] fun y4 =>
 .rq (y4.size+{ data:={ toList:=[(47:UInt8)]:Array UInt8 }:ByteArray }.size≤(9223372036854775807:Nat)) <|
 .qc7 154 [Sc.val .l x0.2.2.1] fun y5 =>
 .rq ((y4++{ data:={ toList:=[(47:UInt8)]:Array UInt8 }:ByteArray }).size+y5.size≤(9223372036854775807:Nat)) <|
 .ret [.string (y4++{ data:={ toList:=[(47:UInt8)]:Array UInt8 }:ByteArray }++y5)]
theorem fS_RatText x0:qft qa0 88 [qv0 x0] (tS_RatText x0) :=fitK (by kernel_rfl)
def tS_CurKnown (x0:ByteArray):T :=
 .qc20 155 [.string x0] fun y1 =>
 .ret [.bool (!ByteArray.toList y1.1 == { data:={ toList:=[]:Array UInt8 }:ByteArray }.toList)]
theorem fS_CurKnown x0:qft qa0 89 [.string x0] (tS_CurKnown x0) :=fitK (by kernel_rfl)
def tS_RatOk (x0:qy0):T :=
 .qc1 156 [qv1 (x0.1,x0.2.1,())] fun y1 =>
 .bF y1 <|
 .qc1 157 [Sc.val .l x0.2.2.1] fun y2 =>
 .bF y2 <|
 .br ((↑x0.2.2.1.n:Int) == (0:Int)) (
  .rF) <|
 .br (decide ((↑x0.2.2.1.n:Int) > (18:Int))) (
  .rF) <|
 .br (decide ((↑x0.2.1.n:Int) > (18:Int))) (
  .rF) <|
 .qc3 158 [Sc.val .l x0.2.1,Sc.val .l x0.2.2.1] fun y3 =>
 .fz ((1:Nat)) [.int .i64 1] 3 fun b4 c4 =>
 .qc2 152 [Sc.val .l y3,.slice (some { block:=b4,off:=(0:Nat):Addr }) ((1:Nat)) (c4)] fun y5 =>
 .ret [.bool (y5 == (0:Int))]
theorem fS_RatOk x0:qft qa0 90 [qv0 x0] (tS_RatOk x0) :=fitK (by kernel_rfl)
def tS_RatSign (x0:qy0):T :=
 .rg <|
 .qc21 160 [] fun y1 =>
 .qc2 159 [qv0 x0,qv0 y1] fun y2 =>
 .ret [.int .i64 y2]
theorem fS_RatSign x0:qft qa0 91 [qv0 x0] (tS_RatSign x0) :=fitK (by kernel_rfl)
def aS_Join:An:=⟨[(3,[.s 5,.s 10],[.o (.o (.s)),.o (.o (.i .i64))])],[],[]⟩
def tS_Join (x0:SlV) (x1:ByteArray):T :=
 .lp [.o (.o (.s)),.o (.o (.i .i64))] [.v (.string ({ data:={ toList:=[]:Array UInt8 }:ByteArray })),.v (.int .i64 0)] fun y1 =>
 .br (decide (y1.2.1<(↑x0.n:Int))) (
  .el x0.1 (x0.n) y1.2.1 fun y2 =>
  .ql4 (y2.add (Int.toNat y1.2.1*(1:Nat))) fun y3 =>
  .br (decide (y1.2.1 > (0:Int))) (
   .rq (ByteArray.size y1.1+x1.size≤(9223372036854775807:Nat)) <|
 .rq ((y1.1++x1).size+y3.size≤(9223372036854775807:Nat)) <|
 .nx 0 [.v (.string (y1.1++x1++y3)),.v (.int .i64 (IntKind.i64.wrap (y1.2.1+(1:Int))))]) <|
 .rq (ByteArray.size y1.1+y3.size≤(9223372036854775807:Nat)) <|
 .nx 0 [.v (.string (y1.1++y3)),.v (.int .i64 (IntKind.i64.wrap (y1.2.1+(1:Int))))]) <|
 .ret [.string y1.1]
theorem fS_Join x0 x1:qft aS_Join 92 [Sc.val .l x0,.string x1] (tS_Join x0 x1) :=fitK (by kernel_rfl)
def tI_TextRat (x0:ByteArray):T :=
 .qc3 129 [.string x0,.string ({ data:={ toList:=[(47:UInt8)]:Array UInt8 }:ByteArray })] fun y1 =>
 .fz ((1:Nat)) [.int .i64 1] 3 fun b2 c2 =>
 .el y1.1 (y1.n) ((0:Int)) fun y3 =>
 .ql4 (y3.add (Int.toNat (0:Int)*(1:Nat))) fun y4 =>
 .qc16 165 [.string y4] fun y5 =>
 .bn y5.2.1 (.ret [qv0 ((false),nilS,nilS,()),.bool (false)]) <|
 .br (decide ((↑y1.n:Int) > (2:Int))) (
  .ret [qv0 ((false),nilS,nilS,()),.bool (false)]) <|
 .br ((↑y1.n:Int) == (2:Int)) (
  .el y1.1 (y1.n) ((1:Int)) fun y6 =>
  .ql4 (y6.add (Int.toNat (1:Int)*(1:Nat))) fun y7 =>
  .qc0 166 [.string y7] fun y8 =>
  .bn y8.2.1 (.ret [qv0 ((false),nilS,nilS,()),.bool (false)]) <|
 .qc1 167 [Sc.val .l y8.1] fun y9 =>
  .br y9 (
   .ret [qv0 ((false),nilS,nilS,()),.bool (false)]) <|
 .qc1 53 [qv0 (y5.1.1,y5.1.2.1,y8.1,())] fun y10 =>
  .bn y10 (.ret [qv0 ((false),nilS,nilS,()),.bool (false)]) <|
 .ret [qv0 (y5.1.1,y5.1.2.1,y8.1,()),.bool (true)]) <|
 .qc1 53 [qv0 (y5.1.1,y5.1.2.1,(⟨(some { block:=b2,off:=(0:Nat):Addr }),((1:Nat)),(c2)⟩:SlV),())] fun y6 =>
 .bn y6 (.ret [qv0 ((false),nilS,nilS,()),.bool (false)]) <|
 .ret [qv0 (y5.1.1,y5.1.2.1,(⟨(some { block:=b2,off:=(0:Nat):Addr }),((1:Nat)),(c2)⟩:SlV),()),.bool (true)]
theorem fI_TextRat x0:qft qa0 95 [.string x0] (tI_TextRat x0) :=fitK (by kernel_rfl)
def tL_eqRat (x0:qy0) (x1:qy0):T :=
 .qc1 168 [qv1 (x0.1,x0.2.1,()),qv1 (x1.1,x1.2.1,())] fun y1 =>
 .bF y1 <|
 .qc1 169 [Sc.val .l x0.2.2.1,Sc.val .l x1.2.2.1] fun y2 =>
 .bF y2 <|
 .rT
theorem fL_eqRat x0 x1:qft qa0 96 [qv0 x0,qv0 x1] (tL_eqRat x0 x1) :=fitK (by kernel_rfl)
def tI_natCopy (x0:SlV):T :=
 .rd ({ a:=x0.1,n:=x0.n,c:=x0.c:SlV }) ((1:Nat)) fun y1 =>
 .rq (one y1=true∧((0:Nat)+x0.n)*(8:Nat)≤(140737488355328:Nat)∧(0:Nat)+x0.n≤(9223372036854775807:Nat)) <|
 .fz ((0:Nat)+x0.n) ([]++y1) 3 fun b2 c2 =>
 .ret [.slice (some { block:=b2,off:=(0:Nat):Addr }) ((0:Nat)+x0.n) (c2)]
theorem fI_natCopy x0:qft qa0 102 [Sc.val .l x0] (tI_natCopy x0) :=fitK (by kernel_rfl)
def tI_RatText (x0:qy0):T :=
 .qc1 53 [qv0 x0] fun y1 =>
 .bn y1 (.ret [.string ({ data:={ toList:=[]:Array UInt8 }:ByteArray })]) <|
 .qc1 167 [Sc.val .l x0.2.2.1] fun y2 =>
 .br y2 (
  .qc7 180 [qv1 (x0.1,x0.2.1,())] fun y3 =>
  .ret [.string y3]) <|
 .rg <|
 .qc11 180 [qv1 (x0.1,x0.2.1,())] fun y3 =>
 .rq (y3.size+{ data:={ toList:=[(47:UInt8)]:Array UInt8 }:ByteArray }.size≤(9223372036854775807:Nat)) <|
 .qc7 181 [Sc.val .l x0.2.2.1] fun y4 =>
 .rq ((y3++{ data:={ toList:=[(47:UInt8)]:Array UInt8 }:ByteArray }).size+y4.size≤(9223372036854775807:Nat)) <|
 .ret [.string (y3++{ data:={ toList:=[(47:UInt8)]:Array UInt8 }:ByteArray }++y4)]
theorem fI_RatText x0:qft qa0 103 [qv0 x0] (tI_RatText x0) :=fitK (by kernel_rfl)
def aI_currencyOf:An:=⟨[(2,[.s 7,.c 2 0,.c 2 1,.c 2 2,.c 2 3],[.o (.o (.i .i64)),.o (.o (.s)),.o (.o (.s)),.o (.o (.i .i64)),.o (.o (.i .i64))])],[],[]⟩
def tI_currencyOf (x0:ByteArray):T :=
 .ql22 ({ block:=(0:Nat),off:=(0:Nat):Addr }) fun y1 =>
 .lp [.o (.o (.i .i64)),.o (.o (.s)),.o (.o (.s)),.o (.o (.i .i64)),.o (.o (.i .i64))] [.v (.int .i64 0),.v (.string ({ data:={ toList:=[]:Array UInt8 }:ByteArray })),.v (.string ({ data:={ toList:=[]:Array UInt8 }:ByteArray })),.v (.int .i64 0),.v (.int .i64 0)] fun y2 =>
 .br (decide (y2.1<(20:Int))) (
  .rq ((0:Int)≤y2.1∧y2.1<(↑(20:Nat):Int)) <|
 .xs [.string y1.1,.string y1.2.1,.int .i64 y1.2.2.1,.int .i64 y1.2.2.2.1,.string y1.2.2.2.2.1,.string y1.2.2.2.2.2.1,.int .i64 y1.2.2.2.2.2.2.1,.int .i64 y1.2.2.2.2.2.2.2.1,.string y1.2.2.2.2.2.2.2.2.1,.string y1.2.2.2.2.2.2.2.2.2.1,.int .i64 y1.2.2.2.2.2.2.2.2.2.2.1,.int .i64 y1.2.2.2.2.2.2.2.2.2.2.2.1,.string y1.2.2.2.2.2.2.2.2.2.2.2.2.1,.string y1.2.2.2.2.2.2.2.2.2.2.2.2.2.1,.int .i64 y1.2.2.2.2.2.2.2.2.2.2.2.2.2.2.1,.int .i64 y1.2.2.2.2.2.2.2.2.2.2.2.2.2.2.2.1,.string y1.2.2.2.2.2.2.2.2.2.2.2.2.2.2.2.2.1,.string y1.2.2.2.2.2.2.2.2.2.2.2.2.2.2.2.2.2.1,.int .i64 y1.2.2.2.2.2.2.2.2.2.2.2.2.2.2.2.2.2.2.1,.int .i64 y1.2.2.2.2.2.2.2.2.2.2.2.2.2.2.2.2.2.2.2.1,.string y1.2.2.2.2.2.2.2.2.2.2.2.2.2.2.2.2.2.2.2.2.1,.string y1.2.2.2.2.2.2.2.2.2.2.2.2.2.2.2.2.2.2.2.2.2.1,.int .i64 y1.2.2.2.2.2.2.2.2.2.2.2.2.2.2.2.2.2.2.2.2.2.2.1,.int .i64 y1.2.2.2.2.2.2.2.2.2.2.2.2.2.2.2.2.2.2.2.2.2.2.2.1,.string y1.2.2.2.2.2.2.2.2.2.2.2.2.2.2.2.2.2.2.2.2.2.2.2.2.1,.string y1.2.2.2.2.2.2.2.2.2.2.2.2.2.2.2.2.2.2.2.2.2.2.2.2.2.1,.int .i64 y1.2.2.2.2.2.2.2.2.2.2.2.2.2.2.2.2.2.2.2.2.2.2.2.2.2.2.1,.int .i64 y1.2.2.2.2.2.2.2.2.2.2.2.2.2.2.2.2.2.2.2.2.2.2.2.2.2.2.2.1,.string y1.2.2.2.2.2.2.2.2.2.2.2.2.2.2.2.2.2.2.2.2.2.2.2.2.2.2.2.2.1,.string y1.2.2.2.2.2.2.2.2.2.2.2.2.2.2.2.2.2.2.2.2.2.2.2.2.2.2.2.2.2.1,.int .i64 y1.2.2.2.2.2.2.2.2.2.2.2.2.2.2.2.2.2.2.2.2.2.2.2.2.2.2.2.2.2.2.1,.int .i64 y1.2.2.2.2.2.2.2.2.2.2.2.2.2.2.2.2.2.2.2.2.2.2.2.2.2.2.2.2.2.2.2.1,.string y1.2.2.2.2.2.2.2.2.2.2.2.2.2.2.2.2.2.2.2.2.2.2.2.2.2.2.2.2.2.2.2.2.1,.string y1.2.2.2.2.2.2.2.2.2.2.2.2.2.2.2.2.2.2.2.2.2.2.2.2.2.2.2.2.2.2.2.2.2.1,.int .i64 y1.2.2.2.2.2.2.2.2.2.2.2.2.2.2.2.2.2.2.2.2.2.2.2.2.2.2.2.2.2.2.2.2.2.2.1,.int .i64 y1.2.2.2.2.2.2.2.2.2.2.2.2.2.2.2.2.2.2.2.2.2.2.2.2.2.2.2.2.2.2.2.2.2.2.2.1,.string y1.2.2.2.2.2.2.2.2.2.2.2.2.2.2.2.2.2.2.2.2.2.2.2.2.2.2.2.2.2.2.2.2.2.2.2.2.1,.string y1.2.2.2.2.2.2.2.2.2.2.2.2.2.2.2.2.2.2.2.2.2.2.2.2.2.2.2.2.2.2.2.2.2.2.2.2.2.1,.int .i64 y1.2.2.2.2.2.2.2.2.2.2.2.2.2.2.2.2.2.2.2.2.2.2.2.2.2.2.2.2.2.2.2.2.2.2.2.2.2.2.1,.int .i64 y1.2.2.2.2.2.2.2.2.2.2.2.2.2.2.2.2.2.2.2.2.2.2.2.2.2.2.2.2.2.2.2.2.2.2.2.2.2.2.2.1,.string y1.2.2.2.2.2.2.2.2.2.2.2.2.2.2.2.2.2.2.2.2.2.2.2.2.2.2.2.2.2.2.2.2.2.2.2.2.2.2.2.2.1,.string y1.2.2.2.2.2.2.2.2.2.2.2.2.2.2.2.2.2.2.2.2.2.2.2.2.2.2.2.2.2.2.2.2.2.2.2.2.2.2.2.2.2.1,.int .i64 y1.2.2.2.2.2.2.2.2.2.2.2.2.2.2.2.2.2.2.2.2.2.2.2.2.2.2.2.2.2.2.2.2.2.2.2.2.2.2.2.2.2.2.1,.int .i64 y1.2.2.2.2.2.2.2.2.2.2.2.2.2.2.2.2.2.2.2.2.2.2.2.2.2.2.2.2.2.2.2.2.2.2.2.2.2.2.2.2.2.2.2.1,.string y1.2.2.2.2.2.2.2.2.2.2.2.2.2.2.2.2.2.2.2.2.2.2.2.2.2.2.2.2.2.2.2.2.2.2.2.2.2.2.2.2.2.2.2.2.1,.string y1.2.2.2.2.2.2.2.2.2.2.2.2.2.2.2.2.2.2.2.2.2.2.2.2.2.2.2.2.2.2.2.2.2.2.2.2.2.2.2.2.2.2.2.2.2.1,.int .i64 y1.2.2.2.2.2.2.2.2.2.2.2.2.2.2.2.2.2.2.2.2.2.2.2.2.2.2.2.2.2.2.2.2.2.2.2.2.2.2.2.2.2.2.2.2.2.2.1,.int .i64 y1.2.2.2.2.2.2.2.2.2.2.2.2.2.2.2.2.2.2.2.2.2.2.2.2.2.2.2.2.2.2.2.2.2.2.2.2.2.2.2.2.2.2.2.2.2.2.2.1,.string y1.2.2.2.2.2.2.2.2.2.2.2.2.2.2.2.2.2.2.2.2.2.2.2.2.2.2.2.2.2.2.2.2.2.2.2.2.2.2.2.2.2.2.2.2.2.2.2.2.1,.string y1.2.2.2.2.2.2.2.2.2.2.2.2.2.2.2.2.2.2.2.2.2.2.2.2.2.2.2.2.2.2.2.2.2.2.2.2.2.2.2.2.2.2.2.2.2.2.2.2.2.1,.int .i64 y1.2.2.2.2.2.2.2.2.2.2.2.2.2.2.2.2.2.2.2.2.2.2.2.2.2.2.2.2.2.2.2.2.2.2.2.2.2.2.2.2.2.2.2.2.2.2.2.2.2.2.1,.int .i64 y1.2.2.2.2.2.2.2.2.2.2.2.2.2.2.2.2.2.2.2.2.2.2.2.2.2.2.2.2.2.2.2.2.2.2.2.2.2.2.2.2.2.2.2.2.2.2.2.2.2.2.2.1,.string y1.2.2.2.2.2.2.2.2.2.2.2.2.2.2.2.2.2.2.2.2.2.2.2.2.2.2.2.2.2.2.2.2.2.2.2.2.2.2.2.2.2.2.2.2.2.2.2.2.2.2.2.2.1,.string y1.2.2.2.2.2.2.2.2.2.2.2.2.2.2.2.2.2.2.2.2.2.2.2.2.2.2.2.2.2.2.2.2.2.2.2.2.2.2.2.2.2.2.2.2.2.2.2.2.2.2.2.2.2.1,.int .i64 y1.2.2.2.2.2.2.2.2.2.2.2.2.2.2.2.2.2.2.2.2.2.2.2.2.2.2.2.2.2.2.2.2.2.2.2.2.2.2.2.2.2.2.2.2.2.2.2.2.2.2.2.2.2.2.1,.int .i64 y1.2.2.2.2.2.2.2.2.2.2.2.2.2.2.2.2.2.2.2.2.2.2.2.2.2.2.2.2.2.2.2.2.2.2.2.2.2.2.2.2.2.2.2.2.2.2.2.2.2.2.2.2.2.2.2.1,.string y1.2.2.2.2.2.2.2.2.2.2.2.2.2.2.2.2.2.2.2.2.2.2.2.2.2.2.2.2.2.2.2.2.2.2.2.2.2.2.2.2.2.2.2.2.2.2.2.2.2.2.2.2.2.2.2.2.1,.string y1.2.2.2.2.2.2.2.2.2.2.2.2.2.2.2.2.2.2.2.2.2.2.2.2.2.2.2.2.2.2.2.2.2.2.2.2.2.2.2.2.2.2.2.2.2.2.2.2.2.2.2.2.2.2.2.2.2.1,.int .i64 y1.2.2.2.2.2.2.2.2.2.2.2.2.2.2.2.2.2.2.2.2.2.2.2.2.2.2.2.2.2.2.2.2.2.2.2.2.2.2.2.2.2.2.2.2.2.2.2.2.2.2.2.2.2.2.2.2.2.2.1,.int .i64 y1.2.2.2.2.2.2.2.2.2.2.2.2.2.2.2.2.2.2.2.2.2.2.2.2.2.2.2.2.2.2.2.2.2.2.2.2.2.2.2.2.2.2.2.2.2.2.2.2.2.2.2.2.2.2.2.2.2.2.2.1,.string y1.2.2.2.2.2.2.2.2.2.2.2.2.2.2.2.2.2.2.2.2.2.2.2.2.2.2.2.2.2.2.2.2.2.2.2.2.2.2.2.2.2.2.2.2.2.2.2.2.2.2.2.2.2.2.2.2.2.2.2.2.1,.string y1.2.2.2.2.2.2.2.2.2.2.2.2.2.2.2.2.2.2.2.2.2.2.2.2.2.2.2.2.2.2.2.2.2.2.2.2.2.2.2.2.2.2.2.2.2.2.2.2.2.2.2.2.2.2.2.2.2.2.2.2.2.1,.int .i64 y1.2.2.2.2.2.2.2.2.2.2.2.2.2.2.2.2.2.2.2.2.2.2.2.2.2.2.2.2.2.2.2.2.2.2.2.2.2.2.2.2.2.2.2.2.2.2.2.2.2.2.2.2.2.2.2.2.2.2.2.2.2.2.1,.int .i64 y1.2.2.2.2.2.2.2.2.2.2.2.2.2.2.2.2.2.2.2.2.2.2.2.2.2.2.2.2.2.2.2.2.2.2.2.2.2.2.2.2.2.2.2.2.2.2.2.2.2.2.2.2.2.2.2.2.2.2.2.2.2.2.2.1,.string y1.2.2.2.2.2.2.2.2.2.2.2.2.2.2.2.2.2.2.2.2.2.2.2.2.2.2.2.2.2.2.2.2.2.2.2.2.2.2.2.2.2.2.2.2.2.2.2.2.2.2.2.2.2.2.2.2.2.2.2.2.2.2.2.2.1,.string y1.2.2.2.2.2.2.2.2.2.2.2.2.2.2.2.2.2.2.2.2.2.2.2.2.2.2.2.2.2.2.2.2.2.2.2.2.2.2.2.2.2.2.2.2.2.2.2.2.2.2.2.2.2.2.2.2.2.2.2.2.2.2.2.2.2.1,.int .i64 y1.2.2.2.2.2.2.2.2.2.2.2.2.2.2.2.2.2.2.2.2.2.2.2.2.2.2.2.2.2.2.2.2.2.2.2.2.2.2.2.2.2.2.2.2.2.2.2.2.2.2.2.2.2.2.2.2.2.2.2.2.2.2.2.2.2.2.1,.int .i64 y1.2.2.2.2.2.2.2.2.2.2.2.2.2.2.2.2.2.2.2.2.2.2.2.2.2.2.2.2.2.2.2.2.2.2.2.2.2.2.2.2.2.2.2.2.2.2.2.2.2.2.2.2.2.2.2.2.2.2.2.2.2.2.2.2.2.2.2.1,.string y1.2.2.2.2.2.2.2.2.2.2.2.2.2.2.2.2.2.2.2.2.2.2.2.2.2.2.2.2.2.2.2.2.2.2.2.2.2.2.2.2.2.2.2.2.2.2.2.2.2.2.2.2.2.2.2.2.2.2.2.2.2.2.2.2.2.2.2.2.1,.string y1.2.2.2.2.2.2.2.2.2.2.2.2.2.2.2.2.2.2.2.2.2.2.2.2.2.2.2.2.2.2.2.2.2.2.2.2.2.2.2.2.2.2.2.2.2.2.2.2.2.2.2.2.2.2.2.2.2.2.2.2.2.2.2.2.2.2.2.2.2.1,.int .i64 y1.2.2.2.2.2.2.2.2.2.2.2.2.2.2.2.2.2.2.2.2.2.2.2.2.2.2.2.2.2.2.2.2.2.2.2.2.2.2.2.2.2.2.2.2.2.2.2.2.2.2.2.2.2.2.2.2.2.2.2.2.2.2.2.2.2.2.2.2.2.2.1,.int .i64 y1.2.2.2.2.2.2.2.2.2.2.2.2.2.2.2.2.2.2.2.2.2.2.2.2.2.2.2.2.2.2.2.2.2.2.2.2.2.2.2.2.2.2.2.2.2.2.2.2.2.2.2.2.2.2.2.2.2.2.2.2.2.2.2.2.2.2.2.2.2.2.2.1,.string y1.2.2.2.2.2.2.2.2.2.2.2.2.2.2.2.2.2.2.2.2.2.2.2.2.2.2.2.2.2.2.2.2.2.2.2.2.2.2.2.2.2.2.2.2.2.2.2.2.2.2.2.2.2.2.2.2.2.2.2.2.2.2.2.2.2.2.2.2.2.2.2.2.1,.string y1.2.2.2.2.2.2.2.2.2.2.2.2.2.2.2.2.2.2.2.2.2.2.2.2.2.2.2.2.2.2.2.2.2.2.2.2.2.2.2.2.2.2.2.2.2.2.2.2.2.2.2.2.2.2.2.2.2.2.2.2.2.2.2.2.2.2.2.2.2.2.2.2.2.1,.int .i64 y1.2.2.2.2.2.2.2.2.2.2.2.2.2.2.2.2.2.2.2.2.2.2.2.2.2.2.2.2.2.2.2.2.2.2.2.2.2.2.2.2.2.2.2.2.2.2.2.2.2.2.2.2.2.2.2.2.2.2.2.2.2.2.2.2.2.2.2.2.2.2.2.2.2.2.1,.int .i64 y1.2.2.2.2.2.2.2.2.2.2.2.2.2.2.2.2.2.2.2.2.2.2.2.2.2.2.2.2.2.2.2.2.2.2.2.2.2.2.2.2.2.2.2.2.2.2.2.2.2.2.2.2.2.2.2.2.2.2.2.2.2.2.2.2.2.2.2.2.2.2.2.2.2.2.2.1,.string y1.2.2.2.2.2.2.2.2.2.2.2.2.2.2.2.2.2.2.2.2.2.2.2.2.2.2.2.2.2.2.2.2.2.2.2.2.2.2.2.2.2.2.2.2.2.2.2.2.2.2.2.2.2.2.2.2.2.2.2.2.2.2.2.2.2.2.2.2.2.2.2.2.2.2.2.2.1,.string y1.2.2.2.2.2.2.2.2.2.2.2.2.2.2.2.2.2.2.2.2.2.2.2.2.2.2.2.2.2.2.2.2.2.2.2.2.2.2.2.2.2.2.2.2.2.2.2.2.2.2.2.2.2.2.2.2.2.2.2.2.2.2.2.2.2.2.2.2.2.2.2.2.2.2.2.2.2.1,.int .i64 y1.2.2.2.2.2.2.2.2.2.2.2.2.2.2.2.2.2.2.2.2.2.2.2.2.2.2.2.2.2.2.2.2.2.2.2.2.2.2.2.2.2.2.2.2.2.2.2.2.2.2.2.2.2.2.2.2.2.2.2.2.2.2.2.2.2.2.2.2.2.2.2.2.2.2.2.2.2.2.1,.int .i64 y1.2.2.2.2.2.2.2.2.2.2.2.2.2.2.2.2.2.2.2.2.2.2.2.2.2.2.2.2.2.2.2.2.2.2.2.2.2.2.2.2.2.2.2.2.2.2.2.2.2.2.2.2.2.2.2.2.2.2.2.2.2.2.2.2.2.2.2.2.2.2.2.2.2.2.2.2.2.2.2.1] (Int.toNat y2.1*(4:Nat)) (.g [.s,.s,.i .i64,.i .i64]) fun y3 =>
  .br (ByteArray.toList y3.1 == x0.toList) (
   .ret [qv3 y3,.bool (true)]) <|
 .nx 0 [.v (.int .i64 (IntKind.i64.wrap (y2.1+(1:Int)))),.v (.string y2.2.1),.v (.string y2.2.2.1),.v (.int .i64 y2.2.2.2.1),.v (.int .i64 y2.2.2.2.2.1)]) <|
 .ret [qv3 (({ data:={ toList:=[]:Array UInt8 }:ByteArray }),({ data:={ toList:=[]:Array UInt8 }:ByteArray }),(((0:Int)):Int),(((0:Int)):Int),()),.bool (false)]
theorem fI_currencyOf x0:qft aI_currencyOf 107 [.string x0] (tI_currencyOf x0) :=fitK (by kernel_rfl)
def tI_IntOk (x0:qy1):T :=
 .qc1 109 [Sc.val .l x0.2.1] fun y1 =>
 .br y1 (
  .br (!x0.1) (
   .rT) <|
 .ret [.bool (decide ((↑x0.2.1.n:Int) > (0:Int)))]) <|
 .rF
theorem fI_IntOk x0:qft qa0 108 [qv1 x0] (tI_IntOk x0) :=fitK (by kernel_rfl)
def aI_NatOk:An:=⟨[(4,[.s 24],[.o (.o (.i .i64))])],[],[]⟩
def tI_NatOk (x0:SlV):T :=
 .br (decide ((↑x0.n:Int) > (50:Int))) (
  .rF) <|
 .br (decide ((↑x0.n:Int) > (0:Int))) (
  .el x0.1 (x0.n) (IntKind.i64.wrap ((↑x0.n:Int)-(1:Int))) fun y1 =>
  .ql18 (y1.add ((IntKind.i64.wrap ((↑x0.n:Int)-(1:Int))).toNat*(1:Nat))) fun y2 =>
  .br (y2 == (0:Int)) (
   .rF) <|
 .lp [.o (.o (.i .i64))] [.v (.int .i64 0)] fun y3 =>
  .br (decide (y3.1<(↑x0.n:Int))) (
   .el x0.1 (x0.n) y3.1 fun y4 =>
   .ql18 (y4.add (Int.toNat y3.1*(1:Nat))) fun y5 =>
   .br (decide (y5<(0:Int))) (
    .rF) <|
 .br (decide (y5≥(1000000000:Int))) (
    .rF) <|
 .nx 0 [.v (.int .i64 (IntKind.i64.wrap (y3.1+(1:Int))))]) <|
 .rT) <|
 .lp [.o (.o (.i .i64))] [.v (.int .i64 0)] fun y1 =>
 .br (decide (y1.1<(↑x0.n:Int))) (
  .el x0.1 (x0.n) y1.1 fun y2 =>
  .ql18 (y2.add (Int.toNat y1.1*(1:Nat))) fun y3 =>
  .br (decide (y3<(0:Int))) (
   .rF) <|
 .br (decide (y3≥(1000000000:Int))) (
   .rF) <|
 .nx 0 [.v (.int .i64 (IntKind.i64.wrap (y1.1+(1:Int))))]) <|
 .rT
theorem fI_NatOk x0:qft aI_NatOk 109 [Sc.val .l x0] (tI_NatOk x0) :=fitK (by kernel_rfl)
def aI_natGcd:An:=⟨[(1,[.s 0,.s 1],[.o (.o (.l)),.o (.o (.l))])],[],[]⟩
def tI_natGcd (x0:SlV) (x1:SlV):T :=
 .lp [.o (.o (.l)),.o (.o (.l))] [.v (Sc.val .l x0),.v (Sc.val .l x1)] fun y1 =>
 .br (decide ((↑y1.2.1.n:Int) > (0:Int))) (
  .qc23 117 [Sc.val .l y1.1,Sc.val .l y1.2.1] fun y2 =>
  .nx 0 [.v (Sc.val .l y1.2.1),.v (Sc.val .l y2.2.1)]) <|
 .qc3 102 [Sc.val .l y1.1] fun y2 =>
 .ret [Sc.val .l y2]
theorem fI_natGcd x0 x1:qft aI_natGcd 110 [Sc.val .l x0,Sc.val .l x1] (tI_natGcd x0 x1) :=fitK (by kernel_rfl)
def tI_intSign (x0:qy1):T :=
 .br ((↑x0.2.1.n:Int) == (0:Int)) (
  .ret [.int .i64 0]) <|
 .br x0.1 (
  .rM) <|
 .ret [.int .i64 1]
theorem fI_intSign x0:qft qa0 111 [qv1 x0] (tI_intSign x0) :=fitK (by kernel_rfl)
def aI_natOf:An:=⟨[(2,[.s 0,.s 3],[.o (.o (.i .u64)),.a 3])],[],[]⟩
def tI_natOf (x0:Int):T :=
 .lp [.o (.o (.i .u64)),.a 3] [.v (.int .u64 x0),.a 3 ((0:Nat)) []] fun y1 =>
 .br (decide (y1.1 > (0:Int))) (
  .rq ((1000000000:Int)≠(0:Int)) <|
 .rq ([Value.int IntKind.i64 (IntKind.i64.wrap (Int.tmod y1.1 (1000000000:Int)))].length=(1:Nat)*(1:Nat)) <|
 .rq (one [Value.int IntKind.i64 (IntKind.i64.wrap (Int.tmod y1.1 (1000000000:Int)))]=true∧(y1.2.1.1+(1:Nat))*(8:Nat)≤(140737488355328:Nat)∧y1.2.1.1+(1:Nat)≤(9223372036854775807:Nat)) <|
 .rq ((1000000000:Int)≠(0:Int)) <|
 .nx 0 [.v (.int .u64 (IntKind.u64.wrap (Int.tdiv y1.1 (1000000000:Int)))),.a 3 (y1.2.1.1+(1:Nat)) (y1.2.1.2++[Value.int IntKind.i64 (IntKind.i64.wrap (Int.tmod y1.1 (1000000000:Int)))])]) <|
 .fz y1.2.1.1 y1.2.1.2 3 fun b2 c2 =>
 .ret [.slice (some { block:=b2,off:=(0:Nat):Addr }) y1.2.1.1 (c2)]
theorem fI_natOf x0:qft aI_natOf 116 [.int .u64 x0] (tI_natOf x0) :=fitK (by kernel_rfl)
def aI_natDiv:An:=⟨[(9,[.s 9],[.o (.o (.l))]),(14,[.s 12,.s 13],[.a 3,.o (.o (.i .i64))])],[],[]⟩
def tI_natDiv (x0:SlV) (x1:SlV):T :=
 .qc2 119 [Sc.val .l x0,Sc.val .l x1] fun y1 =>
 .br (decide (y1<(0:Int))) (
  .qc3 102 [Sc.val .l x0] fun y2 =>
  .fz ((0:Nat)) [] 3 fun b3 c3 =>
  .ret [.slice (some { block:=b3,off:=(0:Nat):Addr }) ((0:Nat)) (c3),Sc.val .l y2]) <|
 .br ((↑x1.n:Int) == (1:Int)) (
  .el x1.1 (x1.n) ((0:Int)) fun y2 =>
  .ql18 (y2.add (Int.toNat (0:Int)*(1:Nat))) fun y3 =>
  .qc24 186 [Sc.val .l x0,.int .i64 y3] fun y4 =>
  .qc3 187 [.int .i64 y4.2.1] fun y5 =>
  .ret [Sc.val .l y4.1,Sc.val .l y5]) <|
 .el x1.1 (x1.n) (IntKind.i64.wrap ((↑x1.n:Int)-(1:Int))) fun y2 =>
 .ql18 (y2.add ((IntKind.i64.wrap ((↑x1.n:Int)-(1:Int))).toNat*(1:Nat))) fun y3 =>
 .rq (IntKind.i64.wrap (y3+(1:Int))≠(0:Int)) <|
 .fz ((1:Nat)) [.int .i64 (IntKind.i64.wrap (Int.tdiv (1000000000:Int) (IntKind.i64.wrap (y3+(1:Int)))))] 3 fun b4 c4 =>
 .qc3 65 [Sc.val .l x0,.slice (some { block:=b4,off:=(0:Nat):Addr }) ((1:Nat)) (c4)] fun y5 =>
 .fz ((1:Nat)) [.int .i64 (IntKind.i64.wrap (Int.tdiv (1000000000:Int) (IntKind.i64.wrap (y3+(1:Int)))))] 3 fun b6 c6 =>
 .qc3 65 [Sc.val .l x1,.slice (some { block:=b6,off:=(0:Nat):Addr }) ((1:Nat)) (c6)] fun y7 =>
 .lp [.o (.o (.l))] [.v (Sc.val .l y5)] fun y8 =>
 .br (decide ((↑y8.1.n:Int)≤(↑x0.n:Int))) (
  .rq ([Value.int IntKind.i64 (0:Int)].length=(1:Nat)*(1:Nat)) <|
 .rq (one [Value.int IntKind.i64 (0:Int)]=true) <|
 .ap ({ a:=y8.1.1,n:=y8.1.n,c:=y8.1.c:SlV }) 1 8 [.int .i64 0] ((1:Nat)) 3 fun y9 =>
  .nx 0 [.v (Sc.val .l y9)]) <|
 .rq ((0:Int)≤IntKind.i64.wrap ((↑y8.1.n:Int)-(↑y7.n:Int))∧IntKind.i64.wrap ((↑y8.1.n:Int)-(↑y7.n:Int))≤IntKind.i64.wrap ((↑y8.1.n:Int)-(↑y7.n:Int))∧(↑(8:Nat):Int)*IntKind.i64.wrap ((↑y8.1.n:Int)-(↑y7.n:Int))≤(281474976710656:Int)∧IntKind.i64.wrap ((↑y8.1.n:Int)-(↑y7.n:Int))≤(9223372036854775807:Int)) <|
 .lp [.a 3,.o (.o (.i .i64))] [.a 3 ((IntKind.i64.wrap ((↑y8.1.n:Int)-(↑y7.n:Int))).toNat) ((madeCells { toList:=[Value.int IntKind.i64 (0:Int)]:Array Value } ((IntKind.i64.wrap ((↑y8.1.n:Int)-(↑y7.n:Int))).toNat*(1:Nat))).toList),.v (.int .i64 (IntKind.i64.wrap ((↑(IntKind.i64.wrap ((↑y8.1.n:Int)-(↑y7.n:Int))).toNat:Int)-(1:Int))))] fun y9 =>
 .br (decide (y9.2.1≥(0:Int))) (
  .rq ((0:Int)≤y9.2.1∧y9.2.1≤IntKind.i64.wrap (IntKind.i64.wrap (y9.2.1+(↑y7.n:Int))+(1:Int))∧IntKind.i64.wrap (IntKind.i64.wrap (y9.2.1+(↑y7.n:Int))+(1:Int))≤(↑y8.1.c:Int)∧(↑y8.1.c:Int)≤(↑y8.1.c:Int)) <|
 .qc2 188 [.slice (if (↑y8.1.c:Int).toNat=Int.toNat y9.2.1 then y8.1.1 else Option.map (fun x=>x.add (Int.toNat y9.2.1*Go.Proofs.Tryz.prog.types[(3:Nat)].size)) y8.1.1) ((IntKind.i64.wrap (IntKind.i64.wrap (y9.2.1+(↑y7.n:Int))+(1:Int))).toNat-Int.toNat y9.2.1) ((↑y8.1.c:Int).toNat-Int.toNat y9.2.1),Sc.val .l y7] fun y10 =>
  .rq ((0:Int)≤y9.2.1∧y9.2.1<(↑y9.1.1:Int)) <|
 .rq (Int.toNat y9.2.1*(1:Nat)+[Value.int IntKind.i64 y10].length≤y9.1.2.length) <|
 .nx 1 [.a 3 y9.1.1 (setl y9.1.2 (Int.toNat y9.2.1*(1:Nat)) [Value.int IntKind.i64 y10]),.v (.int .i64 (IntKind.i64.wrap (y9.2.1-(1:Int))))]) <|
 .qc3 121 [Sc.val .l y8.1] fun y10 =>
 .qc24 186 [Sc.val .l y10,.int .i64 (IntKind.i64.wrap (Int.tdiv (1000000000:Int) (IntKind.i64.wrap (y3+(1:Int)))))] fun y11 =>
 .fz y9.1.1 y9.1.2 3 fun b12 c12 =>
 .qc3 121 [.slice (some { block:=b12,off:=(0:Nat):Addr }) y9.1.1 (c12)] fun y13 =>
 .ret [Sc.val .l y13,Sc.val .l y11.1]
theorem fI_natDiv x0 x1:qft aI_natDiv 117 [Sc.val .l x0,Sc.val .l x1] (tI_natDiv x0 x1) :=fitK (by kernel_rfl)
def aI_natCmp:An:=⟨[(6,[.s 5],[.o (.o (.i .i64))])],[],[]⟩
def tI_natCmp (x0:SlV) (x1:SlV):T :=
 .br ((↑x0.n:Int) != (↑x1.n:Int)) (
  .br (decide ((↑x0.n:Int)<(↑x1.n:Int))) (
   .rM) <|
 .ret [.int .i64 1]) <|
 .lp [.o (.o (.i .i64))] [.v (.int .i64 (IntKind.i64.wrap ((↑x0.n:Int)-(1:Int))))] fun y1 =>
 .br (decide (y1.1≥(0:Int))) (
  .rg <|
 .el x0.1 (x0.n) y1.1 fun y2 =>
  .ql25 (y2.add (Int.toNat y1.1*(1:Nat))) fun y3 =>
  .el x1.1 (x1.n) y1.1 fun y4 =>
  .ql25 (y4.add (Int.toNat y1.1*(1:Nat))) fun y5 =>
  .br (y3 != y5) (
   .rg <|
 .el x0.1 (x0.n) y1.1 fun y6 =>
   .ql25 (y6.add (Int.toNat y1.1*(1:Nat))) fun y7 =>
   .el x1.1 (x1.n) y1.1 fun y8 =>
   .ql25 (y8.add (Int.toNat y1.1*(1:Nat))) fun y9 =>
   .br (decide (y7<y9)) (
    .rM) <|
 .ret [.int .i64 1]) <|
 .nx 0 [.v (.int .i64 (IntKind.i64.wrap (y1.1-(1:Int))))]) <|
 .ret [.int .i64 0]
theorem fI_natCmp x0 x1:qft aI_natCmp 119 [Sc.val .l x0,Sc.val .l x1] (tI_natCmp x0 x1) :=fitK (by kernel_rfl)
def aI_trim:An:=⟨[(1,[.s 0],[.o (.o (.l))])],[],[]⟩
def tI_trim (x0:SlV):T :=
 .lp [.o (.o (.l))] [.v (Sc.val .l x0)] fun y1 =>
 .br (decide ((↑y1.1.n:Int) > (0:Int))) (
  .el y1.1.1 (y1.1.n) (IntKind.i64.wrap ((↑y1.1.n:Int)-(1:Int))) fun y2 =>
  .ql18 (y2.add ((IntKind.i64.wrap ((↑y1.1.n:Int)-(1:Int))).toNat*(1:Nat))) fun y3 =>
  .br (y3 == (0:Int)) (
   .rq ((0:Int)≤(0:Int)∧(0:Int)≤IntKind.i64.wrap ((↑y1.1.n:Int)-(1:Int))∧IntKind.i64.wrap ((↑y1.1.n:Int)-(1:Int))≤(↑y1.1.c:Int)∧(↑y1.1.c:Int)≤(↑y1.1.c:Int)) <|
 .nx 0 [.v (.slice (if (↑y1.1.c:Int).toNat=Int.toNat (0:Int) then y1.1.1 else Option.map (fun x=>x.add (Int.toNat (0:Int)*Go.Proofs.Tryz.prog.types[(3:Nat)].size)) y1.1.1) ((IntKind.i64.wrap ((↑y1.1.n:Int)-(1:Int))).toNat-Int.toNat (0:Int)) ((↑y1.1.c:Int).toNat-Int.toNat (0:Int)))]) <|
 .ret [Sc.val .l y1.1]) <|
 .ret [Sc.val .l y1.1]
theorem fI_trim x0:qft aI_trim 121 [Sc.val .l x0] (tI_trim x0) :=fitK (by kernel_rfl)
end
end Go.Proofs.YtagkjnpggkmehaaGreatDoor
