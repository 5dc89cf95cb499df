/-
  What each function of the seat comes to, as a tree; each tree is checked against the code.
-/
import Derived.Test.YtagkjnpggkmehaaGreatDoorEngD
import Derived.Test.YtagkjnpggkmehaaGreatDoorChecked
import Derived.KernelRfl
namespace Go.Proofs.YtagkjnpggkmehaaGreatDoor
open Sx
set_option maxRecDepth 100000
noncomputable section
abbrev qft:=@fits Tryz.prog
abbrev qa0:An:=⟨[],[],[]⟩
abbrev _root_.Sx.T.rF:T:=.ret [.bool false]
abbrev _root_.Sx.T.rT:T:=.ret [.bool true]
abbrev _root_.Sx.T.rM:T:=.ret [.int .i64 (-1)]
abbrev _root_.Sx.T.bF (b:Bool) (y:T):T:=.br (!b) (.ret [.bool false]) y
abbrev _root_.Sx.T.bn (b:Bool) (x:T) (y:T):T:=.br (!b) x y
abbrev _root_.Sx.T.qc0 (g:Nat) (l:List Value) (k:Sh.ty (.v (.o (.l)))→T):T:=.call false g l (.v (.o (.l))) k
abbrev _root_.Sx.T.qc1 (g:Nat) (l:List Value) (k:Sh.ty (.t [(.o (.l)),(.o (.b))])→T):T:=.call false g l (.t [(.o (.l)),(.o (.b))]) k
abbrev _root_.Sx.T.qc2 (g:Nat) (l:List Value) (k:Sh.ty (.v (.o (.s)))→T):T:=.call false g l (.v (.o (.s))) k
abbrev _root_.Sx.T.qc3 (g:Nat) (l:List Value) (k:Sh.ty (.v (.o (.b)))→T):T:=.call false g l (.v (.o (.b))) k
abbrev _root_.Sx.T.ql4 (a:Addr) (k:Sh1.ty (.g [.s,.b,.l,.l])→T):T:=.ld false a (.g [.s,.b,.l,.l]) k
abbrev _root_.Sx.T.qc5 (g:Nat) (l:List Value) (k:Sh.ty (.v (.g [.b,.l,.l]))→T):T:=.call true g l (.v (.g [.b,.l,.l])) k
abbrev _root_.Sx.T.qc6 (g:Nat) (l:List Value) (k:Sh.ty (.v (.o (.i .i64)))→T):T:=.call false g l (.v (.o (.i .i64))) k
abbrev _root_.Sx.T.qc7 (g:Nat) (l:List Value) (k:Sh.ty (.v (.g [.b,.l,.l]))→T):T:=.call false g l (.v (.g [.b,.l,.l])) k
abbrev _root_.Sx.T.qc8 (g:Nat) (l:List Value) (k:Sh.ty (.t [(.g [.b,.l,.l]),(.o (.b))])→T):T:=.call false g l (.t [(.g [.b,.l,.l]),(.o (.b))]) k
abbrev _root_.Sx.T.ql9 (a:Addr) (k:Sh1.ty (.o (.s))→T):T:=.ld false a (.o (.s)) k
abbrev _root_.Sx.T.qc10 (g:Nat) (l:List Value) (k:Sh.ty (.t [(.g [.s,.b,.l,.l]),(.o (.b))])→T):T:=.call false g l (.t [(.g [.s,.b,.l,.l]),(.o (.b))]) k
abbrev _root_.Sx.T.qc11 (g:Nat) (l:List Value) (k:Sh.ty (.v (.o (.p)))→T):T:=.call false g l (.v (.o (.p))) k
abbrev _root_.Sx.T.qc12 (g:Nat) (l:List Value) (k:Sh.ty (.v (.o (.b)))→T):T:=.call true g l (.v (.o (.b))) k
abbrev _root_.Sx.T.qc13 (g:Nat) (l:List Value) (k:Sh.ty (.v (.o (.i .i64)))→T):T:=.call true g l (.v (.o (.i .i64))) k
abbrev _root_.Sx.T.ql14 (a:Addr) (k:Sh1.ty (.o (.s))→T):T:=.ld true a (.o (.s)) k
abbrev _root_.Sx.T.qc15 (g:Nat) (l:List Value) (k:Sh.ty (.v (.g [.b,.l]))→T):T:=.call true g l (.v (.g [.b,.l])) k
abbrev _root_.Sx.T.qc16 (g:Nat) (l:List Value) (k:Sh.ty (.v (.g [.b,.l]))→T):T:=.call false g l (.v (.g [.b,.l])) k
abbrev _root_.Sx.T.qc17 (g:Nat) (l:List Value) (k:Sh.ty (.t [(.o (.s)),(.o (.s)),(.o (.b))])→T):T:=.call false g l (.t [(.o (.s)),(.o (.s)),(.o (.b))]) k
abbrev _root_.Sx.T.ql18 (a:Addr) (k:Sh1.ty (.o (.i .u8))→T):T:=.ld false a (.o (.i .u8)) k
abbrev _root_.Sx.T.qc19 (g:Nat) (l:List Value) (k:Sh.ty (.v (.o (.s)))→T):T:=.call true g l (.v (.o (.s))) k
abbrev _root_.Sx.T.qc20 (g:Nat) (l:List Value) (k:Sh.ty (.t [(.g [.s,.s,.i .i64,.i .i64]),(.o (.b))])→T):T:=.call false g l (.t [(.g [.s,.s,.i .i64,.i .i64]),(.o (.b))]) k
abbrev _root_.Sx.T.ql21 (a:Addr) (k:Sh1.ty (.o (.i .i64))→T):T:=.ld false a (.o (.i .i64)) k
abbrev _root_.Sx.T.qc22 (g:Nat) (l:List Value) (k:Sh.ty (.v (.o (.l)))→T):T:=.call true g l (.v (.o (.l))) k
abbrev _root_.Sx.T.ql23 (a:Addr) (k:Sh1.ty (.g [.s,.s,.i .i64,.i .i64,.s,.s,.i .i64,.i .i64,.s,.s,.i .i64,.i .i64,.s,.s,.i .i64,.i .i64,.s,.s,.i .i64,.i .i64,.s,.s,.i .i64,.i .i64,.s,.s,.i .i64,.i .i64,.s,.s,.i .i64,.i .i64,.s,.s,.i .i64,.i .i64,.s,.s,.i .i64,.i .i64,.s,.s,.i .i64,.i .i64,.s,.s,.i .i64,.i .i64,.s,.s,.i .i64,.i .i64,.s,.s,.i .i64,.i .i64,.s,.s,.i .i64,.i .i64,.s,.s,.i .i64,.i .i64,.s,.s,.i .i64,.i .i64,.s,.s,.i .i64,.i .i64,.s,.s,.i .i64,.i .i64,.s,.s,.i .i64,.i .i64])→T):T:=.ld false a (.g [.s,.s,.i .i64,.i .i64,.s,.s,.i .i64,.i .i64,.s,.s,.i .i64,.i .i64,.s,.s,.i .i64,.i .i64,.s,.s,.i .i64,.i .i64,.s,.s,.i .i64,.i .i64,.s,.s,.i .i64,.i .i64,.s,.s,.i .i64,.i .i64,.s,.s,.i .i64,.i .i64,.s,.s,.i .i64,.i .i64,.s,.s,.i .i64,.i .i64,.s,.s,.i .i64,.i .i64,.s,.s,.i .i64,.i .i64,.s,.s,.i .i64,.i .i64,.s,.s,.i .i64,.i .i64,.s,.s,.i .i64,.i .i64,.s,.s,.i .i64,.i .i64,.s,.s,.i .i64,.i .i64,.s,.s,.i .i64,.i .i64,.s,.s,.i .i64,.i .i64]) k
abbrev _root_.Sx.T.qc24 (g:Nat) (l:List Value) (k:Sh.ty (.t [])→T):T:=.call false g l (.t []) k
abbrev _root_.Sx.T.qc25 (g:Nat) (l:List Value) (k:Sh.ty (.t [(.o (.l)),(.o (.l))])→T):T:=.call false g l (.t [(.o (.l)),(.o (.l))]) k
abbrev _root_.Sx.T.qc26 (g:Nat) (l:List Value) (k:Sh.ty (.v (.g [.s,.s,.i .i64,.i .i64]))→T):T:=.call false g l (.v (.g [.s,.s,.i .i64,.i .i64])) k
abbrev _root_.Sx.T.qc27 (g:Nat) (l:List Value) (k:Sh.ty (.t [(.g [.b,.l]),(.o (.b))])→T):T:=.call false g l (.t [(.g [.b,.l]),(.o (.b))]) k
abbrev _root_.Sx.T.ql28 (a:Addr) (k:Sh1.ty (.o (.i .i64))→T):T:=.ld true a (.o (.i .i64)) k
abbrev _root_.Sx.T.qc29 (g:Nat) (l:List Value) (k:Sh.ty (.t [(.o (.l)),(.o (.i .i64))])→T):T:=.call false g l (.t [(.o (.l)),(.o (.i .i64))]) k
abbrev _root_.Sx.T.ql30 (a:Addr) (k:Sh1.ty (.g [.s,.s,.i .i64,.i .i64])→T):T:=.ld false a (.g [.s,.s,.i .i64,.i .i64]) k
abbrev _root_.Sx.T.ql31 (a:Addr) (k:Sh1.ty (.o (.l))→T):T:=.ld true a (.o (.l)) k
abbrev _root_.Sx.T.ql32 (a:Addr) (k:Sh1.ty (.o (.i .u8))→T):T:=.ld true a (.o (.i .u8)) k
def aL_FnRests:An:=⟨[(10,[.s 64],[.o (.o (.i .i64))])],[],[]⟩
def tL_FnRests (x0:SlV):T :=
 .br (decide ((↑x0.n:Int) > (1048576:Int))) (
  .rT) <|
 .qc0 12 [Sc.val .l x0] fun y1 =>
 .qc1 13 [Sc.val .l y1] fun y2 =>
 .qc1 14 [Sc.val .l y1,Sc.val .l y2.1] fun y3 =>
 .qc2 15 [Sc.val .l y1] fun y4 =>
 .qc1 8 [.string y4] fun y5 =>
 .bF y2.2.1 <|
 .bF y3.2.1 <|
 .br ((↑y3.1.n:Int) != (0:Int)) (
  .rF) <|
 .bF y5.2.1 <|
 .qc3 16 [Sc.val .l y5.1,Sc.val .l y1] fun y6 =>
 .bF y6 <|
 .qc3 17 [Sc.val .l y2.1] fun y7 =>
 .bF y7 <|
 .lp [.o (.o (.i .i64))] [.v (.int .i64 0)] fun y8 =>
 .br (decide (y8.1<(↑y1.n:Int))) (
  .el y1.1 (y1.n) y8.1 fun y9 =>
  .ql4 (y9.add (Int.toNat y8.1*(4:Nat))) fun y10 =>
  .rg <|
 .qc5 19 [Sc.val .l y1,.string y10.1] fun y11 =>
  .qc6 18 [qv0 y11,qv0 y10.2] fun y12 =>
  .br (y12 != (0:Int)) (
   .rF) <|
 .nx 0 [.v (.int .i64 (IntKind.i64.wrap (y8.1+(1:Int))))]) <|
 .qc7 21 [] fun y9 =>
 .qc1 20 [Sc.val .l y1,.string ({ data:={ toList:=[(80:UInt8),(76:UInt8),(78:UInt8)]:Array UInt8 }:ByteArray }),qv0 y9] fun y10 =>
 .br y10.2.1 (
  .qc7 19 [Sc.val .l y10.1,.string ({ data:={ toList:=[(80:UInt8),(76:UInt8),(78:UInt8)]:Array UInt8 }:ByteArray })] fun y11 =>
  .qc7 19 [Sc.val .l y1,.string ({ data:={ toList:=[(80:UInt8),(76:UInt8),(78:UInt8)]:Array UInt8 }:ByteArray })] fun y12 =>
  .qc7 21 [] fun y13 =>
  .qc8 23 [qv0 y12,qv0 y13] fun y14 =>
  .qc7 22 [qv0 y14.1,.bool y14.2.1] fun y15 =>
  .qc6 18 [qv0 y11,qv0 y15] fun y16 =>
  .ret [.bool (y16 == (0:Int))]) <|
 .rF
theorem fL_FnRests x0:qft aL_FnRests 4 [Sc.val .l x0] (tL_FnRests x0) :=fitK (by kernel_rfl)
def aI_TextRests:An:=⟨[(5,[.s 4,.s 16],[.a 40,.o (.o (.i .i64))])],[],[]⟩
def tI_TextRests (x0:ByteArray):T :=
 .br (x0.toList == { data:={ toList:=[]:Array UInt8 }:ByteArray }.toList) (
  .fz ((0:Nat)) [] 40 fun b1 c1 =>
  .ret [.slice (some { block:=b1,off:=(0:Nat):Addr }) ((0:Nat)) (c1),.bool (true)]) <|
 .qc0 37 [.string x0,.string ({ data:={ toList:=[(59:UInt8),(32:UInt8)]:Array UInt8 }:ByteArray })] fun y1 =>
 .lp [.a 40,.o (.o (.i .i64))] [.a 40 ((0:Nat)) [],.v (.int .i64 0)] fun y2 =>
 .br (decide (y2.2.1<(↑y1.n:Int))) (
  .el y1.1 (y1.n) y2.2.1 fun y3 =>
  .ql9 (y3.add (Int.toNat y2.2.1*(1:Nat))) fun y4 =>
  .qc10 38 [.string y4] fun y5 =>
  .bn y5.2.1 (.ret [.slice none 0 0,.bool (false)]) <|
 .br ((↑y2.1.1:Int) == (20:Int)) (
   .ret [.slice none 0 0,.bool (false)]) <|
 .rq ([Value.string y5.1.1,Value.bool y5.1.2.1,Value.slice y5.1.2.2.1.1 y5.1.2.2.1.n y5.1.2.2.1.c,Value.slice y5.1.2.2.2.1.1 y5.1.2.2.2.1.n y5.1.2.2.2.1.c].length=(1:Nat)*(4:Nat)) <|
 .rq (one [Value.string y5.1.1,Value.bool y5.1.2.1,Value.slice y5.1.2.2.1.1 y5.1.2.2.1.n y5.1.2.2.1.c,Value.slice y5.1.2.2.2.1.1 y5.1.2.2.2.1.n y5.1.2.2.2.1.c]=true∧(y2.1.1+(1:Nat))*(72:Nat)≤(140737488355328:Nat)∧y2.1.1+(1:Nat)≤(9223372036854775807:Nat)) <|
 .nx 0 [.a 40 (y2.1.1+(1:Nat)) (y2.1.2++[Value.string y5.1.1,Value.bool y5.1.2.1,Value.slice y5.1.2.2.1.1 y5.1.2.2.1.n y5.1.2.2.1.c,Value.slice y5.1.2.2.2.1.1 y5.1.2.2.2.1.n y5.1.2.2.2.1.c]),.v (.int .i64 (IntKind.i64.wrap (y2.2.1+(1:Int))))]) <|
 .fz y2.1.1 y2.1.2 40 fun b3 c3 =>
 .qc3 17 [.slice (some { block:=b3,off:=(0:Nat):Addr }) y2.1.1 (c3)] fun y4 =>
 .bn y4 (.ret [.slice none 0 0,.bool (false)]) <|
 .qc2 15 [.slice (some { block:=b3,off:=(0:Nat):Addr }) y2.1.1 (c3)] fun y5 =>
 .br (!y5.toList == x0.toList) (
  .ret [.slice none 0 0,.bool (false)]) <|
 .ret [.slice (some { block:=b3,off:=(0:Nat):Addr }) y2.1.1 (c3),.bool (true)]
theorem fI_TextRests x0:qft aI_TextRests 8 [.string x0] (tI_TextRests x0) :=fitK (by kernel_rfl)
def tS_MakeRests (x0:SlV):T :=
 .qc11 43 [Sc.val .l x0] fun y1 =>
 .qc0 44 [.pointer (some y1)] fun y2 =>
 .ret [Sc.val .l y2]
theorem fS_MakeRests x0:qft qa0 12 [Sc.val .l x0] (tS_MakeRests x0) :=fitK (by kernel_rfl)
def aI_RestsNeg:An:=⟨[(5,[.s 4,.s 13],[.a 40,.o (.o (.i .i64))])],[],[]⟩
def tI_RestsNeg (x0:SlV):T :=
 .qc3 17 [Sc.val .l x0] fun y1 =>
 .bn y1 (.ret [.slice none 0 0,.bool (false)]) <|
 .lp [.a 40,.o (.o (.i .i64))] [.a 40 ((0:Nat)) [],.v (.int .i64 0)] fun y2 =>
 .br (decide (y2.2.1<(↑x0.n:Int))) (
  .el x0.1 (x0.n) y2.2.1 fun y3 =>
  .ql4 (y3.add (Int.toNat y2.2.1*(4:Nat))) fun y4 =>
  .rg <|
 .qc5 45 [qv0 y4.2] fun y5 =>
  .rq ([Value.string y4.1,Value.bool y5.1,Value.slice y5.2.1.1 y5.2.1.n y5.2.1.c,Value.slice y5.2.2.1.1 y5.2.2.1.n y5.2.2.1.c].length=(1:Nat)*(4:Nat)) <|
 .rq (one [Value.string y4.1,Value.bool y5.1,Value.slice y5.2.1.1 y5.2.1.n y5.2.1.c,Value.slice y5.2.2.1.1 y5.2.2.1.n y5.2.2.1.c]=true∧(y2.1.1+(1:Nat))*(72:Nat)≤(140737488355328:Nat)∧y2.1.1+(1:Nat)≤(9223372036854775807:Nat)) <|
 .nx 0 [.a 40 (y2.1.1+(1:Nat)) (y2.1.2++[Value.string y4.1,Value.bool y5.1,Value.slice y5.2.1.1 y5.2.1.n y5.2.1.c,Value.slice y5.2.2.1.1 y5.2.2.1.n y5.2.2.1.c]),.v (.int .i64 (IntKind.i64.wrap (y2.2.1+(1:Int))))]) <|
 .fz y2.1.1 y2.1.2 40 fun b3 c3 =>
 .ret [.slice (some { block:=b3,off:=(0:Nat):Addr }) y2.1.1 (c3),.bool (true)]
theorem fI_RestsNeg x0:qft aI_RestsNeg 13 [Sc.val .l x0] (tI_RestsNeg x0) :=fitK (by kernel_rfl)
def aI_RestsAdd:An:=⟨[(5,[.s 6,.s 18],[.o (.o (.l)),.o (.o (.i .i64))])],[],[]⟩
def tI_RestsAdd (x0:SlV) (x1:SlV):T :=
 .qc3 17 [Sc.val .l x0] fun y1 =>
 .bn y1 (.ret [.slice none 0 0,.bool (false)]) <|
 .qc0 46 [Sc.val .l x0] fun y2 =>
 .lp [.o (.o (.l)),.o (.o (.i .i64))] [.v (Sc.val .l y2),.v (.int .i64 0)] fun y3 =>
 .br (decide (y3.2.1<(↑x1.n:Int))) (
  .el x1.1 (x1.n) y3.2.1 fun y4 =>
  .ql4 (y4.add (Int.toNat y3.2.1*(4:Nat))) fun y5 =>
  .qc1 20 [Sc.val .l y3.1,.string y5.1,qv0 y5.2] fun y6 =>
  .bn y6.2.1 (.ret [.slice none 0 0,.bool (false)]) <|
 .nx 0 [.v (Sc.val .l y6.1),.v (.int .i64 (IntKind.i64.wrap (y3.2.1+(1:Int))))]) <|
 .ret [Sc.val .l y3.1,.bool (true)]
theorem fI_RestsAdd x0 x1:qft aI_RestsAdd 14 [Sc.val .l x0,Sc.val .l x1] (tI_RestsAdd x0 x1) :=fitK (by kernel_rfl)
def aI_RestsText:An:=⟨[(3,[.s 3,.s 9],[.a 9,.o (.o (.i .i64))])],[],[]⟩
def tI_RestsText (x0:SlV):T :=
 .lp [.a 9,.o (.o (.i .i64))] [.a 9 ((0:Nat)) [],.v (.int .i64 0)] fun y1 =>
 .br (decide (y1.2.1<(↑x0.n:Int))) (
  .el x0.1 (x0.n) y1.2.1 fun y2 =>
  .ql4 (y2.add (Int.toNat y1.2.1*(4:Nat))) fun y3 =>
  .qc2 47 [qv2 y3] fun y4 =>
  .rq ([Value.string y4].length=(1:Nat)*(1:Nat)) <|
 .rq (one [Value.string y4]=true∧(y1.1.1+(1:Nat))*(16:Nat)≤(140737488355328:Nat)∧y1.1.1+(1:Nat)≤(9223372036854775807:Nat)) <|
 .nx 0 [.a 9 (y1.1.1+(1:Nat)) (y1.1.2++[Value.string y4]),.v (.int .i64 (IntKind.i64.wrap (y1.2.1+(1:Int))))]) <|
 .fz y1.1.1 y1.1.2 9 fun b2 c2 =>
 .qc2 48 [.slice (some { block:=b2,off:=(0:Nat):Addr }) y1.1.1 (c2),.string ({ data:={ toList:=[(59:UInt8),(32:UInt8)]:Array UInt8 }:ByteArray })] fun y3 =>
 .ret [.string y3]
theorem fI_RestsText x0:qft aI_RestsText 15 [Sc.val .l x0] (tI_RestsText x0) :=fitK (by kernel_rfl)
def tI_RestsSame (x0:SlV) (x1:SlV):T :=
 .qc3 49 [Sc.val .l x0,Sc.val .l x1,(Value.func (Fn.func (50:Nat)) { toList:=[]:Array Value } { toList:=[]:Array Value })] fun y1 =>
 .ret [.bool y1]
theorem fI_RestsSame x0 x1:qft qa0 16 [Sc.val .l x0,Sc.val .l x1] (tI_RestsSame x0 x1) :=fitK (by kernel_rfl)
def aI_RestsOk:An:=⟨[(2,[.s 7],[.o (.o (.i .i64))])],[],[]⟩
def tI_RestsOk (x0:SlV):T :=
 .lp [.o (.o (.i .i64))] [.v (.int .i64 0)] fun y1 =>
 .br (decide (y1.1<(↑x0.n:Int))) (
  .el x0.1 (x0.n) y1.1 fun y2 =>
  .ql4 (y2.add (Int.toNat y1.1*(4:Nat))) fun y3 =>
  .rg <|
 .qc12 52 [.string y3.1] fun y4 =>
  .bF y4 <|
 .qc12 53 [qv0 y3.2] fun y5 =>
  .bF y5 <|
 .qc13 54 [qv0 y3.2] fun y6 =>
  .br (y6 == (0:Int)) (
   .rF) <|
 .br (decide (y1.1 > (0:Int))) (
   .el x0.1 (x0.n) (IntKind.i64.wrap (y1.1-(1:Int))) fun y7 =>
   .ql14 ((y7.add ((IntKind.i64.wrap (y1.1-(1:Int))).toNat*(4:Nat))).add (0:Nat)) fun y8 =>
   .br (!Op.bytesLess y8.toList (ByteArray.toList y3.1)) (
    .rF) <|
 .nx 0 [.v (.int .i64 (IntKind.i64.wrap (y1.1+(1:Int))))]) <|
 .nx 0 [.v (.int .i64 (IntKind.i64.wrap (y1.1+(1:Int))))]) <|
 .rT
theorem fI_RestsOk x0:qft aI_RestsOk 17 [Sc.val .l x0] (tI_RestsOk x0) :=fitK (by kernel_rfl)
def tI_RatCmp (x0:qy0) (x1:qy0):T :=
 .qc3 55 [qv0 x0,qv0 x1] fun y1 =>
 .bn y1 (.ret [.int .i64 0]) <|
 .rg <|
 .qc15 57 [qv0 x0,Sc.val .l x1.2.2.1] fun y2 =>
 .qc16 57 [qv0 x1,Sc.val .l x0.2.2.1] fun y3 =>
 .qc6 56 [qv1 y2,qv1 y3] fun y4 =>
 .ret [.int .i64 y4]
theorem fI_RatCmp x0 x1:qft qa0 18 [qv0 x0,qv0 x1] (tI_RatCmp x0 x1) :=fitK (by kernel_rfl)
def aI_RestOf:An:=⟨[(2,[.s 9,.c 4 0,.c 4 1,.c 4 2],[.o (.o (.i .i64)),.o (.o (.b)),.o (.o (.l)),.o (.o (.l))])],[],[]⟩
def tI_RestOf (x0:SlV) (x1:ByteArray):T :=
 .lp [.o (.o (.i .i64)),.o (.o (.b)),.o (.o (.l)),.o (.o (.l))] [.v (.int .i64 0),.v (.bool (false)),.v (.slice none 0 0),.v (.slice none 0 0)] fun y1 =>
 .br (decide (y1.1<(↑x0.n:Int))) (
  .el x0.1 (x0.n) y1.1 fun y2 =>
  .ql4 (y2.add (Int.toNat y1.1*(4:Nat))) fun y3 =>
  .br (ByteArray.toList y3.1 == x1.toList) (
   .qc7 58 [qv0 y3.2] fun y4 =>
   .ret [qv0 y4]) <|
 .nx 0 [.v (.int .i64 (IntKind.i64.wrap (y1.1+(1:Int)))),.v (.bool y1.2.1),.v (Sc.val .l y1.2.2.1),.v (Sc.val .l y1.2.2.2.1)]) <|
 .qc7 59 [] fun y2 =>
 .ret [qv0 y2]
theorem fI_RestOf x0 x1:qft aI_RestOf 19 [Sc.val .l x0,.string x1] (tI_RestOf x0 x1) :=fitK (by kernel_rfl)
def aI_RestAdd:An:=⟨[(8,[.s 47],[.o (.o (.i .i64))]),(17,[.s 13,.s 70],[.o (.o (.l)),.o (.o (.i .i64))])],[(15,[],[])],[]⟩
def tI_RestAdd (x0:SlV) (x1:ByteArray) (x2:qy0):T :=
 .qc3 17 [Sc.val .l x0] fun y1 =>
 .bn y1 (.ret [.slice none 0 0,.bool (false)]) <|
 .qc3 53 [qv0 x2] fun y2 =>
 .bn y2 (.ret [.slice none 0 0,.bool (false)]) <|
 .qc3 52 [.string x1] fun y3 =>
 .bn y3 (.ret [.slice none 0 0,.bool (false)]) <|
 .rg <|
 .qc5 19 [Sc.val .l x0,.string x1] fun y4 =>
 .qc8 23 [qv0 y4,qv0 x2] fun y5 =>
 .bn y5.2.1 (.ret [.slice none 0 0,.bool (false)]) <|
 .mo (.mk 85) (.v (.o (.x))) fun y6 =>
 .mo (.up 85 y6.1 (.string x1) (qv0 y5.1)) (.t []) fun _ =>
 .lp [.o (.o (.i .i64))] [.v (.int .i64 0)] fun y8 =>
 .br (decide (y8.1<(↑x0.n:Int))) (
  .el x0.1 (x0.n) y8.1 fun y9 =>
  .ql4 (y9.add (Int.toNat y8.1*(4:Nat))) fun y10 =>
  .br (!ByteArray.toList y10.1 == x1.toList) (
   .rg <|
 .qc5 58 [qv0 y10.2] fun y11 =>
   .mo (.up 85 y6.1 (.string y10.1) (qv0 y11)) (.t []) fun _ =>
   .nx 0 [.v (.int .i64 (IntKind.i64.wrap (y8.1+(1:Int))))]) <|
 .nx 0 [.v (.int .i64 (IntKind.i64.wrap (y8.1+(1:Int))))]) <|
 .jn [] (fun _ =>
  .qc0 60 [] fun y10 =>
  .fz ((0:Nat)) [] 40 fun b11 c11 =>
  .lp [.o (.o (.l)),.o (.o (.i .i64))] [.v (.slice (some { block:=b11,off:=(0:Nat):Addr }) ((0:Nat)) (c11)),.v (.int .i64 0)] fun y12 =>
  .br (decide (y12.2.1<(↑y10.n:Int))) (
   .el y10.1 (y10.n) y12.2.1 fun y13 =>
   .ql9 (y13.add (Int.toNat y12.2.1*(1:Nat))) fun y14 =>
   .mo (.lk 85 y6.1 (.string y14) true) (.t [(.g [.b,.l,.l]),(.o (.b))]) fun y15 =>
   .br y15.2.1 (
    .rq ([Value.string y14,Value.bool y15.1.1,Value.slice y15.1.2.1.1 y15.1.2.1.n y15.1.2.1.c,Value.slice y15.1.2.2.1.1 y15.1.2.2.1.n y15.1.2.2.1.c].length=(1:Nat)*(4:Nat)) <|
 .rq (one [Value.string y14,Value.bool y15.1.1,Value.slice y15.1.2.1.1 y15.1.2.1.n y15.1.2.1.c,Value.slice y15.1.2.2.1.1 y15.1.2.2.1.n y15.1.2.2.1.c]=true) <|
 .ap ({ a:=y12.1.1,n:=y12.1.n,c:=y12.1.c:SlV }) 4 72 [.string y14,.bool y15.1.1,Sc.val .l y15.1.2.1,Sc.val .l y15.1.2.2.1] ((1:Nat)) 40 fun y16 =>
    .nx 2 [.v (Sc.val .l y16),.v (.int .i64 (IntKind.i64.wrap (y12.2.1+(1:Int))))]) <|
 .nx 2 [.v (Sc.val .l y12.1),.v (.int .i64 (IntKind.i64.wrap (y12.2.1+(1:Int))))]) <|
 .ret [Sc.val .l y12.1,.bool (true)]) <|
 .qc6 54 [qv0 y5.1] fun y9 =>
 .br (y9 == (0:Int)) (
  .mo (.del ({ toList:=[(85:Nat),(9:Nat)]:Array Nat }) 0 y6.1 (.string x1)) (.t []) fun _ =>
  .nx 1 []) <|
 .nx 1 []
theorem fI_RestAdd x0 x1 x2:qft aI_RestAdd 20 [Sc.val .l x0,.string x1,qv0 x2] (tI_RestAdd x0 x1 x2) :=fitK (by kernel_rfl)
def tL_half :T :=
 .qc16 62 [.int .i64 1] fun y1 =>
 .qc16 62 [.int .i64 2] fun y2 =>
 .qc8 61 [qv1 y1,qv1 y2] fun y3 =>
 .qc7 22 [qv0 y3.1,.bool y3.2.1] fun y4 =>
 .ret [qv0 y4]
theorem fL_half :qft qa0 21 [] (tL_half ) :=fitK (by kernel_rfl)
def tL_must (x0:qy0) (x1:Bool):T :=
 .br (!x1) (
  .ret [qv0 ((false),nilS,nilS,())]) <|
 .ret [qv0 x0]
theorem fL_must x0 x1:qft qa0 22 [qv0 x0,.bool x1] (tL_must x0 x1) :=fitK (by kernel_rfl)
def tI_RatAdd (x0:qy0) (x1:qy0):T :=
 .qc3 55 [qv0 x0,qv0 x1] fun y1 =>
 .bn y1 (.ret [qv0 ((false),nilS,nilS,()),.bool (false)]) <|
 .rg <|
 .rg <|
 .qc15 57 [qv0 x0,Sc.val .l x1.2.2.1] fun y2 =>
 .qc15 57 [qv0 x1,Sc.val .l x0.2.2.1] fun y3 =>
 .qc15 64 [qv1 y2,qv1 y3] fun y4 =>
 .qc0 65 [Sc.val .l x0.2.2.1,Sc.val .l x1.2.2.1] fun y5 =>
 .qc8 63 [qv1 y4,Sc.val .l y5] fun y6 =>
 .ret [qv0 y6.1,.bool y6.2.1]
theorem fI_RatAdd x0 x1:qft qa0 23 [qv0 x0,qv0 x1] (tI_RatAdd x0 x1) :=fitK (by kernel_rfl)
def aS_RestsOk:An:=⟨[(2,[.s 7],[.o (.o (.i .i64))])],[],[]⟩
def tS_RestsOk (x0:SlV):T :=
 .lp [.o (.o (.i .i64))] [.v (.int .i64 0)] fun y1 =>
 .br (decide (y1.1<(↑x0.n:Int))) (
  .el x0.1 (x0.n) y1.1 fun y2 =>
  .ql4 (y2.add (Int.toNat y1.1*(4:Nat))) fun y3 =>
  .rg <|
 .qc12 89 [.string y3.1] fun y4 =>
  .bF y4 <|
 .qc12 90 [qv0 y3.2] fun y5 =>
  .bF y5 <|
 .qc13 91 [qv0 y3.2] fun y6 =>
  .br (y6 == (0:Int)) (
   .rF) <|
 .br (decide (y1.1 > (0:Int))) (
   .el x0.1 (x0.n) (IntKind.i64.wrap (y1.1-(1:Int))) fun y7 =>
   .ql14 ((y7.add ((IntKind.i64.wrap (y1.1-(1:Int))).toNat*(4:Nat))).add (0:Nat)) fun y8 =>
   .br (!Op.bytesLess y8.toList (ByteArray.toList y3.1)) (
    .rF) <|
 .nx 0 [.v (.int .i64 (IntKind.i64.wrap (y1.1+(1:Int))))]) <|
 .nx 0 [.v (.int .i64 (IntKind.i64.wrap (y1.1+(1:Int))))]) <|
 .rT
theorem fS_RestsOk x0:qft aS_RestsOk 35 [Sc.val .l x0] (tS_RestsOk x0) :=fitK (by kernel_rfl)
def tI_textRest (x0:ByteArray):T :=
 .qc17 94 [.string x0,.string ({ data:={ toList:=[(32:UInt8)]:Array UInt8 }:ByteArray })] fun y1 =>
 .qc8 95 [.string y1.2.1] fun y2 =>
 .br y1.2.2.1 (
  .ret [qv2 (y1.1,y2.1.1,y2.1.2.1,y2.1.2.2.1,()),.bool y2.2.1]) <|
 .ret [qv2 (y1.1,y2.1.1,y2.1.2.1,y2.1.2.2.1,()),.bool (false)]
theorem fI_textRest x0:qft qa0 38 [.string x0] (tI_textRest x0) :=fitK (by kernel_rfl)
def aS_l01New:An:=⟨[(3,[.s 3,.s 4],[.o (.o (.i .i64)),.o (.o (.i .i64))])],[],[]⟩
def tS_l01New (x0:SlV):T :=
 .lp [.o (.o (.i .i64)),.o (.o (.i .i64))] [.v (.int .i64 (IntKind.i64.wrap ((1616:Int)+(↑x0.n:Int)))),.v (.int .i64 0)] fun y1 =>
 .br (decide (y1.2.1<(↑x0.n:Int))) (
  .br (decide (y1.2.1<(4000:Int))) (
   .el x0.1 (x0.n) y1.2.1 fun y2 =>
   .ql18 (y2.add (Int.toNat y1.2.1*(1:Nat))) fun y3 =>
   .nx 0 [.v (.int .i64 (IntKind.i64.wrap (↑(BitVec.ofInt (64:Nat) (IntKind.i64.wrap (IntKind.i64.wrap (IntKind.i64.wrap (y1.1*(41:Int))+IntKind.i64.wrap y3)+(7:Int))) &&& BitVec.ofInt (64:Nat) (1073741823:Int)).toNat:Int))),.v (.int .i64 (IntKind.i64.wrap (y1.2.1+(1:Int))))]) <|
 .es [Sc.val .l x0,.int .i64 0,.int .i64 y1.1] 122 fun b2 =>
  .ret [.pointer (some { block:=b2,off:=(0:Nat):Addr })]) <|
 .es [Sc.val .l x0,.int .i64 0,.int .i64 y1.1] 122 fun b2 =>
 .ret [.pointer (some { block:=b2,off:=(0:Nat):Addr })]
theorem fS_l01New x0:qft aS_l01New 43 [Sc.val .l x0] (tS_l01New x0) :=fitK (by kernel_rfl)
def aS_l19Draw:An:=⟨[(3,[.s 3,.s 4],[.o (.o (.l)),.o (.o (.i .i64))])],[],[]⟩
def tS_l19Draw (x0:Addr):T :=
 .qc6 97 [.pointer (some x0),.int .i64 4] fun y1 =>
 .fz ((0:Nat)) [] 40 fun b2 c2 =>
 .lp [.o (.o (.l)),.o (.o (.i .i64))] [.v (.slice (some { block:=b2,off:=(0:Nat):Addr }) ((0:Nat)) (c2)),.v (.int .i64 y1)] fun y3 =>
 .br (decide (y3.2.1 > (0:Int))) (
  .qc2 99 [.pointer (some x0)] fun y4 =>
  .qc7 100 [.pointer (some x0),.int .i64 2] fun y5 =>
  .qc1 98 [Sc.val .l y3.1,.string y4,qv0 y5] fun y6 =>
  .br y6.2.1 (
   .nx 0 [.v (Sc.val .l y6.1),.v (.int .i64 (IntKind.i64.wrap (y3.2.1-(1:Int))))]) <|
 .nx 0 [.v (Sc.val .l y3.1),.v (.int .i64 (IntKind.i64.wrap (y3.2.1-(1:Int))))]) <|
 .ret [Sc.val .l y3.1]
theorem fS_l19Draw x0:qft aS_l19Draw 44 [.pointer (some x0)] (tS_l19Draw x0) :=fitK (by kernel_rfl)
def tI_ratNeg (x0:qy0):T :=
 .rg <|
 .qc15 101 [qv1 (x0.1,x0.2.1,())] fun y1 =>
 .qc0 102 [Sc.val .l x0.2.2.1] fun y2 =>
 .ret [qv0 (y1.1,y1.2.1,y2,())]
theorem fI_ratNeg x0:qft qa0 45 [qv0 x0] (tI_ratNeg x0) :=fitK (by kernel_rfl)
def aI_restsCopy:An:=⟨[(3,[.s 3,.s 9],[.o (.o (.l)),.o (.o (.i .i64))])],[],[]⟩
def tI_restsCopy (x0:SlV):T :=
 .fz ((0:Nat)) [] 40 fun b1 c1 =>
 .lp [.o (.o (.l)),.o (.o (.i .i64))] [.v (.slice (some { block:=b1,off:=(0:Nat):Addr }) ((0:Nat)) (c1)),.v (.int .i64 0)] fun y2 =>
 .br (decide (y2.2.1<(↑x0.n:Int))) (
  .el x0.1 (x0.n) y2.2.1 fun y3 =>
  .ql4 (y3.add (Int.toNat y2.2.1*(4:Nat))) fun y4 =>
  .rg <|
 .qc5 58 [qv0 y4.2] fun y5 =>
  .rq ([Value.string y4.1,Value.bool y5.1,Value.slice y5.2.1.1 y5.2.1.n y5.2.1.c,Value.slice y5.2.2.1.1 y5.2.2.1.n y5.2.2.1.c].length=(1:Nat)*(4:Nat)) <|
 .rq (one [Value.string y4.1,Value.bool y5.1,Value.slice y5.2.1.1 y5.2.1.n y5.2.1.c,Value.slice y5.2.2.1.1 y5.2.2.1.n y5.2.2.1.c]=true) <|
 .ap ({ a:=y2.1.1,n:=y2.1.n,c:=y2.1.c:SlV }) 4 72 [.string y4.1,.bool y5.1,Sc.val .l y5.2.1,Sc.val .l y5.2.2.1] ((1:Nat)) 40 fun y6 =>
  .nx 0 [.v (Sc.val .l y6),.v (.int .i64 (IntKind.i64.wrap (y2.2.1+(1:Int))))]) <|
 .ret [Sc.val .l y2.1]
theorem fI_restsCopy x0:qft aI_restsCopy 46 [Sc.val .l x0] (tI_restsCopy x0) :=fitK (by kernel_rfl)
def tI_restText (x0:qy2):T :=
 .rg <|
 .rq (ByteArray.size x0.1+{ data:={ toList:=[(32:UInt8)]:Array UInt8 }:ByteArray }.size≤(9223372036854775807:Nat)) <|
 .qc19 103 [qv0 x0.2] fun y1 =>
 .rq ((x0.1++{ data:={ toList:=[(32:UInt8)]:Array UInt8 }:ByteArray }).size+y1.size≤(9223372036854775807:Nat)) <|
 .ret [.string (x0.1++{ data:={ toList:=[(32:UInt8)]:Array UInt8 }:ByteArray }++y1)]
theorem fI_restText x0:qft qa0 47 [qv2 x0] (tI_restText x0) :=fitK (by kernel_rfl)
def tI_Join (x0:SlV) (x1:ByteArray):T :=
 .qc2 104 [Sc.val .l x0,.string x1] fun y1 =>
 .ret [.string y1]
theorem fI_Join x0 x1:qft qa0 48 [Sc.val .l x0,.string x1] (tI_Join x0 x1) :=fitK (by kernel_rfl)
def aX_EqualFunc_Rest:An:=⟨[(4,[.s 17],[.o (.o (.i .i64))])],[],[]⟩
def tX_EqualFunc_Rest (x0:SlV) (x1:SlV) (x2:Nat):T :=
 .br ((↑x0.n:Int) != (↑x1.n:Int)) (
  .rF) <|
 .lp [.o (.o (.i .i64))] [.v (.int .i64 0)] fun y1 =>
 .br (decide (y1.1<(↑x0.n:Int))) (
  .el x0.1 (x0.n) y1.1 fun y2 =>
  .ql4 (y2.add (Int.toNat y1.1*(4:Nat))) fun y3 =>
  .el x1.1 (x1.n) y1.1 fun y4 =>
  .ql4 (y4.add (Int.toNat y1.1*(4:Nat))) fun y5 =>
  .call false x2 [qv2 y3,qv2 y5] (.v (.o (.b))) fun y6 =>
  .bF y6 <|
 .nx 0 [.v (.int .i64 (IntKind.i64.wrap (y1.1+(1:Int))))]) <|
 .rT
theorem fX_EqualFunc_Rest x0 x1 x2:qft aX_EqualFunc_Rest 49 [Sc.val .l x0,Sc.val .l x1,(Value.func (Fn.func x2) { toList:=[]:Array Value } { toList:=[]:Array Value })] (tX_EqualFunc_Rest x0 x1 x2) :=fitK (by kernel_rfl)
def tI_RestsSame_1 (x0:qy2) (x1:qy2):T :=
 .br (ByteArray.toList x0.1 == ByteArray.toList x1.1) (
  .qc3 51 [qv0 x0.2,qv0 x1.2] fun y1 =>
  .ret [.bool y1]) <|
 .rF
theorem fI_RestsSame_1 x0 x1:qft qa0 50 [qv2 x0,qv2 x1] (tI_RestsSame_1 x0 x1) :=fitK (by kernel_rfl)
def tI_ratSame (x0:qy0) (x1:qy0):T :=
 .qc3 105 [qv1 (x0.1,x0.2.1,()),qv1 (x1.1,x1.2.1,())] fun y1 =>
 .br y1 (
  .qc3 106 [Sc.val .l x0.2.2.1,Sc.val .l x1.2.2.1] fun y2 =>
  .ret [.bool y2]) <|
 .rF
theorem fI_ratSame x0 x1:qft qa0 51 [qv0 x0,qv0 x1] (tI_ratSame x0 x1) :=fitK (by kernel_rfl)
def tI_CurKnown (x0:ByteArray):T :=
 .qc20 107 [.string x0] fun y1 =>
 .ret [.bool y1.2.1]
theorem fI_CurKnown x0:qft qa0 52 [.string x0] (tI_CurKnown x0) :=fitK (by kernel_rfl)
def tI_RatOk (x0:qy0):T :=
 .qc3 108 [qv1 (x0.1,x0.2.1,())] fun y1 =>
 .bF y1 <|
 .qc3 109 [Sc.val .l x0.2.2.1] fun y2 =>
 .bF y2 <|
 .br ((↑x0.2.2.1.n:Int) == (0:Int)) (
  .rF) <|
 .br (decide ((↑x0.2.2.1.n:Int) > (18:Int))) (
  .rF) <|
 .br (decide ((↑x0.2.1.n:Int) > (18:Int))) (
  .rF) <|
 .qc0 110 [Sc.val .l x0.2.1,Sc.val .l x0.2.2.1] fun y3 =>
 .br ((↑y3.n:Int) == (1:Int)) (
  .el y3.1 (y3.n) ((0:Int)) fun y4 =>
  .ql21 (y4.add (Int.toNat (0:Int)*(1:Nat))) fun y5 =>
  .ret [.bool (y5 == (1:Int))]) <|
 .rF
theorem fI_RatOk x0:qft qa0 53 [qv0 x0] (tI_RatOk x0) :=fitK (by kernel_rfl)
def tI_RatSign (x0:qy0):T :=
 .qc3 53 [qv0 x0] fun y1 =>
 .bn y1 (.ret [.int .i64 0]) <|
 .qc6 111 [qv1 (x0.1,x0.2.1,())] fun y2 =>
 .ret [.int .i64 y2]
theorem fI_RatSign x0:qft qa0 54 [qv0 x0] (tI_RatSign x0) :=fitK (by kernel_rfl)
def tI_ratsOk (x0:qy0) (x1:qy0):T :=
 .qc3 53 [qv0 x0] fun y1 =>
 .br y1 (
  .qc3 53 [qv0 x1] fun y2 =>
  .ret [.bool y2]) <|
 .rF
theorem fI_ratsOk x0 x1:qft qa0 55 [qv0 x0,qv0 x1] (tI_ratsOk x0 x1) :=fitK (by kernel_rfl)
def tI_intCmp (x0:qy1) (x1:qy1):T :=
 .rg <|
 .qc15 101 [qv1 x1] fun y1 =>
 .qc16 64 [qv1 x0,qv1 y1] fun y2 =>
 .qc6 111 [qv1 y2] fun y3 =>
 .ret [.int .i64 y3]
theorem fI_intCmp x0 x1:qft qa0 56 [qv1 x0,qv1 x1] (tI_intCmp x0 x1) :=fitK (by kernel_rfl)
def tI_Rat__num (x0:qy0) (x1:SlV):T :=
 .rg <|
 .qc22 65 [Sc.val .l x0.2.1,Sc.val .l x1] fun y1 =>
 .qc16 112 [.bool x0.1,Sc.val .l y1] fun y2 =>
 .ret [qv1 y2]
theorem fI_Rat__num x0 x1:qft qa0 57 [qv0 x0,Sc.val .l x1] (tI_Rat__num x0 x1) :=fitK (by kernel_rfl)
def tI_ratCopy (x0:qy0):T :=
 .rg <|
 .qc15 113 [qv1 (x0.1,x0.2.1,())] fun y1 =>
 .qc0 102 [Sc.val .l x0.2.2.1] fun y2 =>
 .ret [qv0 (y1.1,y1.2.1,y2,())]
theorem fI_ratCopy x0:qft qa0 58 [qv0 x0] (tI_ratCopy x0) :=fitK (by kernel_rfl)
def tI_RatZero :T :=
 .fz ((1:Nat)) [.int .i64 1] 3 fun b1 c1 =>
 .ret [qv0 ((false),nilS,(⟨(some { block:=b1,off:=(0:Nat):Addr }),((1:Nat)),(c1)⟩:SlV),())]
theorem fI_RatZero :qft qa0 59 [] (tI_RatZero ) :=fitK (by kernel_rfl)
def aI_Curs:An:=⟨[(3,[.s 1,.s 6],[.a 9,.o (.o (.i .i64))])],[],[]⟩
def tI_Curs :T :=
 .ql23 ({ block:=(0:Nat),off:=(0:Nat):Addr }) fun y1 =>
 .lp [.a 9,.o (.o (.i .i64))] [.a 9 ((0:Nat)) [],.v (.int .i64 0)] fun y2 =>
 .br (decide (y2.2.1<(20:Int))) (
  .rq ((0:Int)≤y2.2.1∧y2.2.1<(↑(20:Nat):Int)) <|
 .xs [.string y1.1,.string y1.2.1,.int .i64 y1.2.2.1,.int .i64 y1.2.2.2.1,.string y1.2.2.2.2.1,.string y1.2.2.2.2.2.1,.int .i64 y1.2.2.2.2.2.2.1,.int .i64 y1.2.2.2.2.2.2.2.1,.string y1.2.2.2.2.2.2.2.2.1,.string y1.2.2.2.2.2.2.2.2.2.1,.int .i64 y1.2.2.2.2.2.2.2.2.2.2.1,.int .i64 y1.2.2.2.2.2.2.2.2.2.2.2.1,.string y1.2.2.2.2.2.2.2.2.2.2.2.2.1,.string y1.2.2.2.2.2.2.2.2.2.2.2.2.2.1,.int .i64 y1.2.2.2.2.2.2.2.2.2.2.2.2.2.2.1,.int .i64 y1.2.2.2.2.2.2.2.2.2.2.2.2.2.2.2.1,.string y1.2.2.2.2.2.2.2.2.2.2.2.2.2.2.2.2.1,.string y1.2.2.2.2.2.2.2.2.2.2.2.2.2.2.2.2.2.1,.int .i64 y1.2.2.2.2.2.2.2.2.2.2.2.2.2.2.2.2.2.2.1,.int .i64 y1.2.2.2.2.2.2.2.2.2.2.2.2.2.2.2.2.2.2.2.1,.string y1.2.2.2.2.2.2.2.2.2.2.2.2.2.2.2.2.2.2.2.2.1,.string y1.2.2.2.2.2.2.2.2.2.2.2.2.2.2.2.2.2.2.2.2.2.1,.int .i64 y1.2.2.2.2.2.2.2.2.2.2.2.2.2.2.2.2.2.2.2.2.2.2.1,.int .i64 y1.2.2.2.2.2.2.2.2.2.2.2.2.2.2.2.2.2.2.2.2.2.2.2.1,.string y1.2.2.2.2.2.2.2.2.2.2.2.2.2.2.2.2.2.2.2.2.2.2.2.2.1,.string y1.2.2.2.2.2.2.2.2.2.2.2.2.2.2.2.2.2.2.2.2.2.2.2.2.2.1,.int .i64 y1.2.2.2.2.2.2.2.2.2.2.2.2.2.2.2.2.2.2.2.2.2.2.2.2.2.2.1,.int .i64 y1.2.2.2.2.2.2.2.2.2.2.2.2.2.2.2.2.2.2.2.2.2.2.2.2.2.2.2.1,.string y1.2.2.2.2.2.2.2.2.2.2.2.2.2.2.2.2.2.2.2.2.2.2.2.2.2.2.2.2.1,.string y1.2.2.2.2.2.2.2.2.2.2.2.2.2.2.2.2.2.2.2.2.2.2.2.2.2.2.2.2.2.1,.int .i64 y1.2.2.2.2.2.2.2.2.2.2.2.2.2.2.2.2.2.2.2.2.2.2.2.2.2.2.2.2.2.2.1,.int .i64 y1.2.2.2.2.2.2.2.2.2.2.2.2.2.2.2.2.2.2.2.2.2.2.2.2.2.2.2.2.2.2.2.1,.string y1.2.2.2.2.2.2.2.2.2.2.2.2.2.2.2.2.2.2.2.2.2.2.2.2.2.2.2.2.2.2.2.2.1,.string y1.2.2.2.2.2.2.2.2.2.2.2.2.2.2.2.2.2.2.2.2.2.2.2.2.2.2.2.2.2.2.2.2.2.1,.int .i64 y1.2.2.2.2.2.2.2.2.2.2.2.2.2.2.2.2.2.2.2.2.2.2.2.2.2.2.2.2.2.2.2.2.2.2.1,.int .i64 y1.2.2.2.2.2.2.2.2.2.2.2.2.2.2.2.2.2.2.2.2.2.2.2.2.2.2.2.2.2.2.2.2.2.2.2.1,.string y1.2.2.2.2.2.2.2.2.2.2.2.2.2.2.2.2.2.2.2.2.2.2.2.2.2.2.2.2.2.2.2.2.2.2.2.2.1,.string y1.2.2.2.2.2.2.2.2.2.2.2.2.2.2.2.2.2.2.2.2.2.2.2.2.2.2.2.2.2.2.2.2.2.2.2.2.2.1,.int .i64 y1.2.2.2.2.2.2.2.2.2.2.2.2.2.2.2.2.2.2.2.2.2.2.2.2.2.2.2.2.2.2.2.2.2.2.2.2.2.2.1,.int .i64 y1.2.2.2.2.2.2.2.2.2.2.2.2.2.2.2.2.2.2.2.2.2.2.2.2.2.2.2.2.2.2.2.2.2.2.2.2.2.2.2.1,.string y1.2.2.2.2.2.2.2.2.2.2.2.2.2.2.2.2.2.2.2.2.2.2.2.2.2.2.2.2.2.2.2.2.2.2.2.2.2.2.2.2.1,.string y1.2.2.2.2.2.2.2.2.2.2.2.2.2.2.2.2.2.2.2.2.2.2.2.2.2.2.2.2.2.2.2.2.2.2.2.2.2.2.2.2.2.1,.int .i64 y1.2.2.2.2.2.2.2.2.2.2.2.2.2.2.2.2.2.2.2.2.2.2.2.2.2.2.2.2.2.2.2.2.2.2.2.2.2.2.2.2.2.2.1,.int .i64 y1.2.2.2.2.2.2.2.2.2.2.2.2.2.2.2.2.2.2.2.2.2.2.2.2.2.2.2.2.2.2.2.2.2.2.2.2.2.2.2.2.2.2.2.1,.string y1.2.2.2.2.2.2.2.2.2.2.2.2.2.2.2.2.2.2.2.2.2.2.2.2.2.2.2.2.2.2.2.2.2.2.2.2.2.2.2.2.2.2.2.2.1,.string y1.2.2.2.2.2.2.2.2.2.2.2.2.2.2.2.2.2.2.2.2.2.2.2.2.2.2.2.2.2.2.2.2.2.2.2.2.2.2.2.2.2.2.2.2.2.1,.int .i64 y1.2.2.2.2.2.2.2.2.2.2.2.2.2.2.2.2.2.2.2.2.2.2.2.2.2.2.2.2.2.2.2.2.2.2.2.2.2.2.2.2.2.2.2.2.2.2.1,.int .i64 y1.2.2.2.2.2.2.2.2.2.2.2.2.2.2.2.2.2.2.2.2.2.2.2.2.2.2.2.2.2.2.2.2.2.2.2.2.2.2.2.2.2.2.2.2.2.2.2.1,.string y1.2.2.2.2.2.2.2.2.2.2.2.2.2.2.2.2.2.2.2.2.2.2.2.2.2.2.2.2.2.2.2.2.2.2.2.2.2.2.2.2.2.2.2.2.2.2.2.2.1,.string y1.2.2.2.2.2.2.2.2.2.2.2.2.2.2.2.2.2.2.2.2.2.2.2.2.2.2.2.2.2.2.2.2.2.2.2.2.2.2.2.2.2.2.2.2.2.2.2.2.2.1,.int .i64 y1.2.2.2.2.2.2.2.2.2.2.2.2.2.2.2.2.2.2.2.2.2.2.2.2.2.2.2.2.2.2.2.2.2.2.2.2.2.2.2.2.2.2.2.2.2.2.2.2.2.2.1,.int .i64 y1.2.2.2.2.2.2.2.2.2.2.2.2.2.2.2.2.2.2.2.2.2.2.2.2.2.2.2.2.2.2.2.2.2.2.2.2.2.2.2.2.2.2.2.2.2.2.2.2.2.2.2.1,.string y1.2.2.2.2.2.2.2.2.2.2.2.2.2.2.2.2.2.2.2.2.2.2.2.2.2.2.2.2.2.2.2.2.2.2.2.2.2.2.2.2.2.2.2.2.2.2.2.2.2.2.2.2.1,.string y1.2.2.2.2.2.2.2.2.2.2.2.2.2.2.2.2.2.2.2.2.2.2.2.2.2.2.2.2.2.2.2.2.2.2.2.2.2.2.2.2.2.2.2.2.2.2.2.2.2.2.2.2.2.1,.int .i64 y1.2.2.2.2.2.2.2.2.2.2.2.2.2.2.2.2.2.2.2.2.2.2.2.2.2.2.2.2.2.2.2.2.2.2.2.2.2.2.2.2.2.2.2.2.2.2.2.2.2.2.2.2.2.2.1,.int .i64 y1.2.2.2.2.2.2.2.2.2.2.2.2.2.2.2.2.2.2.2.2.2.2.2.2.2.2.2.2.2.2.2.2.2.2.2.2.2.2.2.2.2.2.2.2.2.2.2.2.2.2.2.2.2.2.2.1,.string y1.2.2.2.2.2.2.2.2.2.2.2.2.2.2.2.2.2.2.2.2.2.2.2.2.2.2.2.2.2.2.2.2.2.2.2.2.2.2.2.2.2.2.2.2.2.2.2.2.2.2.2.2.2.2.2.2.1,.string y1.2.2.2.2.2.2.2.2.2.2.2.2.2.2.2.2.2.2.2.2.2.2.2.2.2.2.2.2.2.2.2.2.2.2.2.2.2.2.2.2.2.2.2.2.2.2.2.2.2.2.2.2.2.2.2.2.2.1,.int .i64 y1.2.2.2.2.2.2.2.2.2.2.2.2.2.2.2.2.2.2.2.2.2.2.2.2.2.2.2.2.2.2.2.2.2.2.2.2.2.2.2.2.2.2.2.2.2.2.2.2.2.2.2.2.2.2.2.2.2.2.1,.int .i64 y1.2.2.2.2.2.2.2.2.2.2.2.2.2.2.2.2.2.2.2.2.2.2.2.2.2.2.2.2.2.2.2.2.2.2.2.2.2.2.2.2.2.2.2.2.2.2.2.2.2.2.2.2.2.2.2.2.2.2.2.1,.string y1.2.2.2.2.2.2.2.2.2.2.2.2.2.2.2.2.2.2.2.2.2.2.2.2.2.2.2.2.2.2.2.2.2.2.2.2.2.2.2.2.2.2.2.2.2.2.2.2.2.2.2.2.2.2.2.2.2.2.2.2.1,.string y1.2.2.2.2.2.2.2.2.2.2.2.2.2.2.2.2.2.2.2.2.2.2.2.2.2.2.2.2.2.2.2.2.2.2.2.2.2.2.2.2.2.2.2.2.2.2.2.2.2.2.2.2.2.2.2.2.2.2.2.2.2.1,.int .i64 y1.2.2.2.2.2.2.2.2.2.2.2.2.2.2.2.2.2.2.2.2.2.2.2.2.2.2.2.2.2.2.2.2.2.2.2.2.2.2.2.2.2.2.2.2.2.2.2.2.2.2.2.2.2.2.2.2.2.2.2.2.2.2.1,.int .i64 y1.2.2.2.2.2.2.2.2.2.2.2.2.2.2.2.2.2.2.2.2.2.2.2.2.2.2.2.2.2.2.2.2.2.2.2.2.2.2.2.2.2.2.2.2.2.2.2.2.2.2.2.2.2.2.2.2.2.2.2.2.2.2.2.1,.string y1.2.2.2.2.2.2.2.2.2.2.2.2.2.2.2.2.2.2.2.2.2.2.2.2.2.2.2.2.2.2.2.2.2.2.2.2.2.2.2.2.2.2.2.2.2.2.2.2.2.2.2.2.2.2.2.2.2.2.2.2.2.2.2.2.1,.string y1.2.2.2.2.2.2.2.2.2.2.2.2.2.2.2.2.2.2.2.2.2.2.2.2.2.2.2.2.2.2.2.2.2.2.2.2.2.2.2.2.2.2.2.2.2.2.2.2.2.2.2.2.2.2.2.2.2.2.2.2.2.2.2.2.2.1,.int .i64 y1.2.2.2.2.2.2.2.2.2.2.2.2.2.2.2.2.2.2.2.2.2.2.2.2.2.2.2.2.2.2.2.2.2.2.2.2.2.2.2.2.2.2.2.2.2.2.2.2.2.2.2.2.2.2.2.2.2.2.2.2.2.2.2.2.2.2.1,.int .i64 y1.2.2.2.2.2.2.2.2.2.2.2.2.2.2.2.2.2.2.2.2.2.2.2.2.2.2.2.2.2.2.2.2.2.2.2.2.2.2.2.2.2.2.2.2.2.2.2.2.2.2.2.2.2.2.2.2.2.2.2.2.2.2.2.2.2.2.2.1,.string y1.2.2.2.2.2.2.2.2.2.2.2.2.2.2.2.2.2.2.2.2.2.2.2.2.2.2.2.2.2.2.2.2.2.2.2.2.2.2.2.2.2.2.2.2.2.2.2.2.2.2.2.2.2.2.2.2.2.2.2.2.2.2.2.2.2.2.2.2.1,.string y1.2.2.2.2.2.2.2.2.2.2.2.2.2.2.2.2.2.2.2.2.2.2.2.2.2.2.2.2.2.2.2.2.2.2.2.2.2.2.2.2.2.2.2.2.2.2.2.2.2.2.2.2.2.2.2.2.2.2.2.2.2.2.2.2.2.2.2.2.2.1,.int .i64 y1.2.2.2.2.2.2.2.2.2.2.2.2.2.2.2.2.2.2.2.2.2.2.2.2.2.2.2.2.2.2.2.2.2.2.2.2.2.2.2.2.2.2.2.2.2.2.2.2.2.2.2.2.2.2.2.2.2.2.2.2.2.2.2.2.2.2.2.2.2.2.1,.int .i64 y1.2.2.2.2.2.2.2.2.2.2.2.2.2.2.2.2.2.2.2.2.2.2.2.2.2.2.2.2.2.2.2.2.2.2.2.2.2.2.2.2.2.2.2.2.2.2.2.2.2.2.2.2.2.2.2.2.2.2.2.2.2.2.2.2.2.2.2.2.2.2.2.1,.string y1.2.2.2.2.2.2.2.2.2.2.2.2.2.2.2.2.2.2.2.2.2.2.2.2.2.2.2.2.2.2.2.2.2.2.2.2.2.2.2.2.2.2.2.2.2.2.2.2.2.2.2.2.2.2.2.2.2.2.2.2.2.2.2.2.2.2.2.2.2.2.2.2.1,.string y1.2.2.2.2.2.2.2.2.2.2.2.2.2.2.2.2.2.2.2.2.2.2.2.2.2.2.2.2.2.2.2.2.2.2.2.2.2.2.2.2.2.2.2.2.2.2.2.2.2.2.2.2.2.2.2.2.2.2.2.2.2.2.2.2.2.2.2.2.2.2.2.2.2.1,.int .i64 y1.2.2.2.2.2.2.2.2.2.2.2.2.2.2.2.2.2.2.2.2.2.2.2.2.2.2.2.2.2.2.2.2.2.2.2.2.2.2.2.2.2.2.2.2.2.2.2.2.2.2.2.2.2.2.2.2.2.2.2.2.2.2.2.2.2.2.2.2.2.2.2.2.2.2.1,.int .i64 y1.2.2.2.2.2.2.2.2.2.2.2.2.2.2.2.2.2.2.2.2.2.2.2.2.2.2.2.2.2.2.2.2.2.2.2.2.2.2.2.2.2.2.2.2.2.2.2.2.2.2.2.2.2.2.2.2.2.2.2.2.2.2.2.2.2.2.2.2.2.2.2.2.2.2.2.1,.string y1.2.2.2.2.2.2.2.2.2.2.2.2.2.2.2.2.2.2.2.2.2.2.2.2.2.2.2.2.2.2.2.2.2.2.2.2.2.2.2.2.2.2.2.2.2.2.2.2.2.2.2.2.2.2.2.2.2.2.2.2.2.2.2.2.2.2.2.2.2.2.2.2.2.2.2.2.1,.string y1.2.2.2.2.2.2.2.2.2.2.2.2.2.2.2.2.2.2.2.2.2.2.2.2.2.2.2.2.2.2.2.2.2.2.2.2.2.2.2.2.2.2.2.2.2.2.2.2.2.2.2.2.2.2.2.2.2.2.2.2.2.2.2.2.2.2.2.2.2.2.2.2.2.2.2.2.2.1,.int .i64 y1.2.2.2.2.2.2.2.2.2.2.2.2.2.2.2.2.2.2.2.2.2.2.2.2.2.2.2.2.2.2.2.2.2.2.2.2.2.2.2.2.2.2.2.2.2.2.2.2.2.2.2.2.2.2.2.2.2.2.2.2.2.2.2.2.2.2.2.2.2.2.2.2.2.2.2.2.2.2.1,.int .i64 y1.2.2.2.2.2.2.2.2.2.2.2.2.2.2.2.2.2.2.2.2.2.2.2.2.2.2.2.2.2.2.2.2.2.2.2.2.2.2.2.2.2.2.2.2.2.2.2.2.2.2.2.2.2.2.2.2.2.2.2.2.2.2.2.2.2.2.2.2.2.2.2.2.2.2.2.2.2.2.2.1] (Int.toNat y2.2.1*(4:Nat)) (.g [.s,.s,.i .i64,.i .i64]) fun y3 =>
  .rq ([Value.string y3.1].length=(1:Nat)*(1:Nat)) <|
 .rq (one [Value.string y3.1]=true∧(y2.1.1+(1:Nat))*(16:Nat)≤(140737488355328:Nat)∧y2.1.1+(1:Nat)≤(9223372036854775807:Nat)) <|
 .nx 0 [.a 9 (y2.1.1+(1:Nat)) (y2.1.2++[Value.string y3.1]),.v (.int .i64 (IntKind.i64.wrap (y2.2.1+(1:Int))))]) <|
 .fz y2.1.1 y2.1.2 9 fun b3 c3 =>
 .qc24 114 [.slice (some { block:=b3,off:=(0:Nat):Addr }) y2.1.1 (c3)] fun _ =>
 .ret [.slice (some { block:=b3,off:=(0:Nat):Addr }) y2.1.1 (c3)]
theorem fI_Curs :qft aI_Curs 60 [] (tI_Curs ) :=fitK (by kernel_rfl)
def tI_RatMake (x0:qy1) (x1:qy1):T :=
 .qc3 115 [qv1 x0,qv1 x1] fun y1 =>
 .bn y1 (.ret [qv0 ((false),nilS,nilS,()),.bool (false)]) <|
 .br ((↑x1.2.1.n:Int) == (0:Int)) (
  .ret [qv0 ((false),nilS,nilS,()),.bool (false)]) <|
 .rg <|
 .qc15 112 [.bool (!x0.1 == x1.1),Sc.val .l x0.2.1] fun y2 =>
 .qc8 63 [qv1 y2,Sc.val .l x1.2.1] fun y3 =>
 .ret [qv0 y3.1,.bool y3.2.1]
theorem fI_RatMake x0 x1:qft qa0 61 [qv1 x0,qv1 x1] (tI_RatMake x0 x1) :=fitK (by kernel_rfl)
def tI_IntOf (x0:Int):T :=
 .br (decide (x0<(0:Int))) (
  .qc0 116 [.int .u64 (IntKind.u64.wrap ((0:Int)-IntKind.u64.wrap x0))] fun y1 =>
  .ret [qv1 ((true),y1,())]) <|
 .qc0 116 [.int .u64 (IntKind.u64.wrap x0)] fun y1 =>
 .ret [qv1 ((false),y1,())]
theorem fI_IntOf x0:qft qa0 62 [.int .i64 x0] (tI_IntOf x0) :=fitK (by kernel_rfl)
def tI_reduce (x0:qy1) (x1:SlV):T :=
 .qc0 110 [Sc.val .l x0.2.1,Sc.val .l x1] fun y1 =>
 .qc25 117 [Sc.val .l x0.2.1,Sc.val .l y1] fun y2 =>
 .qc25 117 [Sc.val .l x1,Sc.val .l y1] fun y3 =>
 .br (decide ((↑y2.1.n:Int) > (18:Int))) (
  .ret [qv0 ((false),nilS,nilS,()),.bool (false)]) <|
 .br (decide ((↑y3.1.n:Int) > (18:Int))) (
  .ret [qv0 ((false),nilS,nilS,()),.bool (false)]) <|
 .qc16 112 [.bool x0.1,Sc.val .l y2.1] fun y4 =>
 .ret [qv0 (y4.1,y4.2.1,y3.1,()),.bool (true)]
theorem fI_reduce x0 x1:qft qa0 63 [qv1 x0,Sc.val .l x1] (tI_reduce x0 x1) :=fitK (by kernel_rfl)
def tI_intAdd (x0:qy1) (x1:qy1):T :=
 .br (x0.1 == x1.1) (
  .rg <|
 .qc22 118 [Sc.val .l x0.2.1,Sc.val .l x1.2.1] fun y1 =>
  .qc16 112 [.bool x0.1,Sc.val .l y1] fun y2 =>
  .ret [qv1 y2]) <|
 .qc6 119 [Sc.val .l x0.2.1,Sc.val .l x1.2.1] fun y1 =>
 .br (decide (y1<(0:Int))) (
  .rg <|
 .qc22 120 [Sc.val .l x1.2.1,Sc.val .l x0.2.1] fun y2 =>
  .qc16 112 [.bool x1.1,Sc.val .l y2] fun y3 =>
  .ret [qv1 y3]) <|
 .rg <|
 .qc22 120 [Sc.val .l x0.2.1,Sc.val .l x1.2.1] fun y2 =>
 .qc16 112 [.bool x0.1,Sc.val .l y2] fun y3 =>
 .ret [qv1 y3]
theorem fI_intAdd x0 x1:qft qa0 64 [qv1 x0,qv1 x1] (tI_intAdd x0 x1) :=fitK (by kernel_rfl)
def aI_natMul:An:=⟨[(3,[.s 5,.s 21],[.a 3,.o (.o (.i .i64))]),(7,[.s 5,.s 8,.s 28],[.a 3,.o (.o (.i .i64)),.o (.o (.i .i64))]),(14,[.s 5,.s 8,.s 11],[.a 3,.o (.o (.i .i64)),.o (.o (.i .i64))])],[],[]⟩
def tI_natMul (x0:SlV) (x1:SlV):T :=
 .rq ((0:Int)≤IntKind.i64.wrap (IntKind.i64.wrap ((↑x0.n:Int)+(↑x1.n:Int))+(1:Int))∧IntKind.i64.wrap (IntKind.i64.wrap ((↑x0.n:Int)+(↑x1.n:Int))+(1:Int))≤IntKind.i64.wrap (IntKind.i64.wrap ((↑x0.n:Int)+(↑x1.n:Int))+(1:Int))∧(↑(8:Nat):Int)*IntKind.i64.wrap (IntKind.i64.wrap ((↑x0.n:Int)+(↑x1.n:Int))+(1:Int))≤(281474976710656:Int)∧IntKind.i64.wrap (IntKind.i64.wrap ((↑x0.n:Int)+(↑x1.n:Int))+(1:Int))≤(9223372036854775807:Int)) <|
 .lp [.a 3,.o (.o (.i .i64))] [.a 3 ((IntKind.i64.wrap (IntKind.i64.wrap ((↑x0.n:Int)+(↑x1.n:Int))+(1:Int))).toNat) ((madeCells { toList:=[Value.int IntKind.i64 (0:Int)]:Array Value } ((IntKind.i64.wrap (IntKind.i64.wrap ((↑x0.n:Int)+(↑x1.n:Int))+(1:Int))).toNat*(1:Nat))).toList),.v (.int .i64 0)] fun y1 =>
 .br (decide (y1.2.1<(↑x0.n:Int))) (
  .el x0.1 (x0.n) y1.2.1 fun y2 =>
  .ql21 (y2.add (Int.toNat y1.2.1*(1:Nat))) fun y3 =>
  .lp [.a 3,.o (.o (.i .i64)),.o (.o (.i .i64))] [.a 3 y1.1.1 y1.1.2,.v (.int .i64 0),.v (.int .i64 0)] fun y4 =>
  .br (decide (y4.2.2.1<(↑x1.n:Int))) (
   .el x1.1 (x1.n) y4.2.2.1 fun y5 =>
   .ql21 (y5.add (Int.toNat y4.2.2.1*(1:Nat))) fun y6 =>
   .rq ((0:Int)≤IntKind.i64.wrap (y1.2.1+y4.2.2.1)∧IntKind.i64.wrap (y1.2.1+y4.2.2.1)<(↑y4.1.1:Int)) <|
 .xs y4.1.2 ((IntKind.i64.wrap (y1.2.1+y4.2.2.1)).toNat*(1:Nat)) (.o (.i .i64)) fun y7 =>
   .rq ((1000000000:Int)≠(0:Int)) <|
 .rq ((0:Int)≤IntKind.i64.wrap (y1.2.1+y4.2.2.1)∧IntKind.i64.wrap (y1.2.1+y4.2.2.1)<(↑y4.1.1:Int)) <|
 .rq ((IntKind.i64.wrap (y1.2.1+y4.2.2.1)).toNat*(1:Nat)+[Value.int IntKind.i64 ((IntKind.i64.wrap (y4.2.1+IntKind.i64.wrap (y7+IntKind.i64.wrap (y3*y6)))).tmod (1000000000:Int))].length≤y4.1.2.length) <|
 .rq ((1000000000:Int)≠(0:Int)) <|
 .nx 1 [.a 3 y4.1.1 (setl y4.1.2 ((IntKind.i64.wrap (y1.2.1+y4.2.2.1)).toNat*(1:Nat)) [Value.int IntKind.i64 ((IntKind.i64.wrap (y4.2.1+IntKind.i64.wrap (y7+IntKind.i64.wrap (y3*y6)))).tmod (1000000000:Int))]),.v (.int .i64 (IntKind.i64.wrap ((IntKind.i64.wrap (y4.2.1+IntKind.i64.wrap (y7+IntKind.i64.wrap (y3*y6)))).tdiv (1000000000:Int)))),.v (.int .i64 (IntKind.i64.wrap (y4.2.2.1+(1:Int))))]) <|
 .lp [.a 3,.o (.o (.i .i64)),.o (.o (.i .i64))] [.a 3 y4.1.1 y4.1.2,.v (.int .i64 y4.2.1),.v (.int .i64 (IntKind.i64.wrap (y1.2.1+(↑x1.n:Int))))] fun y5 =>
  .br (decide (y5.2.1 > (0:Int))) (
   .rq ((0:Int)≤y5.2.2.1∧y5.2.2.1<(↑y5.1.1:Int)) <|
 .xs y5.1.2 (Int.toNat y5.2.2.1*(1:Nat)) (.o (.i .i64)) fun y6 =>
   .rq ((1000000000:Int)≠(0:Int)) <|
 .rq ((0:Int)≤y5.2.2.1∧y5.2.2.1<(↑y5.1.1:Int)) <|
 .rq (Int.toNat y5.2.2.1*(1:Nat)+[Value.int IntKind.i64 ((IntKind.i64.wrap (y5.2.1+y6)).tmod (1000000000:Int))].length≤y5.1.2.length) <|
 .rq ((1000000000:Int)≠(0:Int)) <|
 .nx 2 [.a 3 y5.1.1 (setl y5.1.2 (Int.toNat y5.2.2.1*(1:Nat)) [Value.int IntKind.i64 ((IntKind.i64.wrap (y5.2.1+y6)).tmod (1000000000:Int))]),.v (.int .i64 (IntKind.i64.wrap ((IntKind.i64.wrap (y5.2.1+y6)).tdiv (1000000000:Int)))),.v (.int .i64 (IntKind.i64.wrap (y5.2.2.1+(1:Int))))]) <|
 .nx 0 [.a 3 y5.1.1 y5.1.2,.v (.int .i64 (IntKind.i64.wrap (y1.2.1+(1:Int))))]) <|
 .fz y1.1.1 y1.1.2 3 fun b2 c2 =>
 .qc0 121 [.slice (some { block:=b2,off:=(0:Nat):Addr }) y1.1.1 (c2)] fun y3 =>
 .ret [Sc.val .l y3]
theorem fI_natMul x0 x1:qft aI_natMul 65 [Sc.val .l x0,Sc.val .l x1] (tI_natMul x0 x1) :=fitK (by kernel_rfl)
def tS_CurKnown (x0:ByteArray):T :=
 .qc26 155 [.string x0] fun y1 =>
 .ret [.bool (!ByteArray.toList y1.1 == { data:={ toList:=[]:Array UInt8 }:ByteArray }.toList)]
theorem fS_CurKnown x0:qft qa0 89 [.string x0] (tS_CurKnown x0) :=fitK (by kernel_rfl)
def tS_RatOk (x0:qy0):T :=
 .qc3 156 [qv1 (x0.1,x0.2.1,())] fun y1 =>
 .bF y1 <|
 .qc3 157 [Sc.val .l x0.2.2.1] fun y2 =>
 .bF y2 <|
 .br ((↑x0.2.2.1.n:Int) == (0:Int)) (
  .rF) <|
 .br (decide ((↑x0.2.2.1.n:Int) > (18:Int))) (
  .rF) <|
 .br (decide ((↑x0.2.1.n:Int) > (18:Int))) (
  .rF) <|
 .qc0 158 [Sc.val .l x0.2.1,Sc.val .l x0.2.2.1] fun y3 =>
 .fz ((1:Nat)) [.int .i64 1] 3 fun b4 c4 =>
 .qc6 152 [Sc.val .l y3,.slice (some { block:=b4,off:=(0:Nat):Addr }) ((1:Nat)) (c4)] fun y5 =>
 .ret [.bool (y5 == (0:Int))]
theorem fS_RatOk x0:qft qa0 90 [qv0 x0] (tS_RatOk x0) :=fitK (by kernel_rfl)
def tS_RatSign (x0:qy0):T :=
 .rg <|
 .qc5 160 [] fun y1 =>
 .qc6 159 [qv0 x0,qv0 y1] fun y2 =>
 .ret [.int .i64 y2]
theorem fS_RatSign x0:qft qa0 91 [qv0 x0] (tS_RatSign x0) :=fitK (by kernel_rfl)
def tI_TextRat (x0:ByteArray):T :=
 .qc0 129 [.string x0,.string ({ data:={ toList:=[(47:UInt8)]:Array UInt8 }:ByteArray })] fun y1 =>
 .fz ((1:Nat)) [.int .i64 1] 3 fun b2 c2 =>
 .el y1.1 (y1.n) ((0:Int)) fun y3 =>
 .ql9 (y3.add (Int.toNat (0:Int)*(1:Nat))) fun y4 =>
 .qc27 165 [.string y4] fun y5 =>
 .bn y5.2.1 (.ret [qv0 ((false),nilS,nilS,()),.bool (false)]) <|
 .br (decide ((↑y1.n:Int) > (2:Int))) (
  .ret [qv0 ((false),nilS,nilS,()),.bool (false)]) <|
 .br ((↑y1.n:Int) == (2:Int)) (
  .el y1.1 (y1.n) ((1:Int)) fun y6 =>
  .ql9 (y6.add (Int.toNat (1:Int)*(1:Nat))) fun y7 =>
  .qc1 166 [.string y7] fun y8 =>
  .bn y8.2.1 (.ret [qv0 ((false),nilS,nilS,()),.bool (false)]) <|
 .qc3 167 [Sc.val .l y8.1] fun y9 =>
  .br y9 (
   .ret [qv0 ((false),nilS,nilS,()),.bool (false)]) <|
 .qc3 53 [qv0 (y5.1.1,y5.1.2.1,y8.1,())] fun y10 =>
  .bn y10 (.ret [qv0 ((false),nilS,nilS,()),.bool (false)]) <|
 .ret [qv0 (y5.1.1,y5.1.2.1,y8.1,()),.bool (true)]) <|
 .qc3 53 [qv0 (y5.1.1,y5.1.2.1,(⟨(some { block:=b2,off:=(0:Nat):Addr }),((1:Nat)),(c2)⟩:SlV),())] fun y6 =>
 .bn y6 (.ret [qv0 ((false),nilS,nilS,()),.bool (false)]) <|
 .ret [qv0 (y5.1.1,y5.1.2.1,(⟨(some { block:=b2,off:=(0:Nat):Addr }),((1:Nat)),(c2)⟩:SlV),()),.bool (true)]
theorem fI_TextRat x0:qft qa0 95 [.string x0] (tI_TextRat x0) :=fitK (by kernel_rfl)
def tS_l01Below (x0:Addr) (x1:Int):T :=
 .br (decide (x1≤(0:Int))) (
  .ret [.int .i64 0]) <|
 .br (decide (x1≤(256:Int))) (
  .qc6 170 [.pointer (some x0)] fun y1 =>
  .rq (x1≠(0:Int)) <|
 .ret [.int .i64 (y1.tmod x1)]) <|
 .qc6 170 [.pointer (some x0)] fun y1 =>
 .qc6 170 [.pointer (some x0)] fun y2 =>
 .qc6 170 [.pointer (some x0)] fun y3 =>
 .qc6 170 [.pointer (some x0)] fun y4 =>
 .rq (x1≠(0:Int)) <|
 .ret [.int .i64 ((IntKind.i64.wrap (IntKind.i64.wrap (IntKind.i64.wrap (IntKind.i64.wrap (y1*(16777216:Int))+IntKind.i64.wrap (y2*(65536:Int)))+IntKind.i64.wrap (y3*(256:Int)))+y4)).tmod x1)]
theorem fS_l01Below x0 x1:qft qa0 97 [.pointer (some x0),.int .i64 x1] (tS_l01Below x0 x1) :=fitK (by kernel_rfl)
def aS_RestAdd:An:=⟨[(7,[.s 10,.s 11,.s 38],[.o (.o (.l)),.o (.o (.b)),.o (.o (.i .i64))])],[(13,[.s 10,.s 11],[.o (.o (.l)),.o (.o (.b))]),(17,[.s 10],[.o (.o (.l))])],[]⟩
def tS_RestAdd (x0:SlV) (x1:ByteArray) (x2:qy0):T :=
 .rg <|
 .qc5 172 [Sc.val .l x0,.string x1] fun y1 =>
 .qc8 171 [qv0 y1,qv0 x2] fun y2 =>
 .qc3 35 [Sc.val .l x0] fun y3 =>
 .bn y3 (.ret [.slice none 0 0,.bool (false)]) <|
 .qc3 89 [.string x1] fun y4 =>
 .bn y4 (.ret [.slice none 0 0,.bool (false)]) <|
 .bn y2.2.1 (.ret [.slice none 0 0,.bool (false)]) <|
 .qc0 173 [Sc.val .l x0] fun y5 =>
 .fz ((0:Nat)) [] 40 fun b6 c6 =>
 .lp [.o (.o (.l)),.o (.o (.b)),.o (.o (.i .i64))] [.v (.slice (some { block:=b6,off:=(0:Nat):Addr }) ((0:Nat)) (c6)),.v (.bool (false)),.v (.int .i64 0)] fun y7 =>
 .br (decide (y7.2.2.1<(↑y5.n:Int))) (
  .el y5.1 (y5.n) y7.2.2.1 fun y8 =>
  .ql4 (y8.add (Int.toNat y7.2.2.1*(4:Nat))) fun y9 =>
  .br (ByteArray.toList y9.1 == x1.toList) (
   .nx 0 [.v (Sc.val .l y7.1),.v (.bool y7.2.1),.v (.int .i64 (IntKind.i64.wrap (y7.2.2.1+(1:Int))))]) <|
 .jn [.o (.o (.l)),.o (.o (.b))] (fun y10 =>
   .rq ([Value.string y9.1,Value.bool y9.2.1,Value.slice y9.2.2.1.1 y9.2.2.1.n y9.2.2.1.c,Value.slice y9.2.2.2.1.1 y9.2.2.2.1.n y9.2.2.2.1.c].length=(1:Nat)*(4:Nat)) <|
 .rq (one [Value.string y9.1,Value.bool y9.2.1,Value.slice y9.2.2.1.1 y9.2.2.1.n y9.2.2.1.c,Value.slice y9.2.2.2.1.1 y9.2.2.2.1.n y9.2.2.2.1.c]=true) <|
 .ap ({ a:=y10.1.1,n:=y10.1.n,c:=y10.1.c:SlV }) 4 72 [.string y9.1,.bool y9.2.1,Sc.val .l y9.2.2.1,Sc.val .l y9.2.2.2.1] ((1:Nat)) 40 fun y11 =>
   .nx 0 [.v (Sc.val .l y11),.v (.bool y10.2.1),.v (.int .i64 (IntKind.i64.wrap (y7.2.2.1+(1:Int))))]) <|
 .bn y7.2.1 (.br (!(Op.bytesLess (ByteArray.toList y9.1) x1.toList || ByteArray.toList y9.1 == x1.toList)) (
    .qc6 91 [qv0 y2.1] fun y10 =>
    .br (y10 != (0:Int)) (
     .rq ([Value.string x1,Value.bool y2.1.1,Value.slice y2.1.2.1.1 y2.1.2.1.n y2.1.2.1.c,Value.slice y2.1.2.2.1.1 y2.1.2.2.1.n y2.1.2.2.1.c].length=(1:Nat)*(4:Nat)) <|
 .rq (one [Value.string x1,Value.bool y2.1.1,Value.slice y2.1.2.1.1 y2.1.2.1.n y2.1.2.1.c,Value.slice y2.1.2.2.1.1 y2.1.2.2.1.n y2.1.2.2.1.c]=true) <|
 .ap ({ a:=y7.1.1,n:=y7.1.n,c:=y7.1.c:SlV }) 4 72 [.string x1,.bool y2.1.1,Sc.val .l y2.1.2.1,Sc.val .l y2.1.2.2.1] ((1:Nat)) 40 fun y11 =>
     .nx 1 [.v (Sc.val .l y11),.v (.bool (true))]) <|
 .nx 1 [.v (Sc.val .l y7.1),.v (.bool y7.2.1)]) <|
 .nx 1 [.v (Sc.val .l y7.1),.v (.bool y7.2.1)]) <|
 .nx 1 [.v (Sc.val .l y7.1),.v (.bool y7.2.1)]) <|
 .jn [.o (.o (.l))] (fun y8 =>
  .ret [Sc.val .l y8.1,.bool (true)]) <|
 .bn y7.2.1 (.qc6 91 [qv0 y2.1] fun y8 =>
  .br (y8 != (0:Int)) (
   .rq ([Value.string x1,Value.bool y2.1.1,Value.slice y2.1.2.1.1 y2.1.2.1.n y2.1.2.1.c,Value.slice y2.1.2.2.1.1 y2.1.2.2.1.n y2.1.2.2.1.c].length=(1:Nat)*(4:Nat)) <|
 .rq (one [Value.string x1,Value.bool y2.1.1,Value.slice y2.1.2.1.1 y2.1.2.1.n y2.1.2.1.c,Value.slice y2.1.2.2.1.1 y2.1.2.2.1.n y2.1.2.2.1.c]=true) <|
 .ap ({ a:=y7.1.1,n:=y7.1.n,c:=y7.1.c:SlV }) 4 72 [.string x1,.bool y2.1.1,Sc.val .l y2.1.2.1,Sc.val .l y2.1.2.2.1] ((1:Nat)) 40 fun y9 =>
   .nx 1 [.v (Sc.val .l y9)]) <|
 .nx 1 [.v (Sc.val .l y7.1)]) <|
 .nx 1 [.v (Sc.val .l y7.1)]
theorem fS_RestAdd x0 x1 x2:qft aS_RestAdd 98 [Sc.val .l x0,.string x1,qv0 x2] (tS_RestAdd x0 x1 x2) :=fitK (by kernel_rfl)
def tS_l08Cur (x0:Addr):T :=
 .fz ((7:Nat)) [.string ({ data:={ toList:=[(67:UInt8),(72:UInt8),(70:UInt8)]:Array UInt8 }:ByteArray }),.string ({ data:={ toList:=[(69:UInt8),(85:UInt8),(82:UInt8)]:Array UInt8 }:ByteArray }),.string ({ data:={ toList:=[(85:UInt8),(83:UInt8),(68:UInt8)]:Array UInt8 }:ByteArray }),.string ({ data:={ toList:=[(74:UInt8),(80:UInt8),(89:UInt8)]:Array UInt8 }:ByteArray }),.string ({ data:={ toList:=[(75:UInt8),(87:UInt8),(68:UInt8)]:Array UInt8 }:ByteArray }),.string ({ data:={ toList:=[(72:UInt8),(85:UInt8),(70:UInt8)]:Array UInt8 }:ByteArray }),.string ({ data:={ toList:=[(67:UInt8),(76:UInt8),(70:UInt8)]:Array UInt8 }:ByteArray })] 9 fun b1 c1 =>
 .qc2 174 [.pointer (some x0),.slice (some { block:=b1,off:=(0:Nat):Addr }) ((7:Nat)) (c1)] fun y2 =>
 .ret [.string y2]
theorem fS_l08Cur x0:qft qa0 99 [.pointer (some x0)] (tS_l08Cur x0) :=fitK (by kernel_rfl)
def tS_l05Draw (x0:Addr) (x1:Int):T :=
 .qc16 175 [.pointer (some x0),.int .i64 x1] fun y1 =>
 .qc6 97 [.pointer (some x0),.int .i64 12] fun y2 =>
 .qc0 176 [.int .i64 (IntKind.i64.wrap ((1:Int)+y2))] fun y3 =>
 .qc3 177 [.pointer (some x0),.int .i64 3] fun y4 =>
 .br y4 (
  .qc0 178 [.pointer (some x0),.int .i64 (IntKind.i64.wrap (x1-(1:Int)))] fun y5 =>
  .qc6 97 [.pointer (some x0),.int .i64 999] fun y6 =>
  .rq ([Value.int IntKind.i64 (IntKind.i64.wrap ((1:Int)+y6))].length=(1:Nat)*(1:Nat)) <|
 .rq (one [Value.int IntKind.i64 (IntKind.i64.wrap ((1:Int)+y6))]=true) <|
 .ap ({ a:=y5.1,n:=y5.n,c:=y5.c:SlV }) 1 8 [.int .i64 (IntKind.i64.wrap ((1:Int)+y6))] ((1:Nat)) 3 fun y7 =>
  .qc8 179 [qv1 y1,qv1 ((false),y7,())] fun y8 =>
  .bn y8.2.1 (.qc7 160 [] fun y9 =>
   .ret [qv0 y9]) <|
 .ret [qv0 y8.1]) <|
 .qc8 179 [qv1 y1,qv1 ((false),y3,())] fun y5 =>
 .bn y5.2.1 (.qc7 160 [] fun y6 =>
  .ret [qv0 y6]) <|
 .ret [qv0 y5.1]
theorem fS_l05Draw x0 x1:qft qa0 100 [.pointer (some x0),.int .i64 x1] (tS_l05Draw x0 x1) :=fitK (by kernel_rfl)
def tI_intNeg (x0:qy1):T :=
 .rg <|
 .qc22 102 [Sc.val .l x0.2.1] fun y1 =>
 .qc16 112 [.bool (!x0.1),Sc.val .l y1] fun y2 =>
 .ret [qv1 y2]
theorem fI_intNeg x0:qft qa0 101 [qv1 x0] (tI_intNeg x0) :=fitK (by kernel_rfl)
def tI_natCopy (x0:SlV):T :=
 .rd ({ a:=x0.1,n:=x0.n,c:=x0.c:SlV }) ((1:Nat)) fun y1 =>
 .rq (one y1=true∧((0:Nat)+x0.n)*(8:Nat)≤(140737488355328:Nat)∧(0:Nat)+x0.n≤(9223372036854775807:Nat)) <|
 .fz ((0:Nat)+x0.n) ([]++y1) 3 fun b2 c2 =>
 .ret [.slice (some { block:=b2,off:=(0:Nat):Addr }) ((0:Nat)+x0.n) (c2)]
theorem fI_natCopy x0:qft qa0 102 [Sc.val .l x0] (tI_natCopy x0) :=fitK (by kernel_rfl)
def tI_RatText (x0:qy0):T :=
 .qc3 53 [qv0 x0] fun y1 =>
 .bn y1 (.ret [.string ({ data:={ toList:=[]:Array UInt8 }:ByteArray })]) <|
 .qc3 167 [Sc.val .l x0.2.2.1] fun y2 =>
 .br y2 (
  .qc2 180 [qv1 (x0.1,x0.2.1,())] fun y3 =>
  .ret [.string y3]) <|
 .rg <|
 .qc19 180 [qv1 (x0.1,x0.2.1,())] fun y3 =>
 .rq (y3.size+{ data:={ toList:=[(47:UInt8)]:Array UInt8 }:ByteArray }.size≤(9223372036854775807:Nat)) <|
 .qc2 181 [Sc.val .l x0.2.2.1] fun y4 =>
 .rq ((y3++{ data:={ toList:=[(47:UInt8)]:Array UInt8 }:ByteArray }).size+y4.size≤(9223372036854775807:Nat)) <|
 .ret [.string (y3++{ data:={ toList:=[(47:UInt8)]:Array UInt8 }:ByteArray }++y4)]
theorem fI_RatText x0:qft qa0 103 [qv0 x0] (tI_RatText x0) :=fitK (by kernel_rfl)
def tI_intSame (x0:qy1) (x1:qy1):T :=
 .br (x0.1 == x1.1) (
  .qc3 106 [Sc.val .l x0.2.1,Sc.val .l x1.2.1] fun y1 =>
  .ret [.bool y1]) <|
 .rF
theorem fI_intSame x0 x1:qft qa0 105 [qv1 x0,qv1 x1] (tI_intSame x0 x1) :=fitK (by kernel_rfl)
def aI_sameInts:An:=⟨[(4,[.s 13],[.o (.o (.i .i64))])],[],[]⟩
def tI_sameInts (x0:SlV) (x1:SlV):T :=
 .br ((↑x0.n:Int) != (↑x1.n:Int)) (
  .rF) <|
 .lp [.o (.o (.i .i64))] [.v (.int .i64 0)] fun y1 =>
 .br (decide (y1.1<(↑x0.n:Int))) (
  .rg <|
 .el x0.1 (x0.n) y1.1 fun y2 =>
  .ql28 (y2.add (Int.toNat y1.1*(1:Nat))) fun y3 =>
  .el x1.1 (x1.n) y1.1 fun y4 =>
  .ql28 (y4.add (Int.toNat y1.1*(1:Nat))) fun y5 =>
  .br (y3 != y5) (
   .rF) <|
 .nx 0 [.v (.int .i64 (IntKind.i64.wrap (y1.1+(1:Int))))]) <|
 .rT
theorem fI_sameInts x0 x1:qft aI_sameInts 106 [Sc.val .l x0,Sc.val .l x1] (tI_sameInts x0 x1) :=fitK (by kernel_rfl)
def aI_currencyOf:An:=⟨[(2,[.s 7,.c 2 0,.c 2 1,.c 2 2,.c 2 3],[.o (.o (.i .i64)),.o (.o (.s)),.o (.o (.s)),.o (.o (.i .i64)),.o (.o (.i .i64))])],[],[]⟩
def tI_currencyOf (x0:ByteArray):T :=
 .ql23 ({ block:=(0:Nat),off:=(0:Nat):Addr }) fun y1 =>
 .lp [.o (.o (.i .i64)),.o (.o (.s)),.o (.o (.s)),.o (.o (.i .i64)),.o (.o (.i .i64))] [.v (.int .i64 0),.v (.string ({ data:={ toList:=[]:Array UInt8 }:ByteArray })),.v (.string ({ data:={ toList:=[]:Array UInt8 }:ByteArray })),.v (.int .i64 0),.v (.int .i64 0)] fun y2 =>
 .br (decide (y2.1<(20:Int))) (
  .rq ((0:Int)≤y2.1∧y2.1<(↑(20:Nat):Int)) <|
 .xs [.string y1.1,.string y1.2.1,.int .i64 y1.2.2.1,.int .i64 y1.2.2.2.1,.string y1.2.2.2.2.1,.string y1.2.2.2.2.2.1,.int .i64 y1.2.2.2.2.2.2.1,.int .i64 y1.2.2.2.2.2.2.2.1,.string y1.2.2.2.2.2.2.2.2.1,.string y1.2.2.2.2.2.2.2.2.2.1,.int .i64 y1.2.2.2.2.2.2.2.2.2.2.1,.int .i64 y1.2.2.2.2.2.2.2.2.2.2.2.1,.string y1.2.2.2.2.2.2.2.2.2.2.2.2.1,.string y1.2.2.2.2.2.2.2.2.2.2.2.2.2.1,.int .i64 y1.2.2.2.2.2.2.2.2.2.2.2.2.2.2.1,.int .i64 y1.2.2.2.2.2.2.2.2.2.2.2.2.2.2.2.1,.string y1.2.2.2.2.2.2.2.2.2.2.2.2.2.2.2.2.1,.string y1.2.2.2.2.2.2.2.2.2.2.2.2.2.2.2.2.2.1,.int .i64 y1.2.2.2.2.2.2.2.2.2.2.2.2.2.2.2.2.2.2.1,.int .i64 y1.2.2.2.2.2.2.2.2.2.2.2.2.2.2.2.2.2.2.2.1,.string y1.2.2.2.2.2.2.2.2.2.2.2.2.2.2.2.2.2.2.2.2.1,.string y1.2.2.2.2.2.2.2.2.2.2.2.2.2.2.2.2.2.2.2.2.2.1,.int .i64 y1.2.2.2.2.2.2.2.2.2.2.2.2.2.2.2.2.2.2.2.2.2.2.1,.int .i64 y1.2.2.2.2.2.2.2.2.2.2.2.2.2.2.2.2.2.2.2.2.2.2.2.1,.string y1.2.2.2.2.2.2.2.2.2.2.2.2.2.2.2.2.2.2.2.2.2.2.2.2.1,.string y1.2.2.2.2.2.2.2.2.2.2.2.2.2.2.2.2.2.2.2.2.2.2.2.2.2.1,.int .i64 y1.2.2.2.2.2.2.2.2.2.2.2.2.2.2.2.2.2.2.2.2.2.2.2.2.2.2.1,.int .i64 y1.2.2.2.2.2.2.2.2.2.2.2.2.2.2.2.2.2.2.2.2.2.2.2.2.2.2.2.1,.string y1.2.2.2.2.2.2.2.2.2.2.2.2.2.2.2.2.2.2.2.2.2.2.2.2.2.2.2.2.1,.string y1.2.2.2.2.2.2.2.2.2.2.2.2.2.2.2.2.2.2.2.2.2.2.2.2.2.2.2.2.2.1,.int .i64 y1.2.2.2.2.2.2.2.2.2.2.2.2.2.2.2.2.2.2.2.2.2.2.2.2.2.2.2.2.2.2.1,.int .i64 y1.2.2.2.2.2.2.2.2.2.2.2.2.2.2.2.2.2.2.2.2.2.2.2.2.2.2.2.2.2.2.2.1,.string y1.2.2.2.2.2.2.2.2.2.2.2.2.2.2.2.2.2.2.2.2.2.2.2.2.2.2.2.2.2.2.2.2.1,.string y1.2.2.2.2.2.2.2.2.2.2.2.2.2.2.2.2.2.2.2.2.2.2.2.2.2.2.2.2.2.2.2.2.2.1,.int .i64 y1.2.2.2.2.2.2.2.2.2.2.2.2.2.2.2.2.2.2.2.2.2.2.2.2.2.2.2.2.2.2.2.2.2.2.1,.int .i64 y1.2.2.2.2.2.2.2.2.2.2.2.2.2.2.2.2.2.2.2.2.2.2.2.2.2.2.2.2.2.2.2.2.2.2.2.1,.string y1.2.2.2.2.2.2.2.2.2.2.2.2.2.2.2.2.2.2.2.2.2.2.2.2.2.2.2.2.2.2.2.2.2.2.2.2.1,.string y1.2.2.2.2.2.2.2.2.2.2.2.2.2.2.2.2.2.2.2.2.2.2.2.2.2.2.2.2.2.2.2.2.2.2.2.2.2.1,.int .i64 y1.2.2.2.2.2.2.2.2.2.2.2.2.2.2.2.2.2.2.2.2.2.2.2.2.2.2.2.2.2.2.2.2.2.2.2.2.2.2.1,.int .i64 y1.2.2.2.2.2.2.2.2.2.2.2.2.2.2.2.2.2.2.2.2.2.2.2.2.2.2.2.2.2.2.2.2.2.2.2.2.2.2.2.1,.string y1.2.2.2.2.2.2.2.2.2.2.2.2.2.2.2.2.2.2.2.2.2.2.2.2.2.2.2.2.2.2.2.2.2.2.2.2.2.2.2.2.1,.string y1.2.2.2.2.2.2.2.2.2.2.2.2.2.2.2.2.2.2.2.2.2.2.2.2.2.2.2.2.2.2.2.2.2.2.2.2.2.2.2.2.2.1,.int .i64 y1.2.2.2.2.2.2.2.2.2.2.2.2.2.2.2.2.2.2.2.2.2.2.2.2.2.2.2.2.2.2.2.2.2.2.2.2.2.2.2.2.2.2.1,.int .i64 y1.2.2.2.2.2.2.2.2.2.2.2.2.2.2.2.2.2.2.2.2.2.2.2.2.2.2.2.2.2.2.2.2.2.2.2.2.2.2.2.2.2.2.2.1,.string y1.2.2.2.2.2.2.2.2.2.2.2.2.2.2.2.2.2.2.2.2.2.2.2.2.2.2.2.2.2.2.2.2.2.2.2.2.2.2.2.2.2.2.2.2.1,.string y1.2.2.2.2.2.2.2.2.2.2.2.2.2.2.2.2.2.2.2.2.2.2.2.2.2.2.2.2.2.2.2.2.2.2.2.2.2.2.2.2.2.2.2.2.2.1,.int .i64 y1.2.2.2.2.2.2.2.2.2.2.2.2.2.2.2.2.2.2.2.2.2.2.2.2.2.2.2.2.2.2.2.2.2.2.2.2.2.2.2.2.2.2.2.2.2.2.1,.int .i64 y1.2.2.2.2.2.2.2.2.2.2.2.2.2.2.2.2.2.2.2.2.2.2.2.2.2.2.2.2.2.2.2.2.2.2.2.2.2.2.2.2.2.2.2.2.2.2.2.1,.string y1.2.2.2.2.2.2.2.2.2.2.2.2.2.2.2.2.2.2.2.2.2.2.2.2.2.2.2.2.2.2.2.2.2.2.2.2.2.2.2.2.2.2.2.2.2.2.2.2.1,.string y1.2.2.2.2.2.2.2.2.2.2.2.2.2.2.2.2.2.2.2.2.2.2.2.2.2.2.2.2.2.2.2.2.2.2.2.2.2.2.2.2.2.2.2.2.2.2.2.2.2.1,.int .i64 y1.2.2.2.2.2.2.2.2.2.2.2.2.2.2.2.2.2.2.2.2.2.2.2.2.2.2.2.2.2.2.2.2.2.2.2.2.2.2.2.2.2.2.2.2.2.2.2.2.2.2.1,.int .i64 y1.2.2.2.2.2.2.2.2.2.2.2.2.2.2.2.2.2.2.2.2.2.2.2.2.2.2.2.2.2.2.2.2.2.2.2.2.2.2.2.2.2.2.2.2.2.2.2.2.2.2.2.1,.string y1.2.2.2.2.2.2.2.2.2.2.2.2.2.2.2.2.2.2.2.2.2.2.2.2.2.2.2.2.2.2.2.2.2.2.2.2.2.2.2.2.2.2.2.2.2.2.2.2.2.2.2.2.1,.string y1.2.2.2.2.2.2.2.2.2.2.2.2.2.2.2.2.2.2.2.2.2.2.2.2.2.2.2.2.2.2.2.2.2.2.2.2.2.2.2.2.2.2.2.2.2.2.2.2.2.2.2.2.2.1,.int .i64 y1.2.2.2.2.2.2.2.2.2.2.2.2.2.2.2.2.2.2.2.2.2.2.2.2.2.2.2.2.2.2.2.2.2.2.2.2.2.2.2.2.2.2.2.2.2.2.2.2.2.2.2.2.2.2.1,.int .i64 y1.2.2.2.2.2.2.2.2.2.2.2.2.2.2.2.2.2.2.2.2.2.2.2.2.2.2.2.2.2.2.2.2.2.2.2.2.2.2.2.2.2.2.2.2.2.2.2.2.2.2.2.2.2.2.2.1,.string y1.2.2.2.2.2.2.2.2.2.2.2.2.2.2.2.2.2.2.2.2.2.2.2.2.2.2.2.2.2.2.2.2.2.2.2.2.2.2.2.2.2.2.2.2.2.2.2.2.2.2.2.2.2.2.2.2.1,.string y1.2.2.2.2.2.2.2.2.2.2.2.2.2.2.2.2.2.2.2.2.2.2.2.2.2.2.2.2.2.2.2.2.2.2.2.2.2.2.2.2.2.2.2.2.2.2.2.2.2.2.2.2.2.2.2.2.2.1,.int .i64 y1.2.2.2.2.2.2.2.2.2.2.2.2.2.2.2.2.2.2.2.2.2.2.2.2.2.2.2.2.2.2.2.2.2.2.2.2.2.2.2.2.2.2.2.2.2.2.2.2.2.2.2.2.2.2.2.2.2.2.1,.int .i64 y1.2.2.2.2.2.2.2.2.2.2.2.2.2.2.2.2.2.2.2.2.2.2.2.2.2.2.2.2.2.2.2.2.2.2.2.2.2.2.2.2.2.2.2.2.2.2.2.2.2.2.2.2.2.2.2.2.2.2.2.1,.string y1.2.2.2.2.2.2.2.2.2.2.2.2.2.2.2.2.2.2.2.2.2.2.2.2.2.2.2.2.2.2.2.2.2.2.2.2.2.2.2.2.2.2.2.2.2.2.2.2.2.2.2.2.2.2.2.2.2.2.2.2.1,.string y1.2.2.2.2.2.2.2.2.2.2.2.2.2.2.2.2.2.2.2.2.2.2.2.2.2.2.2.2.2.2.2.2.2.2.2.2.2.2.2.2.2.2.2.2.2.2.2.2.2.2.2.2.2.2.2.2.2.2.2.2.2.1,.int .i64 y1.2.2.2.2.2.2.2.2.2.2.2.2.2.2.2.2.2.2.2.2.2.2.2.2.2.2.2.2.2.2.2.2.2.2.2.2.2.2.2.2.2.2.2.2.2.2.2.2.2.2.2.2.2.2.2.2.2.2.2.2.2.2.1,.int .i64 y1.2.2.2.2.2.2.2.2.2.2.2.2.2.2.2.2.2.2.2.2.2.2.2.2.2.2.2.2.2.2.2.2.2.2.2.2.2.2.2.2.2.2.2.2.2.2.2.2.2.2.2.2.2.2.2.2.2.2.2.2.2.2.2.1,.string y1.2.2.2.2.2.2.2.2.2.2.2.2.2.2.2.2.2.2.2.2.2.2.2.2.2.2.2.2.2.2.2.2.2.2.2.2.2.2.2.2.2.2.2.2.2.2.2.2.2.2.2.2.2.2.2.2.2.2.2.2.2.2.2.2.1,.string y1.2.2.2.2.2.2.2.2.2.2.2.2.2.2.2.2.2.2.2.2.2.2.2.2.2.2.2.2.2.2.2.2.2.2.2.2.2.2.2.2.2.2.2.2.2.2.2.2.2.2.2.2.2.2.2.2.2.2.2.2.2.2.2.2.2.1,.int .i64 y1.2.2.2.2.2.2.2.2.2.2.2.2.2.2.2.2.2.2.2.2.2.2.2.2.2.2.2.2.2.2.2.2.2.2.2.2.2.2.2.2.2.2.2.2.2.2.2.2.2.2.2.2.2.2.2.2.2.2.2.2.2.2.2.2.2.2.1,.int .i64 y1.2.2.2.2.2.2.2.2.2.2.2.2.2.2.2.2.2.2.2.2.2.2.2.2.2.2.2.2.2.2.2.2.2.2.2.2.2.2.2.2.2.2.2.2.2.2.2.2.2.2.2.2.2.2.2.2.2.2.2.2.2.2.2.2.2.2.2.1,.string y1.2.2.2.2.2.2.2.2.2.2.2.2.2.2.2.2.2.2.2.2.2.2.2.2.2.2.2.2.2.2.2.2.2.2.2.2.2.2.2.2.2.2.2.2.2.2.2.2.2.2.2.2.2.2.2.2.2.2.2.2.2.2.2.2.2.2.2.2.1,.string y1.2.2.2.2.2.2.2.2.2.2.2.2.2.2.2.2.2.2.2.2.2.2.2.2.2.2.2.2.2.2.2.2.2.2.2.2.2.2.2.2.2.2.2.2.2.2.2.2.2.2.2.2.2.2.2.2.2.2.2.2.2.2.2.2.2.2.2.2.2.1,.int .i64 y1.2.2.2.2.2.2.2.2.2.2.2.2.2.2.2.2.2.2.2.2.2.2.2.2.2.2.2.2.2.2.2.2.2.2.2.2.2.2.2.2.2.2.2.2.2.2.2.2.2.2.2.2.2.2.2.2.2.2.2.2.2.2.2.2.2.2.2.2.2.2.1,.int .i64 y1.2.2.2.2.2.2.2.2.2.2.2.2.2.2.2.2.2.2.2.2.2.2.2.2.2.2.2.2.2.2.2.2.2.2.2.2.2.2.2.2.2.2.2.2.2.2.2.2.2.2.2.2.2.2.2.2.2.2.2.2.2.2.2.2.2.2.2.2.2.2.2.1,.string y1.2.2.2.2.2.2.2.2.2.2.2.2.2.2.2.2.2.2.2.2.2.2.2.2.2.2.2.2.2.2.2.2.2.2.2.2.2.2.2.2.2.2.2.2.2.2.2.2.2.2.2.2.2.2.2.2.2.2.2.2.2.2.2.2.2.2.2.2.2.2.2.2.1,.string y1.2.2.2.2.2.2.2.2.2.2.2.2.2.2.2.2.2.2.2.2.2.2.2.2.2.2.2.2.2.2.2.2.2.2.2.2.2.2.2.2.2.2.2.2.2.2.2.2.2.2.2.2.2.2.2.2.2.2.2.2.2.2.2.2.2.2.2.2.2.2.2.2.2.1,.int .i64 y1.2.2.2.2.2.2.2.2.2.2.2.2.2.2.2.2.2.2.2.2.2.2.2.2.2.2.2.2.2.2.2.2.2.2.2.2.2.2.2.2.2.2.2.2.2.2.2.2.2.2.2.2.2.2.2.2.2.2.2.2.2.2.2.2.2.2.2.2.2.2.2.2.2.2.1,.int .i64 y1.2.2.2.2.2.2.2.2.2.2.2.2.2.2.2.2.2.2.2.2.2.2.2.2.2.2.2.2.2.2.2.2.2.2.2.2.2.2.2.2.2.2.2.2.2.2.2.2.2.2.2.2.2.2.2.2.2.2.2.2.2.2.2.2.2.2.2.2.2.2.2.2.2.2.2.1,.string y1.2.2.2.2.2.2.2.2.2.2.2.2.2.2.2.2.2.2.2.2.2.2.2.2.2.2.2.2.2.2.2.2.2.2.2.2.2.2.2.2.2.2.2.2.2.2.2.2.2.2.2.2.2.2.2.2.2.2.2.2.2.2.2.2.2.2.2.2.2.2.2.2.2.2.2.2.1,.string y1.2.2.2.2.2.2.2.2.2.2.2.2.2.2.2.2.2.2.2.2.2.2.2.2.2.2.2.2.2.2.2.2.2.2.2.2.2.2.2.2.2.2.2.2.2.2.2.2.2.2.2.2.2.2.2.2.2.2.2.2.2.2.2.2.2.2.2.2.2.2.2.2.2.2.2.2.2.1,.int .i64 y1.2.2.2.2.2.2.2.2.2.2.2.2.2.2.2.2.2.2.2.2.2.2.2.2.2.2.2.2.2.2.2.2.2.2.2.2.2.2.2.2.2.2.2.2.2.2.2.2.2.2.2.2.2.2.2.2.2.2.2.2.2.2.2.2.2.2.2.2.2.2.2.2.2.2.2.2.2.2.1,.int .i64 y1.2.2.2.2.2.2.2.2.2.2.2.2.2.2.2.2.2.2.2.2.2.2.2.2.2.2.2.2.2.2.2.2.2.2.2.2.2.2.2.2.2.2.2.2.2.2.2.2.2.2.2.2.2.2.2.2.2.2.2.2.2.2.2.2.2.2.2.2.2.2.2.2.2.2.2.2.2.2.2.1] (Int.toNat y2.1*(4:Nat)) (.g [.s,.s,.i .i64,.i .i64]) fun y3 =>
  .br (ByteArray.toList y3.1 == x0.toList) (
   .ret [qv3 y3,.bool (true)]) <|
 .nx 0 [.v (.int .i64 (IntKind.i64.wrap (y2.1+(1:Int)))),.v (.string y2.2.1),.v (.string y2.2.2.1),.v (.int .i64 y2.2.2.2.1),.v (.int .i64 y2.2.2.2.2.1)]) <|
 .ret [qv3 (({ data:={ toList:=[]:Array UInt8 }:ByteArray }),({ data:={ toList:=[]:Array UInt8 }:ByteArray }),(((0:Int)):Int),(((0:Int)):Int),()),.bool (false)]
theorem fI_currencyOf x0:qft aI_currencyOf 107 [.string x0] (tI_currencyOf x0) :=fitK (by kernel_rfl)
def tI_IntOk (x0:qy1):T :=
 .qc3 109 [Sc.val .l x0.2.1] fun y1 =>
 .br y1 (
  .br (!x0.1) (
   .rT) <|
 .ret [.bool (decide ((↑x0.2.1.n:Int) > (0:Int)))]) <|
 .rF
theorem fI_IntOk x0:qft qa0 108 [qv1 x0] (tI_IntOk x0) :=fitK (by kernel_rfl)
def aI_NatOk:An:=⟨[(4,[.s 24],[.o (.o (.i .i64))])],[],[]⟩
def tI_NatOk (x0:SlV):T :=
 .br (decide ((↑x0.n:Int) > (50:Int))) (
  .rF) <|
 .br (decide ((↑x0.n:Int) > (0:Int))) (
  .el x0.1 (x0.n) (IntKind.i64.wrap ((↑x0.n:Int)-(1:Int))) fun y1 =>
  .ql21 (y1.add ((IntKind.i64.wrap ((↑x0.n:Int)-(1:Int))).toNat*(1:Nat))) fun y2 =>
  .br (y2 == (0:Int)) (
   .rF) <|
 .lp [.o (.o (.i .i64))] [.v (.int .i64 0)] fun y3 =>
  .br (decide (y3.1<(↑x0.n:Int))) (
   .el x0.1 (x0.n) y3.1 fun y4 =>
   .ql21 (y4.add (Int.toNat y3.1*(1:Nat))) fun y5 =>
   .br (decide (y5<(0:Int))) (
    .rF) <|
 .br (decide (y5≥(1000000000:Int))) (
    .rF) <|
 .nx 0 [.v (.int .i64 (IntKind.i64.wrap (y3.1+(1:Int))))]) <|
 .rT) <|
 .lp [.o (.o (.i .i64))] [.v (.int .i64 0)] fun y1 =>
 .br (decide (y1.1<(↑x0.n:Int))) (
  .el x0.1 (x0.n) y1.1 fun y2 =>
  .ql21 (y2.add (Int.toNat y1.1*(1:Nat))) fun y3 =>
  .br (decide (y3<(0:Int))) (
   .rF) <|
 .br (decide (y3≥(1000000000:Int))) (
   .rF) <|
 .nx 0 [.v (.int .i64 (IntKind.i64.wrap (y1.1+(1:Int))))]) <|
 .rT
theorem fI_NatOk x0:qft aI_NatOk 109 [Sc.val .l x0] (tI_NatOk x0) :=fitK (by kernel_rfl)
def aI_natGcd:An:=⟨[(1,[.s 0,.s 1],[.o (.o (.l)),.o (.o (.l))])],[],[]⟩
def tI_natGcd (x0:SlV) (x1:SlV):T :=
 .lp [.o (.o (.l)),.o (.o (.l))] [.v (Sc.val .l x0),.v (Sc.val .l x1)] fun y1 =>
 .br (decide ((↑y1.2.1.n:Int) > (0:Int))) (
  .qc25 117 [Sc.val .l y1.1,Sc.val .l y1.2.1] fun y2 =>
  .nx 0 [.v (Sc.val .l y1.2.1),.v (Sc.val .l y2.2.1)]) <|
 .qc0 102 [Sc.val .l y1.1] fun y2 =>
 .ret [Sc.val .l y2]
theorem fI_natGcd x0 x1:qft aI_natGcd 110 [Sc.val .l x0,Sc.val .l x1] (tI_natGcd x0 x1) :=fitK (by kernel_rfl)
def tI_intSign (x0:qy1):T :=
 .br ((↑x0.2.1.n:Int) == (0:Int)) (
  .ret [.int .i64 0]) <|
 .br x0.1 (
  .rM) <|
 .ret [.int .i64 1]
theorem fI_intSign x0:qft qa0 111 [qv1 x0] (tI_intSign x0) :=fitK (by kernel_rfl)
def tI_signed (x0:Bool) (x1:SlV):T :=
 .br x0 (
  .ret [qv1 ((decide ((↑x1.n:Int) > (0:Int))),x1,())]) <|
 .ret [qv1 ((false),x1,())]
theorem fI_signed x0 x1:qft qa0 112 [.bool x0,Sc.val .l x1] (tI_signed x0 x1) :=fitK (by kernel_rfl)
def tI_intCopy (x0:qy1):T :=
 .rg <|
 .qc22 102 [Sc.val .l x0.2.1] fun y1 =>
 .ret [qv1 (x0.1,y1,())]
theorem fI_intCopy x0:qft qa0 113 [qv1 x0] (tI_intCopy x0) :=fitK (by kernel_rfl)
def tI_intsOk (x0:qy1) (x1:qy1):T :=
 .qc3 108 [qv1 x0] fun y1 =>
 .br y1 (
  .qc3 108 [qv1 x1] fun y2 =>
  .ret [.bool y2]) <|
 .rF
theorem fI_intsOk x0 x1:qft qa0 115 [qv1 x0,qv1 x1] (tI_intsOk x0 x1) :=fitK (by kernel_rfl)
def aI_natOf:An:=⟨[(2,[.s 0,.s 3],[.o (.o (.i .u64)),.a 3])],[],[]⟩
def tI_natOf (x0:Int):T :=
 .lp [.o (.o (.i .u64)),.a 3] [.v (.int .u64 x0),.a 3 ((0:Nat)) []] fun y1 =>
 .br (decide (y1.1 > (0:Int))) (
  .rq ((1000000000:Int)≠(0:Int)) <|
 .rq ([Value.int IntKind.i64 (IntKind.i64.wrap (Int.tmod y1.1 (1000000000:Int)))].length=(1:Nat)*(1:Nat)) <|
 .rq (one [Value.int IntKind.i64 (IntKind.i64.wrap (Int.tmod y1.1 (1000000000:Int)))]=true∧(y1.2.1.1+(1:Nat))*(8:Nat)≤(140737488355328:Nat)∧y1.2.1.1+(1:Nat)≤(9223372036854775807:Nat)) <|
 .rq ((1000000000:Int)≠(0:Int)) <|
 .nx 0 [.v (.int .u64 (IntKind.u64.wrap (Int.tdiv y1.1 (1000000000:Int)))),.a 3 (y1.2.1.1+(1:Nat)) (y1.2.1.2++[Value.int IntKind.i64 (IntKind.i64.wrap (Int.tmod y1.1 (1000000000:Int)))])]) <|
 .fz y1.2.1.1 y1.2.1.2 3 fun b2 c2 =>
 .ret [.slice (some { block:=b2,off:=(0:Nat):Addr }) y1.2.1.1 (c2)]
theorem fI_natOf x0:qft aI_natOf 116 [.int .u64 x0] (tI_natOf x0) :=fitK (by kernel_rfl)
def aI_natDiv:An:=⟨[(9,[.s 9],[.o (.o (.l))]),(14,[.s 12,.s 13],[.a 3,.o (.o (.i .i64))])],[],[]⟩
def tI_natDiv (x0:SlV) (x1:SlV):T :=
 .qc6 119 [Sc.val .l x0,Sc.val .l x1] fun y1 =>
 .br (decide (y1<(0:Int))) (
  .qc0 102 [Sc.val .l x0] fun y2 =>
  .fz ((0:Nat)) [] 3 fun b3 c3 =>
  .ret [.slice (some { block:=b3,off:=(0:Nat):Addr }) ((0:Nat)) (c3),Sc.val .l y2]) <|
 .br ((↑x1.n:Int) == (1:Int)) (
  .el x1.1 (x1.n) ((0:Int)) fun y2 =>
  .ql21 (y2.add (Int.toNat (0:Int)*(1:Nat))) fun y3 =>
  .qc29 186 [Sc.val .l x0,.int .i64 y3] fun y4 =>
  .qc0 187 [.int .i64 y4.2.1] fun y5 =>
  .ret [Sc.val .l y4.1,Sc.val .l y5]) <|
 .el x1.1 (x1.n) (IntKind.i64.wrap ((↑x1.n:Int)-(1:Int))) fun y2 =>
 .ql21 (y2.add ((IntKind.i64.wrap ((↑x1.n:Int)-(1:Int))).toNat*(1:Nat))) fun y3 =>
 .rq (IntKind.i64.wrap (y3+(1:Int))≠(0:Int)) <|
 .fz ((1:Nat)) [.int .i64 (IntKind.i64.wrap (Int.tdiv (1000000000:Int) (IntKind.i64.wrap (y3+(1:Int)))))] 3 fun b4 c4 =>
 .qc0 65 [Sc.val .l x0,.slice (some { block:=b4,off:=(0:Nat):Addr }) ((1:Nat)) (c4)] fun y5 =>
 .fz ((1:Nat)) [.int .i64 (IntKind.i64.wrap (Int.tdiv (1000000000:Int) (IntKind.i64.wrap (y3+(1:Int)))))] 3 fun b6 c6 =>
 .qc0 65 [Sc.val .l x1,.slice (some { block:=b6,off:=(0:Nat):Addr }) ((1:Nat)) (c6)] fun y7 =>
 .lp [.o (.o (.l))] [.v (Sc.val .l y5)] fun y8 =>
 .br (decide ((↑y8.1.n:Int)≤(↑x0.n:Int))) (
  .rq ([Value.int IntKind.i64 (0:Int)].length=(1:Nat)*(1:Nat)) <|
 .rq (one [Value.int IntKind.i64 (0:Int)]=true) <|
 .ap ({ a:=y8.1.1,n:=y8.1.n,c:=y8.1.c:SlV }) 1 8 [.int .i64 0] ((1:Nat)) 3 fun y9 =>
  .nx 0 [.v (Sc.val .l y9)]) <|
 .rq ((0:Int)≤IntKind.i64.wrap ((↑y8.1.n:Int)-(↑y7.n:Int))∧IntKind.i64.wrap ((↑y8.1.n:Int)-(↑y7.n:Int))≤IntKind.i64.wrap ((↑y8.1.n:Int)-(↑y7.n:Int))∧(↑(8:Nat):Int)*IntKind.i64.wrap ((↑y8.1.n:Int)-(↑y7.n:Int))≤(281474976710656:Int)∧IntKind.i64.wrap ((↑y8.1.n:Int)-(↑y7.n:Int))≤(9223372036854775807:Int)) <|
 .lp [.a 3,.o (.o (.i .i64))] [.a 3 ((IntKind.i64.wrap ((↑y8.1.n:Int)-(↑y7.n:Int))).toNat) ((madeCells { toList:=[Value.int IntKind.i64 (0:Int)]:Array Value } ((IntKind.i64.wrap ((↑y8.1.n:Int)-(↑y7.n:Int))).toNat*(1:Nat))).toList),.v (.int .i64 (IntKind.i64.wrap ((↑(IntKind.i64.wrap ((↑y8.1.n:Int)-(↑y7.n:Int))).toNat:Int)-(1:Int))))] fun y9 =>
 .br (decide (y9.2.1≥(0:Int))) (
  .rq ((0:Int)≤y9.2.1∧y9.2.1≤IntKind.i64.wrap (IntKind.i64.wrap (y9.2.1+(↑y7.n:Int))+(1:Int))∧IntKind.i64.wrap (IntKind.i64.wrap (y9.2.1+(↑y7.n:Int))+(1:Int))≤(↑y8.1.c:Int)∧(↑y8.1.c:Int)≤(↑y8.1.c:Int)) <|
 .qc6 188 [.slice (if (↑y8.1.c:Int).toNat=Int.toNat y9.2.1 then y8.1.1 else Option.map (fun x=>x.add (Int.toNat y9.2.1*Go.Proofs.Tryz.prog.types[(3:Nat)].size)) y8.1.1) ((IntKind.i64.wrap (IntKind.i64.wrap (y9.2.1+(↑y7.n:Int))+(1:Int))).toNat-Int.toNat y9.2.1) ((↑y8.1.c:Int).toNat-Int.toNat y9.2.1),Sc.val .l y7] fun y10 =>
  .rq ((0:Int)≤y9.2.1∧y9.2.1<(↑y9.1.1:Int)) <|
 .rq (Int.toNat y9.2.1*(1:Nat)+[Value.int IntKind.i64 y10].length≤y9.1.2.length) <|
 .nx 1 [.a 3 y9.1.1 (setl y9.1.2 (Int.toNat y9.2.1*(1:Nat)) [Value.int IntKind.i64 y10]),.v (.int .i64 (IntKind.i64.wrap (y9.2.1-(1:Int))))]) <|
 .qc0 121 [Sc.val .l y8.1] fun y10 =>
 .qc29 186 [Sc.val .l y10,.int .i64 (IntKind.i64.wrap (Int.tdiv (1000000000:Int) (IntKind.i64.wrap (y3+(1:Int)))))] fun y11 =>
 .fz y9.1.1 y9.1.2 3 fun b12 c12 =>
 .qc0 121 [.slice (some { block:=b12,off:=(0:Nat):Addr }) y9.1.1 (c12)] fun y13 =>
 .ret [Sc.val .l y13,Sc.val .l y11.1]
theorem fI_natDiv x0 x1:qft aI_natDiv 117 [Sc.val .l x0,Sc.val .l x1] (tI_natDiv x0 x1) :=fitK (by kernel_rfl)
end
end Go.Proofs.YtagkjnpggkmehaaGreatDoor
