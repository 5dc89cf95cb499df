/-
  What each function of the seat comes to, as a tree; each tree is checked against the code.
-/
import Derived.Test.YtccnjccabllcaaaGreatDoorTA
namespace Go.Proofs.YtccnjccabllcaaaGreatDoor
open Sx
set_option maxRecDepth 100000
def aS_l02Mul:An:=⟨[(5,[.s 5,.s 28],[.a 3,.o (.o (.i .i64))]),(9,[.s 5,.s 8,.s 35],[.a 3,.o (.o (.i .i64)),.o (.o (.i .i64))])],[],[]⟩
noncomputable def tS_l02Mul (x0:SlV) (x1:SlV):T :=
 .br ((↑x0.n:Int) == (0:Int)) (
  .ret [.slice (none) ((0:Nat)) ((0:Nat))]) <|
 .br ((↑x1.n:Int) == (0:Int)) (
  .ret [.slice (none) ((0:Nat)) ((0:Nat))]) <|
 .rq ((0:Int)≤IntKind.i64.wrap ((↑x0.n:Int)+(↑x1.n:Int))∧IntKind.i64.wrap ((↑x0.n:Int)+(↑x1.n:Int))≤IntKind.i64.wrap ((↑x0.n:Int)+(↑x1.n:Int))∧(↑(8:Nat):Int)*IntKind.i64.wrap ((↑x0.n:Int)+(↑x1.n:Int))≤(281474976710656:Int)∧IntKind.i64.wrap ((↑x0.n:Int)+(↑x1.n:Int))≤(9223372036854775807:Int)) <|
 .lp [.a 3,.o (.o (.i .i64))] [.a 3 ((IntKind.i64.wrap ((↑x0.n:Int)+(↑x1.n:Int))).toNat) ((madeCells { toList:=[Value.int IntKind.i64 (0:Int)]:Array Value } ((IntKind.i64.wrap ((↑x0.n:Int)+(↑x1.n:Int))).toNat*(1:Nat))).toList),.v (.int .i64 ((0:Int)))] fun y1 =>
 .br (decide (y1.2.1<(↑x0.n:Int))) (
  .el (x0.1) (x0.n) (y1.2.1) fun y2 =>
  .ld false (y2.add (Int.toNat y1.2.1*(1:Nat))) (.o (.i .i64)) fun y3 =>
  .lp [.a 3,.o (.o (.i .i64)),.o (.o (.i .i64))] [.a 3 (y1.1.1) (y1.1.2),.v (.int .i64 ((0:Int))),.v (.int .i64 ((0:Int)))] fun y4 =>
  .br (decide (y4.2.2.1<(↑x1.n:Int))) (
   .el (x1.1) (x1.n) (y4.2.2.1) fun y5 =>
   .ld false (y5.add (Int.toNat y4.2.2.1*(1:Nat))) (.o (.i .i64)) fun y6 =>
   .rq ((0:Int)≤IntKind.i64.wrap (y1.2.1+y4.2.2.1)∧IntKind.i64.wrap (y1.2.1+y4.2.2.1)<(↑y4.1.1:Int)) <|
   .xs (y4.1.2) ((IntKind.i64.wrap (y1.2.1+y4.2.2.1)).toNat*(1:Nat)) (.o (.i .i64)) fun y7 =>
   .rq ((1000000000:Int)≠(0:Int)) <|
   .rq ((0:Int)≤IntKind.i64.wrap (y1.2.1+y4.2.2.1)∧IntKind.i64.wrap (y1.2.1+y4.2.2.1)<(↑y4.1.1:Int)) <|
   .rq ((IntKind.i64.wrap (y1.2.1+y4.2.2.1)).toNat*(1:Nat)+[Value.int IntKind.i64 ((IntKind.i64.wrap (IntKind.i64.wrap (y7+IntKind.i64.wrap (y3*y6))+y4.2.1)).tmod (1000000000:Int))].length≤y4.1.2.length) <|
   .rq ((1000000000:Int)≠(0:Int)) <|
   .nx 1 [.a 3 (y4.1.1) (setl y4.1.2 ((IntKind.i64.wrap (y1.2.1+y4.2.2.1)).toNat*(1:Nat)) [Value.int IntKind.i64 ((IntKind.i64.wrap (IntKind.i64.wrap (y7+IntKind.i64.wrap (y3*y6))+y4.2.1)).tmod (1000000000:Int))]),.v (.int .i64 (IntKind.i64.wrap ((IntKind.i64.wrap (IntKind.i64.wrap (y7+IntKind.i64.wrap (y3*y6))+y4.2.1)).tdiv (1000000000:Int)))),.v (.int .i64 (IntKind.i64.wrap (y4.2.2.1+(1:Int))))]) <|
  .rq ((0:Int)≤IntKind.i64.wrap (y1.2.1+(↑x1.n:Int))∧IntKind.i64.wrap (y1.2.1+(↑x1.n:Int))<(↑y4.1.1:Int)) <|
  .rq ((IntKind.i64.wrap (y1.2.1+(↑x1.n:Int))).toNat*(1:Nat)+[(Sh1.o (Sc.i IntKind.i64)).val y4.2.1].length≤y4.1.2.length) <|
  .nx 0 [.a 3 (y4.1.1) (setl y4.1.2 ((IntKind.i64.wrap (y1.2.1+(↑x1.n:Int))).toNat*(1:Nat)) [(Sh1.o (Sc.i IntKind.i64)).val y4.2.1]),.v (.int .i64 (IntKind.i64.wrap (y1.2.1+(1:Int))))]) <|
 .fz (y1.1.1) (y1.1.2) 3 fun b2 c2 =>
 .call false 156 [.slice (some { block:=b2,off:=(0:Nat):Addr }) (y1.1.1) (c2)] (.v (.o (.l))) fun y3 =>
 .ret [Sc.val .l (y3)]
theorem fS_l02Mul (x0:SlV) (x1:SlV):fits Tryz.prog aS_l02Mul 144 [Sc.val .l (x0),Sc.val .l (x1)] (tS_l02Mul x0 x1) :=
 fitK (by kernel_rfl)
def aI_isLower:An:=⟨[],[],[]⟩
noncomputable def tI_isLower (x0:Int):T :=
 .br (decide (x0≥(97:Int))) (
  .ret [.bool (decide (x0≤(122:Int)))]) <|
 .ret [.bool (false)]
theorem fI_isLower (x0:Int):fits Tryz.prog aI_isLower 145 [.int .u8 (x0)] (tI_isLower x0) :=
 fitK (by kernel_rfl)
def aI_isDigit:An:=⟨[],[],[]⟩
noncomputable def tI_isDigit (x0:Int):T :=
 .br (decide (x0≥(48:Int))) (
  .ret [.bool (decide (x0≤(57:Int)))]) <|
 .ret [.bool (false)]
theorem fI_isDigit (x0:Int):fits Tryz.prog aI_isDigit 146 [.int .u8 (x0)] (tI_isDigit x0) :=
 fitK (by kernel_rfl)
def aI_IntOk:An:=⟨[],[],[]⟩
noncomputable def tI_IntOk (x0:Bool × SlV × PUnit):T :=
 .call false 149 [Sc.val .l (x0.2.1)] (.v (.o (.b))) fun y1 =>
 .br (y1) (
  .br (!x0.1) (
   .ret [.bool (true)]) <|
  .ret [.bool (decide ((↑x0.2.1.n:Int) > (0:Int)))]) <|
 .ret [.bool (false)]
theorem fI_IntOk (x0:Bool × SlV × PUnit):fits Tryz.prog aI_IntOk 147 [Sh1.val (.g [.b,.l]) (x0)] (tI_IntOk x0) :=
 fitK (by kernel_rfl)
def aI_currencyOf:An:=⟨[(2,[.s 7,.c 2 0,.c 2 1,.c 2 2,.c 2 3],[.o (.o (.i .i64)),.o (.o (.s)),.o (.o (.s)),.o (.o (.i .i64)),.o (.o (.i .i64))])],[],[]⟩
noncomputable def tI_currencyOf (x0:ByteArray):T :=
 .ld false ({ block:=(0:Nat),off:=(0:Nat):Addr }) (.g [.s,.s,.i .i64,.i .i64,.s,.s,.i .i64,.i .i64,.s,.s,.i .i64,.i .i64,.s,.s,.i .i64,.i .i64,.s,.s,.i .i64,.i .i64,.s,.s,.i .i64,.i .i64,.s,.s,.i .i64,.i .i64,.s,.s,.i .i64,.i .i64,.s,.s,.i .i64,.i .i64,.s,.s,.i .i64,.i .i64,.s,.s,.i .i64,.i .i64,.s,.s,.i .i64,.i .i64,.s,.s,.i .i64,.i .i64,.s,.s,.i .i64,.i .i64,.s,.s,.i .i64,.i .i64,.s,.s,.i .i64,.i .i64,.s,.s,.i .i64,.i .i64,.s,.s,.i .i64,.i .i64,.s,.s,.i .i64,.i .i64,.s,.s,.i .i64,.i .i64]) fun y1 =>
 .lp [.o (.o (.i .i64)),.o (.o (.s)),.o (.o (.s)),.o (.o (.i .i64)),.o (.o (.i .i64))] [.v (.int .i64 ((0:Int))),.v (.string ({ data:={ toList:=[]:Array UInt8 }:ByteArray })),.v (.string ({ data:={ toList:=[]:Array UInt8 }:ByteArray })),.v (.int .i64 ((0:Int))),.v (.int .i64 ((0:Int)))] fun y2 =>
 .br (decide (y2.1<(20:Int))) (
  .rq ((0:Int)≤y2.1∧y2.1<(↑(20:Nat):Int)) <|
  .xs [.string (y1.1),.string (y1.2.1),.int .i64 (y1.2.2.1),.int .i64 (y1.2.2.2.1),.string (y1.2.2.2.2.1),.string (y1.2.2.2.2.2.1),.int .i64 (y1.2.2.2.2.2.2.1),.int .i64 (y1.2.2.2.2.2.2.2.1),.string (y1.2.2.2.2.2.2.2.2.1),.string (y1.2.2.2.2.2.2.2.2.2.1),.int .i64 (y1.2.2.2.2.2.2.2.2.2.2.1),.int .i64 (y1.2.2.2.2.2.2.2.2.2.2.2.1),.string (y1.2.2.2.2.2.2.2.2.2.2.2.2.1),.string (y1.2.2.2.2.2.2.2.2.2.2.2.2.2.1),.int .i64 (y1.2.2.2.2.2.2.2.2.2.2.2.2.2.2.1),.int .i64 (y1.2.2.2.2.2.2.2.2.2.2.2.2.2.2.2.1),.string (y1.2.2.2.2.2.2.2.2.2.2.2.2.2.2.2.2.1),.string (y1.2.2.2.2.2.2.2.2.2.2.2.2.2.2.2.2.2.1),.int .i64 (y1.2.2.2.2.2.2.2.2.2.2.2.2.2.2.2.2.2.2.1),.int .i64 (y1.2.2.2.2.2.2.2.2.2.2.2.2.2.2.2.2.2.2.2.1),.string (y1.2.2.2.2.2.2.2.2.2.2.2.2.2.2.2.2.2.2.2.2.1),.string (y1.2.2.2.2.2.2.2.2.2.2.2.2.2.2.2.2.2.2.2.2.2.1),.int .i64 (y1.2.2.2.2.2.2.2.2.2.2.2.2.2.2.2.2.2.2.2.2.2.2.1),.int .i64 (y1.2.2.2.2.2.2.2.2.2.2.2.2.2.2.2.2.2.2.2.2.2.2.2.1),.string (y1.2.2.2.2.2.2.2.2.2.2.2.2.2.2.2.2.2.2.2.2.2.2.2.2.1),.string (y1.2.2.2.2.2.2.2.2.2.2.2.2.2.2.2.2.2.2.2.2.2.2.2.2.2.1),.int .i64 (y1.2.2.2.2.2.2.2.2.2.2.2.2.2.2.2.2.2.2.2.2.2.2.2.2.2.2.1),.int .i64 (y1.2.2.2.2.2.2.2.2.2.2.2.2.2.2.2.2.2.2.2.2.2.2.2.2.2.2.2.1),.string (y1.2.2.2.2.2.2.2.2.2.2.2.2.2.2.2.2.2.2.2.2.2.2.2.2.2.2.2.2.1),.string (y1.2.2.2.2.2.2.2.2.2.2.2.2.2.2.2.2.2.2.2.2.2.2.2.2.2.2.2.2.2.1),.int .i64 (y1.2.2.2.2.2.2.2.2.2.2.2.2.2.2.2.2.2.2.2.2.2.2.2.2.2.2.2.2.2.2.1),.int .i64 (y1.2.2.2.2.2.2.2.2.2.2.2.2.2.2.2.2.2.2.2.2.2.2.2.2.2.2.2.2.2.2.2.1),.string (y1.2.2.2.2.2.2.2.2.2.2.2.2.2.2.2.2.2.2.2.2.2.2.2.2.2.2.2.2.2.2.2.2.1),.string (y1.2.2.2.2.2.2.2.2.2.2.2.2.2.2.2.2.2.2.2.2.2.2.2.2.2.2.2.2.2.2.2.2.2.1),.int .i64 (y1.2.2.2.2.2.2.2.2.2.2.2.2.2.2.2.2.2.2.2.2.2.2.2.2.2.2.2.2.2.2.2.2.2.2.1),.int .i64 (y1.2.2.2.2.2.2.2.2.2.2.2.2.2.2.2.2.2.2.2.2.2.2.2.2.2.2.2.2.2.2.2.2.2.2.2.1),.string (y1.2.2.2.2.2.2.2.2.2.2.2.2.2.2.2.2.2.2.2.2.2.2.2.2.2.2.2.2.2.2.2.2.2.2.2.2.1),.string (y1.2.2.2.2.2.2.2.2.2.2.2.2.2.2.2.2.2.2.2.2.2.2.2.2.2.2.2.2.2.2.2.2.2.2.2.2.2.1),.int .i64 (y1.2.2.2.2.2.2.2.2.2.2.2.2.2.2.2.2.2.2.2.2.2.2.2.2.2.2.2.2.2.2.2.2.2.2.2.2.2.2.1),.int .i64 (y1.2.2.2.2.2.2.2.2.2.2.2.2.2.2.2.2.2.2.2.2.2.2.2.2.2.2.2.2.2.2.2.2.2.2.2.2.2.2.2.1),.string (y1.2.2.2.2.2.2.2.2.2.2.2.2.2.2.2.2.2.2.2.2.2.2.2.2.2.2.2.2.2.2.2.2.2.2.2.2.2.2.2.2.1),.string (y1.2.2.2.2.2.2.2.2.2.2.2.2.2.2.2.2.2.2.2.2.2.2.2.2.2.2.2.2.2.2.2.2.2.2.2.2.2.2.2.2.2.1),.int .i64 (y1.2.2.2.2.2.2.2.2.2.2.2.2.2.2.2.2.2.2.2.2.2.2.2.2.2.2.2.2.2.2.2.2.2.2.2.2.2.2.2.2.2.2.1),.int .i64 (y1.2.2.2.2.2.2.2.2.2.2.2.2.2.2.2.2.2.2.2.2.2.2.2.2.2.2.2.2.2.2.2.2.2.2.2.2.2.2.2.2.2.2.2.1),.string (y1.2.2.2.2.2.2.2.2.2.2.2.2.2.2.2.2.2.2.2.2.2.2.2.2.2.2.2.2.2.2.2.2.2.2.2.2.2.2.2.2.2.2.2.2.1),.string (y1.2.2.2.2.2.2.2.2.2.2.2.2.2.2.2.2.2.2.2.2.2.2.2.2.2.2.2.2.2.2.2.2.2.2.2.2.2.2.2.2.2.2.2.2.2.1),.int .i64 (y1.2.2.2.2.2.2.2.2.2.2.2.2.2.2.2.2.2.2.2.2.2.2.2.2.2.2.2.2.2.2.2.2.2.2.2.2.2.2.2.2.2.2.2.2.2.2.1),.int .i64 (y1.2.2.2.2.2.2.2.2.2.2.2.2.2.2.2.2.2.2.2.2.2.2.2.2.2.2.2.2.2.2.2.2.2.2.2.2.2.2.2.2.2.2.2.2.2.2.2.1),.string (y1.2.2.2.2.2.2.2.2.2.2.2.2.2.2.2.2.2.2.2.2.2.2.2.2.2.2.2.2.2.2.2.2.2.2.2.2.2.2.2.2.2.2.2.2.2.2.2.2.1),.string (y1.2.2.2.2.2.2.2.2.2.2.2.2.2.2.2.2.2.2.2.2.2.2.2.2.2.2.2.2.2.2.2.2.2.2.2.2.2.2.2.2.2.2.2.2.2.2.2.2.2.1),.int .i64 (y1.2.2.2.2.2.2.2.2.2.2.2.2.2.2.2.2.2.2.2.2.2.2.2.2.2.2.2.2.2.2.2.2.2.2.2.2.2.2.2.2.2.2.2.2.2.2.2.2.2.2.1),.int .i64 (y1.2.2.2.2.2.2.2.2.2.2.2.2.2.2.2.2.2.2.2.2.2.2.2.2.2.2.2.2.2.2.2.2.2.2.2.2.2.2.2.2.2.2.2.2.2.2.2.2.2.2.2.1),.string (y1.2.2.2.2.2.2.2.2.2.2.2.2.2.2.2.2.2.2.2.2.2.2.2.2.2.2.2.2.2.2.2.2.2.2.2.2.2.2.2.2.2.2.2.2.2.2.2.2.2.2.2.2.1),.string (y1.2.2.2.2.2.2.2.2.2.2.2.2.2.2.2.2.2.2.2.2.2.2.2.2.2.2.2.2.2.2.2.2.2.2.2.2.2.2.2.2.2.2.2.2.2.2.2.2.2.2.2.2.2.1),.int .i64 (y1.2.2.2.2.2.2.2.2.2.2.2.2.2.2.2.2.2.2.2.2.2.2.2.2.2.2.2.2.2.2.2.2.2.2.2.2.2.2.2.2.2.2.2.2.2.2.2.2.2.2.2.2.2.2.1),.int .i64 (y1.2.2.2.2.2.2.2.2.2.2.2.2.2.2.2.2.2.2.2.2.2.2.2.2.2.2.2.2.2.2.2.2.2.2.2.2.2.2.2.2.2.2.2.2.2.2.2.2.2.2.2.2.2.2.2.1),.string (y1.2.2.2.2.2.2.2.2.2.2.2.2.2.2.2.2.2.2.2.2.2.2.2.2.2.2.2.2.2.2.2.2.2.2.2.2.2.2.2.2.2.2.2.2.2.2.2.2.2.2.2.2.2.2.2.2.1),.string (y1.2.2.2.2.2.2.2.2.2.2.2.2.2.2.2.2.2.2.2.2.2.2.2.2.2.2.2.2.2.2.2.2.2.2.2.2.2.2.2.2.2.2.2.2.2.2.2.2.2.2.2.2.2.2.2.2.2.1),.int .i64 (y1.2.2.2.2.2.2.2.2.2.2.2.2.2.2.2.2.2.2.2.2.2.2.2.2.2.2.2.2.2.2.2.2.2.2.2.2.2.2.2.2.2.2.2.2.2.2.2.2.2.2.2.2.2.2.2.2.2.2.1),.int .i64 (y1.2.2.2.2.2.2.2.2.2.2.2.2.2.2.2.2.2.2.2.2.2.2.2.2.2.2.2.2.2.2.2.2.2.2.2.2.2.2.2.2.2.2.2.2.2.2.2.2.2.2.2.2.2.2.2.2.2.2.2.1),.string (y1.2.2.2.2.2.2.2.2.2.2.2.2.2.2.2.2.2.2.2.2.2.2.2.2.2.2.2.2.2.2.2.2.2.2.2.2.2.2.2.2.2.2.2.2.2.2.2.2.2.2.2.2.2.2.2.2.2.2.2.2.1),.string (y1.2.2.2.2.2.2.2.2.2.2.2.2.2.2.2.2.2.2.2.2.2.2.2.2.2.2.2.2.2.2.2.2.2.2.2.2.2.2.2.2.2.2.2.2.2.2.2.2.2.2.2.2.2.2.2.2.2.2.2.2.2.1),.int .i64 (y1.2.2.2.2.2.2.2.2.2.2.2.2.2.2.2.2.2.2.2.2.2.2.2.2.2.2.2.2.2.2.2.2.2.2.2.2.2.2.2.2.2.2.2.2.2.2.2.2.2.2.2.2.2.2.2.2.2.2.2.2.2.2.1),.int .i64 (y1.2.2.2.2.2.2.2.2.2.2.2.2.2.2.2.2.2.2.2.2.2.2.2.2.2.2.2.2.2.2.2.2.2.2.2.2.2.2.2.2.2.2.2.2.2.2.2.2.2.2.2.2.2.2.2.2.2.2.2.2.2.2.2.1),.string (y1.2.2.2.2.2.2.2.2.2.2.2.2.2.2.2.2.2.2.2.2.2.2.2.2.2.2.2.2.2.2.2.2.2.2.2.2.2.2.2.2.2.2.2.2.2.2.2.2.2.2.2.2.2.2.2.2.2.2.2.2.2.2.2.2.1),.string (y1.2.2.2.2.2.2.2.2.2.2.2.2.2.2.2.2.2.2.2.2.2.2.2.2.2.2.2.2.2.2.2.2.2.2.2.2.2.2.2.2.2.2.2.2.2.2.2.2.2.2.2.2.2.2.2.2.2.2.2.2.2.2.2.2.2.1),.int .i64 (y1.2.2.2.2.2.2.2.2.2.2.2.2.2.2.2.2.2.2.2.2.2.2.2.2.2.2.2.2.2.2.2.2.2.2.2.2.2.2.2.2.2.2.2.2.2.2.2.2.2.2.2.2.2.2.2.2.2.2.2.2.2.2.2.2.2.2.1),.int .i64 (y1.2.2.2.2.2.2.2.2.2.2.2.2.2.2.2.2.2.2.2.2.2.2.2.2.2.2.2.2.2.2.2.2.2.2.2.2.2.2.2.2.2.2.2.2.2.2.2.2.2.2.2.2.2.2.2.2.2.2.2.2.2.2.2.2.2.2.2.1),.string (y1.2.2.2.2.2.2.2.2.2.2.2.2.2.2.2.2.2.2.2.2.2.2.2.2.2.2.2.2.2.2.2.2.2.2.2.2.2.2.2.2.2.2.2.2.2.2.2.2.2.2.2.2.2.2.2.2.2.2.2.2.2.2.2.2.2.2.2.2.1),.string (y1.2.2.2.2.2.2.2.2.2.2.2.2.2.2.2.2.2.2.2.2.2.2.2.2.2.2.2.2.2.2.2.2.2.2.2.2.2.2.2.2.2.2.2.2.2.2.2.2.2.2.2.2.2.2.2.2.2.2.2.2.2.2.2.2.2.2.2.2.2.1),.int .i64 (y1.2.2.2.2.2.2.2.2.2.2.2.2.2.2.2.2.2.2.2.2.2.2.2.2.2.2.2.2.2.2.2.2.2.2.2.2.2.2.2.2.2.2.2.2.2.2.2.2.2.2.2.2.2.2.2.2.2.2.2.2.2.2.2.2.2.2.2.2.2.2.1),.int .i64 (y1.2.2.2.2.2.2.2.2.2.2.2.2.2.2.2.2.2.2.2.2.2.2.2.2.2.2.2.2.2.2.2.2.2.2.2.2.2.2.2.2.2.2.2.2.2.2.2.2.2.2.2.2.2.2.2.2.2.2.2.2.2.2.2.2.2.2.2.2.2.2.2.1),.string (y1.2.2.2.2.2.2.2.2.2.2.2.2.2.2.2.2.2.2.2.2.2.2.2.2.2.2.2.2.2.2.2.2.2.2.2.2.2.2.2.2.2.2.2.2.2.2.2.2.2.2.2.2.2.2.2.2.2.2.2.2.2.2.2.2.2.2.2.2.2.2.2.2.1),.string (y1.2.2.2.2.2.2.2.2.2.2.2.2.2.2.2.2.2.2.2.2.2.2.2.2.2.2.2.2.2.2.2.2.2.2.2.2.2.2.2.2.2.2.2.2.2.2.2.2.2.2.2.2.2.2.2.2.2.2.2.2.2.2.2.2.2.2.2.2.2.2.2.2.2.1),.int .i64 (y1.2.2.2.2.2.2.2.2.2.2.2.2.2.2.2.2.2.2.2.2.2.2.2.2.2.2.2.2.2.2.2.2.2.2.2.2.2.2.2.2.2.2.2.2.2.2.2.2.2.2.2.2.2.2.2.2.2.2.2.2.2.2.2.2.2.2.2.2.2.2.2.2.2.2.1),.int .i64 (y1.2.2.2.2.2.2.2.2.2.2.2.2.2.2.2.2.2.2.2.2.2.2.2.2.2.2.2.2.2.2.2.2.2.2.2.2.2.2.2.2.2.2.2.2.2.2.2.2.2.2.2.2.2.2.2.2.2.2.2.2.2.2.2.2.2.2.2.2.2.2.2.2.2.2.2.1),.string (y1.2.2.2.2.2.2.2.2.2.2.2.2.2.2.2.2.2.2.2.2.2.2.2.2.2.2.2.2.2.2.2.2.2.2.2.2.2.2.2.2.2.2.2.2.2.2.2.2.2.2.2.2.2.2.2.2.2.2.2.2.2.2.2.2.2.2.2.2.2.2.2.2.2.2.2.2.1),.string (y1.2.2.2.2.2.2.2.2.2.2.2.2.2.2.2.2.2.2.2.2.2.2.2.2.2.2.2.2.2.2.2.2.2.2.2.2.2.2.2.2.2.2.2.2.2.2.2.2.2.2.2.2.2.2.2.2.2.2.2.2.2.2.2.2.2.2.2.2.2.2.2.2.2.2.2.2.2.1),.int .i64 (y1.2.2.2.2.2.2.2.2.2.2.2.2.2.2.2.2.2.2.2.2.2.2.2.2.2.2.2.2.2.2.2.2.2.2.2.2.2.2.2.2.2.2.2.2.2.2.2.2.2.2.2.2.2.2.2.2.2.2.2.2.2.2.2.2.2.2.2.2.2.2.2.2.2.2.2.2.2.2.1),.int .i64 (y1.2.2.2.2.2.2.2.2.2.2.2.2.2.2.2.2.2.2.2.2.2.2.2.2.2.2.2.2.2.2.2.2.2.2.2.2.2.2.2.2.2.2.2.2.2.2.2.2.2.2.2.2.2.2.2.2.2.2.2.2.2.2.2.2.2.2.2.2.2.2.2.2.2.2.2.2.2.2.2.1)] (Int.toNat y2.1*(4:Nat)) (.g [.s,.s,.i .i64,.i .i64]) fun y3 =>
  .br (ByteArray.toList y3.1 == x0.toList) (
   .ret [Sh1.val (.g [.s,.s,.i .i64,.i .i64]) (y3),.bool (true)]) <|
  .nx 0 [.v (.int .i64 (IntKind.i64.wrap (y2.1+(1:Int)))),.v (.string (y2.2.1)),.v (.string (y2.2.2.1)),.v (.int .i64 (y2.2.2.2.1)),.v (.int .i64 (y2.2.2.2.2.1))]) <|
 .ret [Sh1.val (.g [.s,.s,.i .i64,.i .i64]) (({ data:={ toList:=[]:Array UInt8 }:ByteArray }),({ data:={ toList:=[]:Array UInt8 }:ByteArray }),(((0:Int)):Int),(((0:Int)):Int),()),.bool (false)]
theorem fI_currencyOf (x0:ByteArray):fits Tryz.prog aI_currencyOf 148 [.string (x0)] (tI_currencyOf x0) :=
 fitK (by kernel_rfl)
def aI_NatOk:An:=⟨[(4,[.s 24],[.o (.o (.i .i64))])],[],[]⟩
noncomputable def tI_NatOk (x0:SlV):T :=
 .br (decide ((↑x0.n:Int) > (50:Int))) (
  .ret [.bool (false)]) <|
 .br (decide ((↑x0.n:Int) > (0:Int))) (
  .el (x0.1) (x0.n) (IntKind.i64.wrap ((↑x0.n:Int)-(1:Int))) fun y1 =>
  .ld false (y1.add ((IntKind.i64.wrap ((↑x0.n:Int)-(1:Int))).toNat*(1:Nat))) (.o (.i .i64)) fun y2 =>
  .br (y2 == (0:Int)) (
   .ret [.bool (false)]) <|
  .lp [.o (.o (.i .i64))] [.v (.int .i64 ((0:Int)))] fun y3 =>
  .br (decide (y3.1<(↑x0.n:Int))) (
   .el (x0.1) (x0.n) (y3.1) fun y4 =>
   .ld false (y4.add (Int.toNat y3.1*(1:Nat))) (.o (.i .i64)) fun y5 =>
   .br (decide (y5<(0:Int))) (
    .ret [.bool (false)]) <|
   .br (decide (y5≥(1000000000:Int))) (
    .ret [.bool (false)]) <|
   .nx 0 [.v (.int .i64 (IntKind.i64.wrap (y3.1+(1:Int))))]) <|
  .ret [.bool (true)]) <|
 .lp [.o (.o (.i .i64))] [.v (.int .i64 ((0:Int)))] fun y1 =>
 .br (decide (y1.1<(↑x0.n:Int))) (
  .el (x0.1) (x0.n) (y1.1) fun y2 =>
  .ld false (y2.add (Int.toNat y1.1*(1:Nat))) (.o (.i .i64)) fun y3 =>
  .br (decide (y3<(0:Int))) (
   .ret [.bool (false)]) <|
  .br (decide (y3≥(1000000000:Int))) (
   .ret [.bool (false)]) <|
  .nx 0 [.v (.int .i64 (IntKind.i64.wrap (y1.1+(1:Int))))]) <|
 .ret [.bool (true)]
theorem fI_NatOk (x0:SlV):fits Tryz.prog aI_NatOk 149 [Sc.val .l (x0)] (tI_NatOk x0) :=
 fitK (by kernel_rfl)
def aI_natGcd:An:=⟨[(1,[.s 0,.s 1],[.o (.o (.l)),.o (.o (.l))])],[],[]⟩
noncomputable def tI_natGcd (x0:SlV) (x1:SlV):T :=
 .lp [.o (.o (.l)),.o (.o (.l))] [.v (Sc.val .l (x0)),.v (Sc.val .l (x1))] fun y1 =>
 .br (decide ((↑y1.2.1.n:Int) > (0:Int))) (
  .call false 162 [Sc.val .l (y1.1),Sc.val .l (y1.2.1)] (.t [(.o (.l)),(.o (.l))]) fun y2 =>
  .nx 0 [.v (Sc.val .l (y1.2.1)),.v (Sc.val .l (y2.2.1))]) <|
 .call false 154 [Sc.val .l (y1.1)] (.v (.o (.l))) fun y2 =>
 .ret [Sc.val .l (y2)]
theorem fI_natGcd (x0:SlV) (x1:SlV):fits Tryz.prog aI_natGcd 150 [Sc.val .l (x0),Sc.val .l (x1)] (tI_natGcd x0 x1) :=
 fitK (by kernel_rfl)
def aI_intSign:An:=⟨[],[],[]⟩
noncomputable def tI_intSign (x0:Bool × SlV × PUnit):T :=
 .br ((↑x0.2.1.n:Int) == (0:Int)) (
  .ret [.int .i64 ((0:Int))]) <|
 .br (x0.1) (
  .ret [.int .i64 ((-1:Int))]) <|
 .ret [.int .i64 ((1:Int))]
theorem fI_intSign (x0:Bool × SlV × PUnit):fits Tryz.prog aI_intSign 151 [Sh1.val (.g [.b,.l]) (x0)] (tI_intSign x0) :=
 fitK (by kernel_rfl)
def aI_DecOk:An:=⟨[],[],[]⟩
noncomputable def tI_DecOk (x0:Bool × SlV × Int × PUnit):T :=
 .call false 147 [Sh1.val (.g [.b,.l]) ((x0.1),x0.2.1,())] (.v (.o (.b))) fun y1 =>
 .br (y1) (
  .br (decide ((↑x0.2.1.n:Int)≤(6:Int))) (
   .call false 163 [.int .i64 (x0.2.2.1)] (.v (.o (.b))) fun y2 =>
   .ret [.bool (y2)]) <|
  .ret [.bool (false)]) <|
 .ret [.bool (false)]
theorem fI_DecOk (x0:Bool × SlV × Int × PUnit):fits Tryz.prog aI_DecOk 152 [Sh1.val (.g [.b,.l,.i .i64]) (x0)] (tI_DecOk x0) :=
 fitK (by kernel_rfl)
def aI_intCopy:An:=⟨[],[],[]⟩
noncomputable def tI_intCopy (x0:Bool × SlV × PUnit):T :=
 .rg <|
 .call true 154 [Sc.val .l (x0.2.1)] (.v (.o (.l))) fun y1 =>
 .ret [Sh1.val (.g [.b,.l]) ((x0.1),y1,())]
theorem fI_intCopy (x0:Bool × SlV × PUnit):fits Tryz.prog aI_intCopy 153 [Sh1.val (.g [.b,.l]) (x0)] (tI_intCopy x0) :=
 fitK (by kernel_rfl)
def aI_natCopy:An:=⟨[],[],[]⟩
noncomputable def tI_natCopy (x0:SlV):T :=
 .rd ({ a:=x0.1,n:=x0.n,c:=x0.c:SlV }) ((1:Nat)) fun y1 =>
 .rq (one y1=true∧((0:Nat)+x0.n)*(8:Nat)≤(140737488355328:Nat)∧(0:Nat)+x0.n≤(9223372036854775807:Nat)) <|
 .fz ((0:Nat)+x0.n) ([]++y1) 3 fun b2 c2 =>
 .ret [.slice (some { block:=b2,off:=(0:Nat):Addr }) ((0:Nat)+x0.n) (c2)]
theorem fI_natCopy (x0:SlV):fits Tryz.prog aI_natCopy 154 [Sc.val .l (x0)] (tI_natCopy x0) :=
 fitK (by kernel_rfl)
def aI_decCopy:An:=⟨[],[],[]⟩
noncomputable def tI_decCopy (x0:Bool × SlV × Int × PUnit):T :=
 .rg <|
 .call true 153 [Sh1.val (.g [.b,.l]) ((x0.1),x0.2.1,())] (.v (.g [.b,.l])) fun y1 =>
 .ret [Sh1.val (.g [.b,.l,.i .i64]) ((y1.1),y1.2.1,((x0.2.2.1):Int),())]
theorem fI_decCopy (x0:Bool × SlV × Int × PUnit):fits Tryz.prog aI_decCopy 155 [Sh1.val (.g [.b,.l,.i .i64]) (x0)] (tI_decCopy x0) :=
 fitK (by kernel_rfl)
def aS_l02Trim:An:=⟨[(2,[.s 3],[.o (.o (.i .i64))])],[],[]⟩
noncomputable def tS_l02Trim (x0:SlV):T :=
 .lp [.o (.o (.i .i64))] [.v (.int .i64 ((↑x0.n:Int)))] fun y1 =>
 .br (decide (y1.1 > (0:Int))) (
  .el (x0.1) (x0.n) (IntKind.i64.wrap (y1.1-(1:Int))) fun y2 =>
  .ld false (y2.add ((IntKind.i64.wrap (y1.1-(1:Int))).toNat*(1:Nat))) (.o (.i .i64)) fun y3 =>
  .br (y3 == (0:Int)) (
   .nx 0 [.v (.int .i64 (IntKind.i64.wrap (y1.1-(1:Int))))]) <|
  .rq ((0:Int)≤(0:Int)∧(0:Int)≤y1.1∧y1.1≤(↑x0.c:Int)∧(↑x0.c:Int)≤(↑x0.c:Int)) <|
  .ret [.slice (if (↑x0.c:Int).toNat=Int.toNat (0:Int) then x0.1 else Option.map (fun x=>x.add (Int.toNat (0:Int)*Proofs.Tryz.prog.types[(3:Nat)].size)) x0.1) (Int.toNat y1.1-Int.toNat (0:Int)) ((↑x0.c:Int).toNat-Int.toNat (0:Int))]) <|
 .rq ((0:Int)≤(0:Int)∧(0:Int)≤y1.1∧y1.1≤(↑x0.c:Int)∧(↑x0.c:Int)≤(↑x0.c:Int)) <|
 .ret [.slice (if (↑x0.c:Int).toNat=Int.toNat (0:Int) then x0.1 else Option.map (fun x=>x.add (Int.toNat (0:Int)*Proofs.Tryz.prog.types[(3:Nat)].size)) x0.1) (Int.toNat y1.1-Int.toNat (0:Int)) ((↑x0.c:Int).toNat-Int.toNat (0:Int))]
theorem fS_l02Trim (x0:SlV):fits Tryz.prog aS_l02Trim 156 [Sc.val .l (x0)] (tS_l02Trim x0) :=
 fitK (by kernel_rfl)
def aS_l03Small:An:=⟨[(4,[.s 6,.s 7,.s 8],[.a 3,.o (.o (.i .i64)),.o (.o (.i .i64))])],[],[]⟩
noncomputable def tS_l03Small (x0:SlV) (x1:Int):T :=
 .rq ((0:Int)≤(↑x0.n:Int)∧(↑x0.n:Int)≤(↑x0.n:Int)∧(↑(8:Nat):Int)*(↑x0.n:Int)≤(281474976710656:Int)∧(↑x0.n:Int)≤(9223372036854775807:Int)) <|
 .lp [.a 3,.o (.o (.i .i64)),.o (.o (.i .i64))] [.a 3 ((↑x0.n:Int).toNat) ((madeCells { toList:=[Value.int IntKind.i64 (0:Int)]:Array Value } ((↑x0.n:Int).toNat*(1:Nat))).toList),.v (.int .i64 ((0:Int))),.v (.int .i64 (IntKind.i64.wrap ((↑x0.n:Int)-(1:Int))))] fun y1 =>
 .br (decide (y1.2.2.1≥(0:Int))) (
  .el (x0.1) (x0.n) (y1.2.2.1) fun y2 =>
  .ld false (y2.add (Int.toNat y1.2.2.1*(1:Nat))) (.o (.i .i64)) fun y3 =>
  .rq (x1≠(0:Int)) <|
  .rq ((0:Int)≤y1.2.2.1∧y1.2.2.1<(↑y1.1.1:Int)) <|
  .rq (Int.toNat y1.2.2.1*(1:Nat)+[Value.int IntKind.i64 (IntKind.i64.wrap ((IntKind.i64.wrap (IntKind.i64.wrap (y1.2.1*(1000000000:Int))+y3)).tdiv x1))].length≤y1.1.2.length) <|
  .rq (x1≠(0:Int)) <|
  .nx 0 [.a 3 (y1.1.1) (setl y1.1.2 (Int.toNat y1.2.2.1*(1:Nat)) [Value.int IntKind.i64 (IntKind.i64.wrap ((IntKind.i64.wrap (IntKind.i64.wrap (y1.2.1*(1000000000:Int))+y3)).tdiv x1))]),.v (.int .i64 ((IntKind.i64.wrap (IntKind.i64.wrap (y1.2.1*(1000000000:Int))+y3)).tmod x1)),.v (.int .i64 (IntKind.i64.wrap (y1.2.2.1-(1:Int))))]) <|
 .fz (y1.1.1) (y1.1.2) 3 fun b2 c2 =>
 .call false 156 [.slice (some { block:=b2,off:=(0:Nat):Addr }) (y1.1.1) (c2)] (.v (.o (.l))) fun y3 =>
 .ret [Sc.val .l (y3),.int .i64 (y1.2.1)]
theorem fS_l03Small (x0:SlV) (x1:Int):fits Tryz.prog aS_l03Small 158 [Sc.val .l (x0),.int .i64 (x1)] (tS_l03Small x0 x1) :=
 fitK (by kernel_rfl)
def aS_NatOf:An:=⟨[(2,[.s 0,.s 3],[.o (.o (.i .i64)),.a 3])],[],[]⟩
noncomputable def tS_NatOf (x0:Int):T :=
 .lp [.o (.o (.i .i64)),.a 3] [.v (.int .i64 (x0)),.a 3 ((0:Nat)) []] fun y1 =>
 .br (decide (y1.1 > (0:Int))) (
  .rq ((1000000000:Int)≠(0:Int)) <|
  .rq ([Value.int IntKind.i64 (Int.tmod y1.1 (1000000000:Int))].length=(1:Nat)*(1:Nat)) <|
  .rq (one [Value.int IntKind.i64 (Int.tmod y1.1 (1000000000:Int))]=true∧(y1.2.1.1+(1:Nat))*(8:Nat)≤(140737488355328:Nat)∧y1.2.1.1+(1:Nat)≤(9223372036854775807:Nat)) <|
  .rq ((1000000000:Int)≠(0:Int)) <|
  .nx 0 [.v (.int .i64 (IntKind.i64.wrap (Int.tdiv y1.1 (1000000000:Int)))),.a 3 (y1.2.1.1+(1:Nat)) (y1.2.1.2++[Value.int IntKind.i64 (Int.tmod y1.1 (1000000000:Int))])]) <|
 .fz (y1.2.1.1) (y1.2.1.2) 3 fun b2 c2 =>
 .ret [.slice (some { block:=b2,off:=(0:Nat):Addr }) (y1.2.1.1) (c2)]
theorem fS_NatOf (x0:Int):fits Tryz.prog aS_NatOf 159 [.int .i64 (x0)] (tS_NatOf x0) :=
 fitK (by kernel_rfl)
def aS_l03Digit:An:=⟨[(3,[.s 5,.s 6],[.o (.o (.i .i64)),.o (.o (.i .i64))])],[],[]⟩
noncomputable def tS_l03Digit (x0:SlV) (x1:SlV):T :=
 .lp [.o (.o (.i .i64)),.o (.o (.i .i64))] [.v (.int .i64 ((0:Int))),.v (.int .i64 ((999999999:Int)))] fun y1 =>
 .br (decide (y1.1<y1.2.1)) (
  .rq ((2:Int)≠(0:Int)) <|
  .call false 159 [.int .i64 (IntKind.i64.wrap ((IntKind.i64.wrap (IntKind.i64.wrap (y1.1+y1.2.1)+(1:Int))).tdiv (2:Int)))] (.v (.o (.l))) fun y2 =>
  .call false 144 [Sc.val .l (x1),Sc.val .l (y2)] (.v (.o (.l))) fun y3 =>
  .call false 126 [Sc.val .l (y3),Sc.val .l (x0)] (.v (.o (.i .i64))) fun y4 =>
  .br (decide (y4≤(0:Int))) (
   .nx 0 [.v (.int .i64 (IntKind.i64.wrap ((IntKind.i64.wrap (IntKind.i64.wrap (y1.1+y1.2.1)+(1:Int))).tdiv (2:Int)))),.v (.int .i64 (y1.2.1))]) <|
  .nx 0 [.v (.int .i64 (y1.1)),.v (.int .i64 (IntKind.i64.wrap (IntKind.i64.wrap ((IntKind.i64.wrap (IntKind.i64.wrap (y1.1+y1.2.1)+(1:Int))).tdiv (2:Int))-(1:Int))))]) <|
 .ret [.int .i64 (y1.1)]
theorem fS_l03Digit (x0:SlV) (x1:SlV):fits Tryz.prog aS_l03Digit 160 [Sc.val .l (x0),Sc.val .l (x1)] (tS_l03Digit x0 x1) :=
 fitK (by kernel_rfl)
def aS_l02Sub:An:=⟨[(4,[.s 5,.s 6,.s 12],[.a 3,.o (.o (.i .i64)),.o (.o (.i .i64))])],[],[]⟩
noncomputable def tS_l02Sub (x0:SlV) (x1:SlV):T :=
 .lp [.a 3,.o (.o (.i .i64)),.o (.o (.i .i64))] [.a 3 ((0:Nat)) [],.v (.int .i64 ((0:Int))),.v (.int .i64 ((0:Int)))] fun y1 =>
 .br (decide (y1.2.2.1<(↑x0.n:Int))) (
  .el (x0.1) (x0.n) (y1.2.2.1) fun y2 =>
  .ld false (y2.add (Int.toNat y1.2.2.1*(1:Nat))) (.o (.i .i64)) fun y3 =>
  .br (decide (y1.2.2.1<(↑x1.n:Int))) (
   .el (x1.1) (x1.n) (y1.2.2.1) fun y4 =>
   .ld false (y4.add (Int.toNat y1.2.2.1*(1:Nat))) (.o (.i .i64)) fun y5 =>
   .br (decide (IntKind.i64.wrap (IntKind.i64.wrap (y3-y1.2.1)-y5)<(0:Int))) (
    .rq ([Value.int IntKind.i64 (IntKind.i64.wrap (IntKind.i64.wrap (IntKind.i64.wrap (y3-y1.2.1)-y5)+(1000000000:Int)))].length=(1:Nat)*(1:Nat)) <|
    .rq (one [Value.int IntKind.i64 (IntKind.i64.wrap (IntKind.i64.wrap (IntKind.i64.wrap (y3-y1.2.1)-y5)+(1000000000:Int)))]=true∧(y1.1.1+(1:Nat))*(8:Nat)≤(140737488355328:Nat)∧y1.1.1+(1:Nat)≤(9223372036854775807:Nat)) <|
    .nx 0 [.a 3 (y1.1.1+(1:Nat)) (y1.1.2++[Value.int IntKind.i64 (IntKind.i64.wrap (IntKind.i64.wrap (IntKind.i64.wrap (y3-y1.2.1)-y5)+(1000000000:Int)))]),.v (.int .i64 ((1:Int))),.v (.int .i64 (IntKind.i64.wrap (y1.2.2.1+(1:Int))))]) <|
   .rq ([Value.int IntKind.i64 (IntKind.i64.wrap (IntKind.i64.wrap (y3-y1.2.1)-y5))].length=(1:Nat)*(1:Nat)) <|
   .rq (one [Value.int IntKind.i64 (IntKind.i64.wrap (IntKind.i64.wrap (y3-y1.2.1)-y5))]=true∧(y1.1.1+(1:Nat))*(8:Nat)≤(140737488355328:Nat)∧y1.1.1+(1:Nat)≤(9223372036854775807:Nat)) <|
   .nx 0 [.a 3 (y1.1.1+(1:Nat)) (y1.1.2++[Value.int IntKind.i64 (IntKind.i64.wrap (IntKind.i64.wrap (y3-y1.2.1)-y5))]),.v (.int .i64 ((0:Int))),.v (.int .i64 (IntKind.i64.wrap (y1.2.2.1+(1:Int))))]) <|
  .br (decide (IntKind.i64.wrap (y3-y1.2.1)<(0:Int))) (
   .rq ([Value.int IntKind.i64 (IntKind.i64.wrap (IntKind.i64.wrap (y3-y1.2.1)+(1000000000:Int)))].length=(1:Nat)*(1:Nat)) <|
   .rq (one [Value.int IntKind.i64 (IntKind.i64.wrap (IntKind.i64.wrap (y3-y1.2.1)+(1000000000:Int)))]=true∧(y1.1.1+(1:Nat))*(8:Nat)≤(140737488355328:Nat)∧y1.1.1+(1:Nat)≤(9223372036854775807:Nat)) <|
   .nx 0 [.a 3 (y1.1.1+(1:Nat)) (y1.1.2++[Value.int IntKind.i64 (IntKind.i64.wrap (IntKind.i64.wrap (y3-y1.2.1)+(1000000000:Int)))]),.v (.int .i64 ((1:Int))),.v (.int .i64 (IntKind.i64.wrap (y1.2.2.1+(1:Int))))]) <|
  .rq ([Value.int IntKind.i64 (IntKind.i64.wrap (y3-y1.2.1))].length=(1:Nat)*(1:Nat)) <|
  .rq (one [Value.int IntKind.i64 (IntKind.i64.wrap (y3-y1.2.1))]=true∧(y1.1.1+(1:Nat))*(8:Nat)≤(140737488355328:Nat)∧y1.1.1+(1:Nat)≤(9223372036854775807:Nat)) <|
  .nx 0 [.a 3 (y1.1.1+(1:Nat)) (y1.1.2++[Value.int IntKind.i64 (IntKind.i64.wrap (y3-y1.2.1))]),.v (.int .i64 ((0:Int))),.v (.int .i64 (IntKind.i64.wrap (y1.2.2.1+(1:Int))))]) <|
 .fz (y1.1.1) (y1.1.2) 3 fun b2 c2 =>
 .call false 156 [.slice (some { block:=b2,off:=(0:Nat):Addr }) (y1.1.1) (c2)] (.v (.o (.l))) fun y3 =>
 .ret [Sc.val .l (y3)]
theorem fS_l02Sub (x0:SlV) (x1:SlV):fits Tryz.prog aS_l02Sub 161 [Sc.val .l (x0),Sc.val .l (x1)] (tS_l02Sub x0 x1) :=
 fitK (by kernel_rfl)
def aI_natDiv:An:=⟨[(9,[.s 9],[.o (.o (.l))]),(14,[.s 12,.s 13],[.a 3,.o (.o (.i .i64))])],[],[]⟩
noncomputable def tI_natDiv (x0:SlV) (x1:SlV):T :=
 .call false 165 [Sc.val .l (x0),Sc.val .l (x1)] (.v (.o (.i .i64))) fun y1 =>
 .br (decide (y1<(0:Int))) (
  .call false 154 [Sc.val .l (x0)] (.v (.o (.l))) fun y2 =>
  .fz ((0:Nat)) [] 3 fun b3 c3 =>
  .ret [.slice (some { block:=b3,off:=(0:Nat):Addr }) ((0:Nat)) (c3),Sc.val .l (y2)]) <|
 .br ((↑x1.n:Int) == (1:Int)) (
  .el (x1.1) (x1.n) ((0:Int)) fun y2 =>
  .ld false (y2.add (Int.toNat (0:Int)*(1:Nat))) (.o (.i .i64)) fun y3 =>
  .call false 166 [Sc.val .l (x0),.int .i64 (y3)] (.t [(.o (.l)),(.o (.i .i64))]) fun y4 =>
  .call false 167 [.int .i64 (y4.2.1)] (.v (.o (.l))) fun y5 =>
  .ret [Sc.val .l (y4.1),Sc.val .l (y5)]) <|
 .el (x1.1) (x1.n) (IntKind.i64.wrap ((↑x1.n:Int)-(1:Int))) fun y2 =>
 .ld false (y2.add ((IntKind.i64.wrap ((↑x1.n:Int)-(1:Int))).toNat*(1:Nat))) (.o (.i .i64)) fun y3 =>
 .rq (IntKind.i64.wrap (y3+(1:Int))≠(0:Int)) <|
 .fz ((1:Nat)) [.int .i64 (IntKind.i64.wrap (Int.tdiv (1000000000:Int) (IntKind.i64.wrap (y3+(1:Int)))))] 3 fun b4 c4 =>
 .call false 168 [Sc.val .l (x0),.slice (some { block:=b4,off:=(0:Nat):Addr }) ((1:Nat)) (c4)] (.v (.o (.l))) fun y5 =>
 .fz ((1:Nat)) [.int .i64 (IntKind.i64.wrap (Int.tdiv (1000000000:Int) (IntKind.i64.wrap (y3+(1:Int)))))] 3 fun b6 c6 =>
 .call false 168 [Sc.val .l (x1),.slice (some { block:=b6,off:=(0:Nat):Addr }) ((1:Nat)) (c6)] (.v (.o (.l))) fun y7 =>
 .lp [.o (.o (.l))] [.v (Sc.val .l (y5))] fun y8 =>
 .br (decide ((↑y8.1.n:Int)≤(↑x0.n:Int))) (
  .rq ([Value.int IntKind.i64 (0:Int)].length=(1:Nat)*(1:Nat)) <|
  .rq (one [Value.int IntKind.i64 (0:Int)]=true) <|
  .ap ({ a:=y8.1.1,n:=y8.1.n,c:=y8.1.c:SlV }) 1 8 [.int .i64 ((0:Int))] ((1:Nat)) 3 fun y9 =>
  .nx 0 [.v (Sc.val .l (y9))]) <|
 .rq ((0:Int)≤IntKind.i64.wrap ((↑y8.1.n:Int)-(↑y7.n:Int))∧IntKind.i64.wrap ((↑y8.1.n:Int)-(↑y7.n:Int))≤IntKind.i64.wrap ((↑y8.1.n:Int)-(↑y7.n:Int))∧(↑(8:Nat):Int)*IntKind.i64.wrap ((↑y8.1.n:Int)-(↑y7.n:Int))≤(281474976710656:Int)∧IntKind.i64.wrap ((↑y8.1.n:Int)-(↑y7.n:Int))≤(9223372036854775807:Int)) <|
 .lp [.a 3,.o (.o (.i .i64))] [.a 3 ((IntKind.i64.wrap ((↑y8.1.n:Int)-(↑y7.n:Int))).toNat) ((madeCells { toList:=[Value.int IntKind.i64 (0:Int)]:Array Value } ((IntKind.i64.wrap ((↑y8.1.n:Int)-(↑y7.n:Int))).toNat*(1:Nat))).toList),.v (.int .i64 (IntKind.i64.wrap ((↑(IntKind.i64.wrap ((↑y8.1.n:Int)-(↑y7.n:Int))).toNat:Int)-(1:Int))))] fun y9 =>
 .br (decide (y9.2.1≥(0:Int))) (
  .rq ((0:Int)≤y9.2.1∧y9.2.1≤IntKind.i64.wrap (IntKind.i64.wrap (y9.2.1+(↑y7.n:Int))+(1:Int))∧IntKind.i64.wrap (IntKind.i64.wrap (y9.2.1+(↑y7.n:Int))+(1:Int))≤(↑y8.1.c:Int)∧(↑y8.1.c:Int)≤(↑y8.1.c:Int)) <|
  .call false 169 [.slice (if (↑y8.1.c:Int).toNat=Int.toNat y9.2.1 then y8.1.1 else Option.map (fun x=>x.add (Int.toNat y9.2.1*Proofs.Tryz.prog.types[(3:Nat)].size)) y8.1.1) ((IntKind.i64.wrap (IntKind.i64.wrap (y9.2.1+(↑y7.n:Int))+(1:Int))).toNat-Int.toNat y9.2.1) ((↑y8.1.c:Int).toNat-Int.toNat y9.2.1),Sc.val .l (y7)] (.v (.o (.i .i64))) fun y10 =>
  .rq ((0:Int)≤y9.2.1∧y9.2.1<(↑y9.1.1:Int)) <|
  .rq (Int.toNat y9.2.1*(1:Nat)+[Value.int IntKind.i64 y10].length≤y9.1.2.length) <|
  .nx 1 [.a 3 (y9.1.1) (setl y9.1.2 (Int.toNat y9.2.1*(1:Nat)) [Value.int IntKind.i64 y10]),.v (.int .i64 (IntKind.i64.wrap (y9.2.1-(1:Int))))]) <|
 .call false 170 [Sc.val .l (y8.1)] (.v (.o (.l))) fun y10 =>
 .call false 166 [Sc.val .l (y10),.int .i64 (IntKind.i64.wrap (Int.tdiv (1000000000:Int) (IntKind.i64.wrap (y3+(1:Int)))))] (.t [(.o (.l)),(.o (.i .i64))]) fun y11 =>
 .fz (y9.1.1) (y9.1.2) 3 fun b12 c12 =>
 .call false 170 [.slice (some { block:=b12,off:=(0:Nat):Addr }) (y9.1.1) (c12)] (.v (.o (.l))) fun y13 =>
 .ret [Sc.val .l (y13),Sc.val .l (y11.1)]
theorem fI_natDiv (x0:SlV) (x1:SlV):fits Tryz.prog aI_natDiv 162 [Sc.val .l (x0),Sc.val .l (x1)] (tI_natDiv x0 x1) :=
 fitK (by kernel_rfl)
def aI_isScale:An:=⟨[],[],[]⟩
noncomputable def tI_isScale (x0:Int):T :=
 .br (decide (x0≥(0:Int))) (
  .ret [.bool (decide (x0≤(30:Int)))]) <|
 .ret [.bool (false)]
theorem fI_isScale (x0:Int):fits Tryz.prog aI_isScale 163 [.int .i64 (x0)] (tI_isScale x0) :=
 fitK (by kernel_rfl)
def aI_natCmp:An:=⟨[(6,[.s 5],[.o (.o (.i .i64))])],[],[]⟩
noncomputable def tI_natCmp (x0:SlV) (x1:SlV):T :=
 .br ((↑x0.n:Int) != (↑x1.n:Int)) (
  .br (decide ((↑x0.n:Int)<(↑x1.n:Int))) (
   .ret [.int .i64 ((-1:Int))]) <|
  .ret [.int .i64 ((1:Int))]) <|
 .lp [.o (.o (.i .i64))] [.v (.int .i64 (IntKind.i64.wrap ((↑x0.n:Int)-(1:Int))))] fun y1 =>
 .br (decide (y1.1≥(0:Int))) (
  .rg <|
  .el (x0.1) (x0.n) (y1.1) fun y2 =>
  .ld true (y2.add (Int.toNat y1.1*(1:Nat))) (.o (.i .i64)) fun y3 =>
  .el (x1.1) (x1.n) (y1.1) fun y4 =>
  .ld true (y4.add (Int.toNat y1.1*(1:Nat))) (.o (.i .i64)) fun y5 =>
  .br (y3 != y5) (
   .rg <|
   .el (x0.1) (x0.n) (y1.1) fun y6 =>
   .ld true (y6.add (Int.toNat y1.1*(1:Nat))) (.o (.i .i64)) fun y7 =>
   .el (x1.1) (x1.n) (y1.1) fun y8 =>
   .ld true (y8.add (Int.toNat y1.1*(1:Nat))) (.o (.i .i64)) fun y9 =>
   .br (decide (y7<y9)) (
    .ret [.int .i64 ((-1:Int))]) <|
   .ret [.int .i64 ((1:Int))]) <|
  .nx 0 [.v (.int .i64 (IntKind.i64.wrap (y1.1-(1:Int))))]) <|
 .ret [.int .i64 ((0:Int))]
theorem fI_natCmp (x0:SlV) (x1:SlV):fits Tryz.prog aI_natCmp 165 [Sc.val .l (x0),Sc.val .l (x1)] (tI_natCmp x0 x1) :=
 fitK (by kernel_rfl)
def aI_natSmall:An:=⟨[(4,[.s 6,.s 7,.s 8],[.a 3,.o (.o (.i .i64)),.o (.o (.i .i64))])],[],[]⟩
noncomputable def tI_natSmall (x0:SlV) (x1:Int):T :=
 .rq ((0:Int)≤(↑x0.n:Int)∧(↑x0.n:Int)≤(↑x0.n:Int)∧(↑(8:Nat):Int)*(↑x0.n:Int)≤(281474976710656:Int)∧(↑x0.n:Int)≤(9223372036854775807:Int)) <|
 .lp [.a 3,.o (.o (.i .i64)),.o (.o (.i .i64))] [.a 3 ((↑x0.n:Int).toNat) ((madeCells { toList:=[Value.int IntKind.i64 (0:Int)]:Array Value } ((↑x0.n:Int).toNat*(1:Nat))).toList),.v (.int .i64 ((0:Int))),.v (.int .i64 (IntKind.i64.wrap ((↑x0.n:Int)-(1:Int))))] fun y1 =>
 .br (decide (y1.2.2.1≥(0:Int))) (
  .el (x0.1) (x0.n) (y1.2.2.1) fun y2 =>
  .ld false (y2.add (Int.toNat y1.2.2.1*(1:Nat))) (.o (.i .i64)) fun y3 =>
  .rq (x1≠(0:Int)) <|
  .rq ((0:Int)≤y1.2.2.1∧y1.2.2.1<(↑y1.1.1:Int)) <|
  .rq (Int.toNat y1.2.2.1*(1:Nat)+[Value.int IntKind.i64 (IntKind.i64.wrap ((IntKind.i64.wrap (IntKind.i64.wrap (y1.2.1*(1000000000:Int))+y3)).tdiv x1))].length≤y1.1.2.length) <|
  .rq (x1≠(0:Int)) <|
  .nx 0 [.a 3 (y1.1.1) (setl y1.1.2 (Int.toNat y1.2.2.1*(1:Nat)) [Value.int IntKind.i64 (IntKind.i64.wrap ((IntKind.i64.wrap (IntKind.i64.wrap (y1.2.1*(1000000000:Int))+y3)).tdiv x1))]),.v (.int .i64 ((IntKind.i64.wrap (IntKind.i64.wrap (y1.2.1*(1000000000:Int))+y3)).tmod x1)),.v (.int .i64 (IntKind.i64.wrap (y1.2.2.1-(1:Int))))]) <|
 .fz (y1.1.1) (y1.1.2) 3 fun b2 c2 =>
 .call false 170 [.slice (some { block:=b2,off:=(0:Nat):Addr }) (y1.1.1) (c2)] (.v (.o (.l))) fun y3 =>
 .ret [Sc.val .l (y3),.int .i64 (y1.2.1)]
theorem fI_natSmall (x0:SlV) (x1:Int):fits Tryz.prog aI_natSmall 166 [Sc.val .l (x0),.int .i64 (x1)] (tI_natSmall x0 x1) :=
 fitK (by kernel_rfl)
def aI_NatOf:An:=⟨[],[],[]⟩
noncomputable def tI_NatOf (x0:Int):T :=
 .br (decide (x0<(0:Int))) (
  .ret [.slice (none) ((0:Nat)) ((0:Nat))]) <|
 .call false 171 [.int .u64 (IntKind.u64.wrap x0)] (.v (.o (.l))) fun y1 =>
 .ret [Sc.val .l (y1)]
theorem fI_NatOf (x0:Int):fits Tryz.prog aI_NatOf 167 [.int .i64 (x0)] (tI_NatOf x0) :=
 fitK (by kernel_rfl)
def aI_natMul:An:=⟨[(3,[.s 5,.s 21],[.a 3,.o (.o (.i .i64))]),(7,[.s 5,.s 8,.s 28],[.a 3,.o (.o (.i .i64)),.o (.o (.i .i64))]),(14,[.s 5,.s 8,.s 11],[.a 3,.o (.o (.i .i64)),.o (.o (.i .i64))])],[],[]⟩
noncomputable def tI_natMul (x0:SlV) (x1:SlV):T :=
 .rq ((0:Int)≤IntKind.i64.wrap (IntKind.i64.wrap ((↑x0.n:Int)+(↑x1.n:Int))+(1:Int))∧IntKind.i64.wrap (IntKind.i64.wrap ((↑x0.n:Int)+(↑x1.n:Int))+(1:Int))≤IntKind.i64.wrap (IntKind.i64.wrap ((↑x0.n:Int)+(↑x1.n:Int))+(1:Int))∧(↑(8:Nat):Int)*IntKind.i64.wrap (IntKind.i64.wrap ((↑x0.n:Int)+(↑x1.n:Int))+(1:Int))≤(281474976710656:Int)∧IntKind.i64.wrap (IntKind.i64.wrap ((↑x0.n:Int)+(↑x1.n:Int))+(1:Int))≤(9223372036854775807:Int)) <|
 .lp [.a 3,.o (.o (.i .i64))] [.a 3 ((IntKind.i64.wrap (IntKind.i64.wrap ((↑x0.n:Int)+(↑x1.n:Int))+(1:Int))).toNat) ((madeCells { toList:=[Value.int IntKind.i64 (0:Int)]:Array Value } ((IntKind.i64.wrap (IntKind.i64.wrap ((↑x0.n:Int)+(↑x1.n:Int))+(1:Int))).toNat*(1:Nat))).toList),.v (.int .i64 ((0:Int)))] fun y1 =>
 .br (decide (y1.2.1<(↑x0.n:Int))) (
  .el (x0.1) (x0.n) (y1.2.1) fun y2 =>
  .ld false (y2.add (Int.toNat y1.2.1*(1:Nat))) (.o (.i .i64)) fun y3 =>
  .lp [.a 3,.o (.o (.i .i64)),.o (.o (.i .i64))] [.a 3 (y1.1.1) (y1.1.2),.v (.int .i64 ((0:Int))),.v (.int .i64 ((0:Int)))] fun y4 =>
  .br (decide (y4.2.2.1<(↑x1.n:Int))) (
   .el (x1.1) (x1.n) (y4.2.2.1) fun y5 =>
   .ld false (y5.add (Int.toNat y4.2.2.1*(1:Nat))) (.o (.i .i64)) fun y6 =>
   .rq ((0:Int)≤IntKind.i64.wrap (y1.2.1+y4.2.2.1)∧IntKind.i64.wrap (y1.2.1+y4.2.2.1)<(↑y4.1.1:Int)) <|
   .xs (y4.1.2) ((IntKind.i64.wrap (y1.2.1+y4.2.2.1)).toNat*(1:Nat)) (.o (.i .i64)) fun y7 =>
   .rq ((1000000000:Int)≠(0:Int)) <|
   .rq ((0:Int)≤IntKind.i64.wrap (y1.2.1+y4.2.2.1)∧IntKind.i64.wrap (y1.2.1+y4.2.2.1)<(↑y4.1.1:Int)) <|
   .rq ((IntKind.i64.wrap (y1.2.1+y4.2.2.1)).toNat*(1:Nat)+[Value.int IntKind.i64 ((IntKind.i64.wrap (y4.2.1+IntKind.i64.wrap (y7+IntKind.i64.wrap (y3*y6)))).tmod (1000000000:Int))].length≤y4.1.2.length) <|
   .rq ((1000000000:Int)≠(0:Int)) <|
   .nx 1 [.a 3 (y4.1.1) (setl y4.1.2 ((IntKind.i64.wrap (y1.2.1+y4.2.2.1)).toNat*(1:Nat)) [Value.int IntKind.i64 ((IntKind.i64.wrap (y4.2.1+IntKind.i64.wrap (y7+IntKind.i64.wrap (y3*y6)))).tmod (1000000000:Int))]),.v (.int .i64 (IntKind.i64.wrap ((IntKind.i64.wrap (y4.2.1+IntKind.i64.wrap (y7+IntKind.i64.wrap (y3*y6)))).tdiv (1000000000:Int)))),.v (.int .i64 (IntKind.i64.wrap (y4.2.2.1+(1:Int))))]) <|
  .lp [.a 3,.o (.o (.i .i64)),.o (.o (.i .i64))] [.a 3 (y4.1.1) (y4.1.2),.v (.int .i64 (y4.2.1)),.v (.int .i64 (IntKind.i64.wrap (y1.2.1+(↑x1.n:Int))))] fun y5 =>
  .br (decide (y5.2.1 > (0:Int))) (
   .rq ((0:Int)≤y5.2.2.1∧y5.2.2.1<(↑y5.1.1:Int)) <|
   .xs (y5.1.2) (Int.toNat y5.2.2.1*(1:Nat)) (.o (.i .i64)) fun y6 =>
   .rq ((1000000000:Int)≠(0:Int)) <|
   .rq ((0:Int)≤y5.2.2.1∧y5.2.2.1<(↑y5.1.1:Int)) <|
   .rq (Int.toNat y5.2.2.1*(1:Nat)+[Value.int IntKind.i64 ((IntKind.i64.wrap (y5.2.1+y6)).tmod (1000000000:Int))].length≤y5.1.2.length) <|
   .rq ((1000000000:Int)≠(0:Int)) <|
   .nx 2 [.a 3 (y5.1.1) (setl y5.1.2 (Int.toNat y5.2.2.1*(1:Nat)) [Value.int IntKind.i64 ((IntKind.i64.wrap (y5.2.1+y6)).tmod (1000000000:Int))]),.v (.int .i64 (IntKind.i64.wrap ((IntKind.i64.wrap (y5.2.1+y6)).tdiv (1000000000:Int)))),.v (.int .i64 (IntKind.i64.wrap (y5.2.2.1+(1:Int))))]) <|
  .nx 0 [.a 3 (y5.1.1) (y5.1.2),.v (.int .i64 (IntKind.i64.wrap (y1.2.1+(1:Int))))]) <|
 .fz (y1.1.1) (y1.1.2) 3 fun b2 c2 =>
 .call false 170 [.slice (some { block:=b2,off:=(0:Nat):Addr }) (y1.1.1) (c2)] (.v (.o (.l))) fun y3 =>
 .ret [Sc.val .l (y3)]
theorem fI_natMul (x0:SlV) (x1:SlV):fits Tryz.prog aI_natMul 168 [Sc.val .l (x0),Sc.val .l (x1)] (tI_natMul x0 x1) :=
 fitK (by kernel_rfl)
def aI_divStep:An:=⟨[(4,[.s 7],[.o (.o (.i .i64))])],[],[]⟩
noncomputable def tI_divStep (x0:SlV) (x1:SlV):T :=
 .rg <|
 .el (x0.1) (x0.n) ((↑x1.n:Int)) fun y1 =>
 .ld true (y1.add ((↑x1.n:Int).toNat*(1:Nat))) (.o (.i .i64)) fun y2 =>
 .el (x0.1) (x0.n) (IntKind.i64.wrap ((↑x1.n:Int)-(1:Int))) fun y3 =>
 .ld true (y3.add ((IntKind.i64.wrap ((↑x1.n:Int)-(1:Int))).toNat*(1:Nat))) (.o (.i .i64)) fun y4 =>
 .el (x1.1) (x1.n) (IntKind.i64.wrap ((↑x1.n:Int)-(1:Int))) fun y5 =>
 .ld false (y5.add ((IntKind.i64.wrap ((↑x1.n:Int)-(1:Int))).toNat*(1:Nat))) (.o (.i .i64)) fun y6 =>
 .rq (y6≠(0:Int)) <|
 .lp [.o (.o (.i .i64))] [.v (.int .i64 (if (999999999:Int)<IntKind.i64.wrap ((IntKind.i64.wrap (IntKind.i64.wrap (y2*(1000000000:Int))+y4)).tdiv y6) then (999999999:Int) else IntKind.i64.wrap ((IntKind.i64.wrap (IntKind.i64.wrap (y2*(1000000000:Int))+y4)).tdiv y6)))] fun y7 =>
 .rg <|
 .br (decide (y7.1 > (0:Int))) (
  .el (x1.1) (x1.n) (IntKind.i64.wrap ((↑x1.n:Int)-(1:Int))) fun y8 =>
  .ld true (y8.add ((IntKind.i64.wrap ((↑x1.n:Int)-(1:Int))).toNat*(1:Nat))) (.o (.i .i64)) fun y9 =>
  .br (decide (IntKind.i64.wrap (IntKind.i64.wrap (IntKind.i64.wrap (y2*(1000000000:Int))+y4)-IntKind.i64.wrap (y7.1*y9))<(1000000000:Int))) (
   .el (x1.1) (x1.n) (IntKind.i64.wrap ((↑x1.n:Int)-(2:Int))) fun y10 =>
   .ld true (y10.add ((IntKind.i64.wrap ((↑x1.n:Int)-(2:Int))).toNat*(1:Nat))) (.o (.i .i64)) fun y11 =>
   .el (x1.1) (x1.n) (IntKind.i64.wrap ((↑x1.n:Int)-(1:Int))) fun y12 =>
   .ld true (y12.add ((IntKind.i64.wrap ((↑x1.n:Int)-(1:Int))).toNat*(1:Nat))) (.o (.i .i64)) fun y13 =>
   .el (x0.1) (x0.n) (IntKind.i64.wrap ((↑x1.n:Int)-(2:Int))) fun y14 =>
   .ld true (y14.add ((IntKind.i64.wrap ((↑x1.n:Int)-(2:Int))).toNat*(1:Nat))) (.o (.i .i64)) fun y15 =>
   .br (decide (IntKind.i64.wrap (y7.1*y11) > IntKind.i64.wrap (IntKind.i64.wrap (IntKind.i64.wrap (IntKind.i64.wrap (IntKind.i64.wrap (y2*(1000000000:Int))+y4)-IntKind.i64.wrap (y7.1*y13))*(1000000000:Int))+y15))) (
    .nx 0 [.v (.int .i64 (IntKind.i64.wrap (y7.1-(1:Int))))]) <|
   .call false 172 [Sc.val .l (x0),Sc.val .l (x1),.int .i64 (y7.1)] (.v (.o (.b))) fun y16 =>
   .br (y16) (
    .call false 173 [Sc.val .l (x0),Sc.val .l (x1)] (.t []) fun _ =>
    .ret [.int .i64 (IntKind.i64.wrap (y7.1-(1:Int)))]) <|
   .ret [.int .i64 (y7.1)]) <|
  .call false 172 [Sc.val .l (x0),Sc.val .l (x1),.int .i64 (y7.1)] (.v (.o (.b))) fun y10 =>
  .br (y10) (
   .call false 173 [Sc.val .l (x0),Sc.val .l (x1)] (.t []) fun _ =>
   .ret [.int .i64 (IntKind.i64.wrap (y7.1-(1:Int)))]) <|
  .ret [.int .i64 (y7.1)]) <|
 .call false 172 [Sc.val .l (x0),Sc.val .l (x1),.int .i64 (y7.1)] (.v (.o (.b))) fun y8 =>
 .br (y8) (
  .call false 173 [Sc.val .l (x0),Sc.val .l (x1)] (.t []) fun _ =>
  .ret [.int .i64 (IntKind.i64.wrap (y7.1-(1:Int)))]) <|
 .ret [.int .i64 (y7.1)]
theorem fI_divStep (x0:SlV) (x1:SlV):fits Tryz.prog aI_divStep 169 [Sc.val .l (x0),Sc.val .l (x1)] (tI_divStep x0 x1) :=
 fitK (by kernel_rfl)
def aI_trim:An:=⟨[(1,[.s 0],[.o (.o (.l))])],[],[]⟩
noncomputable def tI_trim (x0:SlV):T :=
 .lp [.o (.o (.l))] [.v (Sc.val .l (x0))] fun y1 =>
 .br (decide ((↑y1.1.n:Int) > (0:Int))) (
  .el (y1.1.1) (y1.1.n) (IntKind.i64.wrap ((↑y1.1.n:Int)-(1:Int))) fun y2 =>
  .ld false (y2.add ((IntKind.i64.wrap ((↑y1.1.n:Int)-(1:Int))).toNat*(1:Nat))) (.o (.i .i64)) fun y3 =>
  .br (y3 == (0:Int)) (
   .rq ((0:Int)≤(0:Int)∧(0:Int)≤IntKind.i64.wrap ((↑y1.1.n:Int)-(1:Int))∧IntKind.i64.wrap ((↑y1.1.n:Int)-(1:Int))≤(↑y1.1.c:Int)∧(↑y1.1.c:Int)≤(↑y1.1.c:Int)) <|
   .nx 0 [.v (.slice (if (↑y1.1.c:Int).toNat=Int.toNat (0:Int) then y1.1.1 else Option.map (fun x=>x.add (Int.toNat (0:Int)*Proofs.Tryz.prog.types[(3:Nat)].size)) y1.1.1) ((IntKind.i64.wrap ((↑y1.1.n:Int)-(1:Int))).toNat-Int.toNat (0:Int)) ((↑y1.1.c:Int).toNat-Int.toNat (0:Int)))]) <|
  .ret [Sc.val .l (y1.1)]) <|
 .ret [Sc.val .l (y1.1)]
theorem fI_trim (x0:SlV):fits Tryz.prog aI_trim 170 [Sc.val .l (x0)] (tI_trim x0) :=
 fitK (by kernel_rfl)
def aI_natOf:An:=⟨[(2,[.s 0,.s 3],[.o (.o (.i .u64)),.a 3])],[],[]⟩
noncomputable def tI_natOf (x0:Int):T :=
 .lp [.o (.o (.i .u64)),.a 3] [.v (.int .u64 (x0)),.a 3 ((0:Nat)) []] fun y1 =>
 .br (decide (y1.1 > (0:Int))) (
  .rq ((1000000000:Int)≠(0:Int)) <|
  .rq ([Value.int IntKind.i64 (IntKind.i64.wrap (Int.tmod y1.1 (1000000000:Int)))].length=(1:Nat)*(1:Nat)) <|
  .rq (one [Value.int IntKind.i64 (IntKind.i64.wrap (Int.tmod y1.1 (1000000000:Int)))]=true∧(y1.2.1.1+(1:Nat))*(8:Nat)≤(140737488355328:Nat)∧y1.2.1.1+(1:Nat)≤(9223372036854775807:Nat)) <|
  .rq ((1000000000:Int)≠(0:Int)) <|
  .nx 0 [.v (.int .u64 (IntKind.u64.wrap (Int.tdiv y1.1 (1000000000:Int)))),.a 3 (y1.2.1.1+(1:Nat)) (y1.2.1.2++[Value.int IntKind.i64 (IntKind.i64.wrap (Int.tmod y1.1 (1000000000:Int)))])]) <|
 .fz (y1.2.1.1) (y1.2.1.2) 3 fun b2 c2 =>
 .ret [.slice (some { block:=b2,off:=(0:Nat):Addr }) (y1.2.1.1) (c2)]
theorem fI_natOf (x0:Int):fits Tryz.prog aI_natOf 171 [.int .u64 (x0)] (tI_natOf x0) :=
 fitK (by kernel_rfl)
def aI_subTimes:An:=⟨[(3,[.s 0,.s 7,.s 13],[.o (.o (.l)),.o (.o (.i .i64)),.o (.o (.i .i64))])],[],[]⟩
noncomputable def tI_subTimes (x0:SlV) (x1:SlV) (x2:Int):T :=
 .lp [.o (.o (.l)),.o (.o (.i .i64)),.o (.o (.i .i64))] [.v (Sc.val .l (x0)),.v (.int .i64 ((0:Int))),.v (.int .i64 ((0:Int)))] fun y1 =>
 .br (decide (y1.2.2.1<(↑x1.n:Int))) (
  .el (x1.1) (x1.n) (y1.2.2.1) fun y2 =>
  .ld false (y2.add (Int.toNat y1.2.2.1*(1:Nat))) (.o (.i .i64)) fun y3 =>
  .el (y1.1.1) (y1.1.n) (y1.2.2.1) fun y4 =>
  .ld false (y4.add (Int.toNat y1.2.2.1*(1:Nat))) (.o (.i .i64)) fun y5 =>
  .br (decide (IntKind.i64.wrap (IntKind.i64.wrap (y5-IntKind.i64.wrap (y3*x2))-y1.2.1)<(0:Int))) (
   .rq ((1000000000:Int)≠(0:Int)) <|
   .el (y1.1.1) (y1.1.n) (y1.2.2.1) fun y6 =>
   .st (y6.add (Int.toNat y1.2.2.1*(1:Nat))) [.int .i64 (IntKind.i64.wrap (IntKind.i64.wrap (IntKind.i64.wrap (y5-IntKind.i64.wrap (y3*x2))-y1.2.1)+IntKind.i64.wrap (IntKind.i64.wrap ((IntKind.i64.wrap (IntKind.i64.wrap (IntKind.i64.wrap ((0:Int)-IntKind.i64.wrap (IntKind.i64.wrap (y5-IntKind.i64.wrap (y3*x2))-y1.2.1))+(1000000000:Int))-(1:Int))).tdiv (1000000000:Int))*(1000000000:Int))))] <|
   .nx 0 [.v (Sc.val .l (y1.1)),.v (.int .i64 (IntKind.i64.wrap ((IntKind.i64.wrap (IntKind.i64.wrap (IntKind.i64.wrap ((0:Int)-IntKind.i64.wrap (IntKind.i64.wrap (y5-IntKind.i64.wrap (y3*x2))-y1.2.1))+(1000000000:Int))-(1:Int))).tdiv (1000000000:Int)))),.v (.int .i64 (IntKind.i64.wrap (y1.2.2.1+(1:Int))))]) <|
  .el (y1.1.1) (y1.1.n) (y1.2.2.1) fun y6 =>
  .st (y6.add (Int.toNat y1.2.2.1*(1:Nat))) [.int .i64 (IntKind.i64.wrap (IntKind.i64.wrap (y5-IntKind.i64.wrap (y3*x2))-y1.2.1))] <|
  .nx 0 [.v (Sc.val .l (y1.1)),.v (.int .i64 ((0:Int))),.v (.int .i64 (IntKind.i64.wrap (y1.2.2.1+(1:Int))))]) <|
 .el (y1.1.1) (y1.1.n) ((↑x1.n:Int)) fun y2 =>
 .ld false (y2.add ((↑x1.n:Int).toNat*(1:Nat))) (.o (.i .i64)) fun y3 =>
 .el (y1.1.1) (y1.1.n) ((↑x1.n:Int)) fun y4 =>
 .st (y4.add ((↑x1.n:Int).toNat*(1:Nat))) [.int .i64 (IntKind.i64.wrap (y3-y1.2.1))] <|
 .el (y1.1.1) (y1.1.n) ((↑x1.n:Int)) fun y5 =>
 .ld false (y5.add ((↑x1.n:Int).toNat*(1:Nat))) (.o (.i .i64)) fun y6 =>
 .ret [.bool (decide (y6<(0:Int)))]
theorem fI_subTimes (x0:SlV) (x1:SlV) (x2:Int):fits Tryz.prog aI_subTimes 172 [Sc.val .l (x0),Sc.val .l (x1),.int .i64 (x2)] (tI_subTimes x0 x1 x2) :=
 fitK (by kernel_rfl)
def aI_addBack:An:=⟨[(2,[.s 0,.s 4,.s 9],[.o (.o (.l)),.o (.o (.i .i64)),.o (.o (.i .i64))])],[],[]⟩
noncomputable def tI_addBack (x0:SlV) (x1:SlV):T :=
 .lp [.o (.o (.l)),.o (.o (.i .i64)),.o (.o (.i .i64))] [.v (Sc.val .l (x0)),.v (.int .i64 ((0:Int))),.v (.int .i64 ((0:Int)))] fun y1 =>
 .br (decide (y1.2.2.1<(↑x1.n:Int))) (
  .el (x1.1) (x1.n) (y1.2.2.1) fun y2 =>
  .ld false (y2.add (Int.toNat y1.2.2.1*(1:Nat))) (.o (.i .i64)) fun y3 =>
  .el (y1.1.1) (y1.1.n) (y1.2.2.1) fun y4 =>
  .ld false (y4.add (Int.toNat y1.2.2.1*(1:Nat))) (.o (.i .i64)) fun y5 =>
  .rq ((1000000000:Int)≠(0:Int)) <|
  .el (y1.1.1) (y1.1.n) (y1.2.2.1) fun y6 =>
  .st (y6.add (Int.toNat y1.2.2.1*(1:Nat))) [.int .i64 ((IntKind.i64.wrap (y1.2.1+IntKind.i64.wrap (y5+y3))).tmod (1000000000:Int))] <|
  .rq ((1000000000:Int)≠(0:Int)) <|
  .nx 0 [.v (Sc.val .l (y1.1)),.v (.int .i64 (IntKind.i64.wrap ((IntKind.i64.wrap (y1.2.1+IntKind.i64.wrap (y5+y3))).tdiv (1000000000:Int)))),.v (.int .i64 (IntKind.i64.wrap (y1.2.2.1+(1:Int))))]) <|
 .el (y1.1.1) (y1.1.n) ((↑x1.n:Int)) fun y2 =>
 .ld false (y2.add ((↑x1.n:Int).toNat*(1:Nat))) (.o (.i .i64)) fun y3 =>
 .el (y1.1.1) (y1.1.n) ((↑x1.n:Int)) fun y4 =>
 .st (y4.add ((↑x1.n:Int).toNat*(1:Nat))) [.int .i64 (IntKind.i64.wrap (y3+y1.2.1))] <|
 .ret []
theorem fI_addBack (x0:SlV) (x1:SlV):fits Tryz.prog aI_addBack 173 [Sc.val .l (x0),Sc.val .l (x1)] (tI_addBack x0 x1) :=
 fitK (by kernel_rfl)
def aI_opOpen__run:An:=⟨[],[],[]⟩
noncomputable def tI_opOpen__run (x0:ByteArray × ByteArray × PUnit) (x1:SlV × SlV × ByteArray × SlV × PUnit):T :=
 .call false 130 [.string (x0.1)] (.v (.o (.b))) fun y1 =>
 .br (!y1) (
  .ret [Sh1.val (.g [.l,.l,.s,.l]) (nilS,nilS,({ data:={ toList:=[]:Array UInt8 }:ByteArray }),nilS,()),.int .i64 ((1:Int))]) <|
 .call false 132 [.string (x0.2.1)] (.v (.o (.b))) fun y2 =>
 .br (!y2) (
  .ret [Sh1.val (.g [.l,.l,.s,.l]) (nilS,nilS,({ data:={ toList:=[]:Array UInt8 }:ByteArray }),nilS,()),.int .i64 ((2:Int))]) <|
 .call false 191 [Sh1.val (.g [.l]) (x1.1,()),.string (x0.1)] (.v (.o (.i .i64))) fun y3 =>
 .br (decide (y3≥(0:Int))) (
  .ret [Sh1.val (.g [.l,.l,.s,.l]) (nilS,nilS,({ data:={ toList:=[]:Array UInt8 }:ByteArray }),nilS,()),.int .i64 ((4:Int))]) <|
 .call false 192 [Sh1.val (.g [.l]) (x1.1,()),.string (x0.1),.string (x0.2.1)] (.t [(.g [.l]),(.o (.b))]) fun y4 =>
 .br (!y4.2.1) (
  .ret [Sh1.val (.g [.l,.l,.s,.l]) (nilS,nilS,({ data:={ toList:=[]:Array UInt8 }:ByteArray }),nilS,()),.int .i64 ((9:Int))]) <|
 .ret [Sh1.val (.g [.l,.l,.s,.l]) (y4.1.1,x1.2.1,(x1.2.2.1),x1.2.2.2.1,()),.int .i64 ((0:Int))]
theorem fI_opOpen__run (x0:ByteArray × ByteArray × PUnit) (x1:SlV × SlV × ByteArray × SlV × PUnit):fits Tryz.prog aI_opOpen__run 190 [Sh1.val (.g [.s,.s]) (x0),Sh1.val (.g [.l,.l,.s,.l]) (x1)] (tI_opOpen__run x0 x1) :=
 fitK (by kernel_rfl)
def aI_AcctAt:An:=⟨[],[],[]⟩
noncomputable def tI_AcctAt (x0:SlV × PUnit) (x1:ByteArray):T :=
 .es [.string (x1)] 9 fun b1 =>
 .call false 193 [Sc.val .l (x0.1),(Value.func (Fn.func (194:Nat)) { toList:=[]:Array Value } { toList:=[Value.pointer (some { block:=b1,off:=(0:Nat):Addr })]:Array Value })] (.v (.o (.i .i64))) fun y2 =>
 .ret [.int .i64 (y2)]
theorem fI_AcctAt (x0:SlV × PUnit) (x1:ByteArray):fits Tryz.prog aI_AcctAt 191 [Sh1.val (.g [.l]) (x0),.string (x1)] (tI_AcctAt x0 x1) :=
 fitK (by kernel_rfl)
def aI_BookOpen:An:=⟨[],[],[]⟩
noncomputable def tI_BookOpen (x0:SlV × PUnit) (x1:ByteArray) (x2:ByteArray):T :=
 .call false 112 [Sh1.val (.g [.l]) (x0)] (.v (.o (.b))) fun y1 =>
 .br (!y1) (
  .ret [Sh1.val (.g [.l]) (nilS,()),.bool (false)]) <|
 .call false 191 [Sh1.val (.g [.l]) (x0),.string (x1)] (.v (.o (.i .i64))) fun y2 =>
 .br (decide (y2≥(0:Int))) (
  .ret [Sh1.val (.g [.l]) (nilS,()),.bool (false)]) <|
 .es [.string (x1)] 9 fun b3 =>
 .es [.string (x2)] 9 fun b4 =>
 .call false 195 [Sh1.val (.g [.l]) (x0),(Value.func (Fn.func (196:Nat)) { toList:=[]:Array Value } { toList:=[Value.pointer (some { block:=b3,off:=(0:Nat):Addr }),Value.pointer (some { block:=b4,off:=(0:Nat):Addr })]:Array Value })] (.t [(.g [.l]),(.o (.b))]) fun y5 =>
 .ret [Sh1.val (.g [.l]) (y5.1),.bool (y5.2.1)]
theorem fI_BookOpen (x0:SlV × PUnit) (x1:ByteArray) (x2:ByteArray):fits Tryz.prog aI_BookOpen 192 [Sh1.val (.g [.l]) (x0),.string (x1),.string (x2)] (tI_BookOpen x0 x1 x2) :=
 fitK (by kernel_rfl)
def aX_IndexFunc_Acct:An:=⟨[(2,[.s 8],[.o (.o (.i .i64))])],[],[]⟩
noncomputable def tX_IndexFunc_Acct (x0:SlV) (x1:Nat × Addr):T :=
 .lp [.o (.o (.i .i64))] [.v (.int .i64 ((0:Int)))] fun y1 =>
 .br (decide (y1.1<(↑x0.n:Int))) (
  .el (x0.1) (x0.n) (y1.1) fun y2 =>
  .ld false (y2.add (Int.toNat y1.1*(4:Nat))) (.g [.s,.s,.b,.l]) fun y3 =>
  .call false (x1.1) [Sh1.val (.g [.s,.s,.b,.l]) (y3),.pointer (some x1.2)] (.v (.o (.b))) fun y4 =>
  .br (y4) (
   .ret [.int .i64 (y1.1)]) <|
  .nx 0 [.v (.int .i64 (IntKind.i64.wrap (y1.1+(1:Int))))]) <|
 .ret [.int .i64 ((-1:Int))]
theorem fX_IndexFunc_Acct (x0:SlV) (x1:Nat × Addr):fits Tryz.prog aX_IndexFunc_Acct 193 [Sc.val .l (x0),(Value.func (Fn.func x1.1) { toList:=[]:Array Value } { toList:=[Value.pointer (some x1.2)]:Array Value })] (tX_IndexFunc_Acct x0 x1) :=
 fitK (by kernel_rfl)
def aI_AcctAt_1:An:=⟨[],[],[]⟩
noncomputable def tI_AcctAt_1 (x0:ByteArray × ByteArray × Bool × SlV × PUnit) (x1:Addr):T :=
 .ld false (x1) (.o (.s)) fun y1 =>
 .ret [.bool (ByteArray.toList x0.1 == y1.toList)]
theorem fI_AcctAt_1 (x0:ByteArray × ByteArray × Bool × SlV × PUnit) (x1:Addr):fits Tryz.prog aI_AcctAt_1 194 [Sh1.val (.g [.s,.s,.b,.l]) (x0),.pointer (some x1)] (tI_AcctAt_1 x0 x1) :=
 fitK (by kernel_rfl)
def aI_changed:An:=⟨[],[],[]⟩
noncomputable def tI_changed (x0:SlV × PUnit) (x1:{ y // one [y]=true }):T :=
 .call false 115 [Sh1.val (.g [.l]) (x0)] (.v (.g [.l])) fun y1 =>
 .es [.int .i32 ((0:Int)),.int .u32 ((0:Int)),Sc.val .l (y1.1)] 241 fun b2 =>
 .call false 198 [.pointer (some { block:=b2,off:=(0:Nat):Addr }),(x1.1)] (.v (.o (.b))) fun y3 =>
 .br (!y3) (
  .ret [Sh1.val (.g [.l]) (nilS,()),.bool (false)]) <|
 .ld false ({ block:=b2,off:=(0:Nat):Addr }.add (2:Nat)) (.g [.l]) fun y4 =>
 .ret [Sh1.val (.g [.l]) (y4),.bool (true)]
theorem fI_changed (x0:SlV × PUnit) (x1:{ y // one [y]=true }):fits Tryz.prog aI_changed 195 [Sh1.val (.g [.l]) (x0),(x1.1)] (tI_changed x0 x1) :=
 fitK (by kernel_rfl)
def aI_BookOpen_1:An:=⟨[(2,[.s 5],[.o (.o (.i .i64))])],[],[]⟩
noncomputable def tI_BookOpen_1 (x0:Addr) (x1:Addr) (x2:Addr):T :=
 .lp [.o (.o (.i .i64))] [.v (.int .i64 ((0:Int)))] fun y1 =>
 .rg <|
 .ld true (x0.add (0:Nat)) (.o (.l)) fun y2 =>
 .br (decide (y1.1<(↑y2.n:Int))) (
  .ld true (x0.add (0:Nat)) (.o (.l)) fun y3 =>
  .el (y3.1) (y3.n) (y1.1) fun y4 =>
  .ld true ((y4.add (Int.toNat y1.1*(4:Nat))).add (0:Nat)) (.o (.s)) fun y5 =>
  .ld true (x1) (.o (.s)) fun y6 =>
  .br (Op.bytesLess y5.toList y6.toList) (
   .nx 0 [.v (.int .i64 (IntKind.i64.wrap (y1.1+(1:Int))))]) <|
  .rg <|
  .ld true (x0.add (0:Nat)) (.o (.l)) fun y7 =>
  .ld true (x1) (.o (.s)) fun y8 =>
  .ld true (x2) (.o (.s)) fun y9 =>
  .es [.string (y8),.string (y9),.bool (false),.slice (none) ((0:Nat)) ((0:Nat))] 135 fun b10 =>
  .call false 197 [Sc.val .l (y7),.int .i64 (y1.1),.slice (some { block:=b10,off:=(0:Nat):Addr }) ((1:Nat)) ((1:Nat))] (.v (.o (.l))) fun y11 =>
  .st (x0.add (0:Nat)) [Sc.val .l (y11)] <|
  .ld false (x0) (.g [.l]) fun y12 =>
  .call false 112 [Sh1.val (.g [.l]) (y12)] (.v (.o (.b))) fun y13 =>
  .ret [.bool (y13)]) <|
 .rg <|
 .ld true (x0.add (0:Nat)) (.o (.l)) fun y3 =>
 .ld true (x1) (.o (.s)) fun y4 =>
 .ld true (x2) (.o (.s)) fun y5 =>
 .es [.string (y4),.string (y5),.bool (false),.slice (none) ((0:Nat)) ((0:Nat))] 135 fun b6 =>
 .call false 197 [Sc.val .l (y3),.int .i64 (y1.1),.slice (some { block:=b6,off:=(0:Nat):Addr }) ((1:Nat)) ((1:Nat))] (.v (.o (.l))) fun y7 =>
 .st (x0.add (0:Nat)) [Sc.val .l (y7)] <|
 .ld false (x0) (.g [.l]) fun y8 =>
 .call false 112 [Sh1.val (.g [.l]) (y8)] (.v (.o (.b))) fun y9 =>
 .ret [.bool (y9)]
theorem fI_BookOpen_1 (x0:Addr) (x1:Addr) (x2:Addr):fits Tryz.prog aI_BookOpen_1 196 [.pointer (some x0),.pointer (some x1),.pointer (some x2)] (tI_BookOpen_1 x0 x1 x2) :=
 fitK (by kernel_rfl)
end Go.Proofs.YtccnjccabllcaaaGreatDoor
