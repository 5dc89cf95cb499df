/-
  What each function of the seat comes to, as a tree; each tree is checked against the code.
-/
import Derived.Test.YtceoihhldnnenaaGreatDoorTA
namespace Go.Proofs.YtceoihhldnnenaaGreatDoor
open Sx
set_option maxRecDepth 100000
noncomputable section
def aS_l03Div:An:=⟨[(7,[.s 8,.s 9,.s 10],[.a 3,.o (.o (.l)),.o (.o (.i .i64))])],[],[]⟩
def tS_l03Div (x0:SlV) (x1:SlV):T :=
 .br ((↑x1.n:Int) == (1:Int)) (
  .el x1.1 (x1.n) ((0:Int)) fun y1 =>
  .ql14 (y1.add (Int.toNat (0:Int)*(1:Nat))) fun y2 =>
  .qc47 181 [Sc.val .l x0,.int .i64 y2] fun y3 =>
  .qc10 136 [.int .i64 y3.2.1] fun y4 =>
  .ret [Sc.val .l y3.1,Sc.val .l y4]) <|
 .rq ((0:Int)≤(↑x0.n:Int)∧(↑x0.n:Int)≤(↑x0.n:Int)∧(↑(8:Nat):Int)*(↑x0.n:Int)≤(281474976710656:Int)∧(↑x0.n:Int)≤(9223372036854775807:Int)) <|
 .fz ((0:Nat)) [] 3 fun b1 c1 =>
 .lp [.a 3,.o (.o (.l)),.o (.o (.i .i64))] [.a 3 ((↑x0.n:Int).toNat) ((madeCells { toList:=[Value.int IntKind.i64 (0:Int)]:Array Value } ((↑x0.n:Int).toNat*(1:Nat))).toList),.v (.slice (some { block:=b1,off:=(0:Nat):Addr }) ((0:Nat)) (c1)),.v (.int .i64 (IntKind.i64.wrap ((↑x0.n:Int)-(1:Int))))] fun y2 =>
 .br (decide (y2.2.2.1≥(0:Int))) (
  .el x0.1 (x0.n) y2.2.2.1 fun y3 =>
  .ql14 (y3.add (Int.toNat y2.2.2.1*(1:Nat))) fun y4 =>
  .rd ({ a:=y2.2.1.1,n:=y2.2.1.n,c:=y2.2.1.c:SlV }) ((1:Nat)) fun y5 =>
  .rq (one y5=true∧((1:Nat)+y2.2.1.n)*(8:Nat)≤(140737488355328:Nat)∧(1:Nat)+y2.2.1.n≤(9223372036854775807:Nat)) <|
 .fz ((1:Nat)+y2.2.1.n) ([Value.int IntKind.i64 y4]++y5) 3 fun b6 c6 =>
  .qc10 178 [.slice (some { block:=b6,off:=(0:Nat):Addr }) ((1:Nat)+y2.2.1.n) (c6)] fun y7 =>
  .qc0 142 [Sc.val .l y7,Sc.val .l x1] fun y8 =>
  .br (decide (y8<(0:Int))) (
   .nx 0 [.a 3 y2.1.1 y2.1.2,.v (Sc.val .l y7),.v (.int .i64 (IntKind.i64.wrap (y2.2.2.1-(1:Int))))]) <|
 .qc0 182 [Sc.val .l y7,Sc.val .l x1] fun y9 =>
  .rq ((0:Int)≤y2.2.2.1∧y2.2.2.1<(↑y2.1.1:Int)) <|
 .rq (Int.toNat y2.2.2.1*(1:Nat)+[Value.int IntKind.i64 y9].length≤y2.1.2.length) <|
 .qc10 136 [.int .i64 y9] fun y10 =>
  .qc10 137 [Sc.val .l x1,Sc.val .l y10] fun y11 =>
  .qc10 143 [Sc.val .l y7,Sc.val .l y11] fun y12 =>
  .nx 0 [.a 3 y2.1.1 (setl y2.1.2 (Int.toNat y2.2.2.1*(1:Nat)) [Value.int IntKind.i64 y9]),.v (Sc.val .l y12),.v (.int .i64 (IntKind.i64.wrap (y2.2.2.1-(1:Int))))]) <|
 .fz y2.1.1 y2.1.2 3 fun b3 c3 =>
 .qc10 178 [.slice (some { block:=b3,off:=(0:Nat):Addr }) y2.1.1 (c3)] fun y4 =>
 .ret [Sc.val .l y4,Sc.val .l y2.2.1]
theorem fS_l03Div x0 x1:qft aS_l03Div 138 [Sc.val .l x0,Sc.val .l x1] (tS_l03Div x0 x1) :=fitK (by kernel_rfl)
def tS_l06Away (x0:Bool) (x1:SlV) (x2:SlV) (x3:SlV) (x4:Int):T :=
 .qc10 140 [Sc.val .l x2,Sc.val .l x2] fun y1 =>
 .qc0 142 [Sc.val .l y1,Sc.val .l x3] fun y2 =>
 .br (x4 == (0:Int)) (
  .rF) <|
 .br (x4 == (1:Int)) (
  .rT) <|
 .br (x4 == (2:Int)) (
  .ret [.bool x0]) <|
 .br (x4 == (3:Int)) (
  .ret [.bool (!x0)]) <|
 .br (x4 == (4:Int)) (
  .ret [.bool (decide (y2 > (0:Int)))]) <|
 .br (x4 == (5:Int)) (
  .ret [.bool (decide (y2≥(0:Int)))]) <|
 .br (decide (y2 > (0:Int))) (
  .rT) <|
 .br (y2 == (0:Int)) (
  .qc7 183 [Sc.val .l x1] fun y3 =>
  .ret [.bool (!y3)]) <|
 .rF
theorem fS_l06Away x0 x1 x2 x3 x4:qft qa0 139 [.bool x0,Sc.val .l x1,Sc.val .l x2,Sc.val .l x3,.int .i64 x4] (tS_l06Away x0 x1 x2 x3 x4) :=fitK (by kernel_rfl)
def aS_l02Add:An:=⟨[(4,[.s 5,.s 6,.s 7],[.a 3,.o (.o (.i .i64)),.o (.o (.i .i64))])],[],[]⟩
def tS_l02Add (x0:SlV) (x1:SlV):T :=
 .lp [.a 3,.o (.o (.i .i64)),.o (.o (.i .i64))] [.a 3 ((0:Nat)) [],.v (.int .i64 0),.v (.int .i64 0)] fun y1 =>
 .br (decide (y1.2.2.1<(↑x0.n:Int))) (
  .br (decide (y1.2.2.1<(↑x0.n:Int))) (
   .el x0.1 (x0.n) y1.2.2.1 fun y2 =>
   .ql14 (y2.add (Int.toNat y1.2.2.1*(1:Nat))) fun y3 =>
   .br (decide (y1.2.2.1<(↑x1.n:Int))) (
    .el x1.1 (x1.n) y1.2.2.1 fun y4 =>
    .ql14 (y4.add (Int.toNat y1.2.2.1*(1:Nat))) fun y5 =>
    .rq ((1000000000:Int)≠(0:Int)) <|
 .rq ([Value.int IntKind.i64 ((IntKind.i64.wrap (IntKind.i64.wrap (y1.2.1+y3)+y5)).tmod (1000000000:Int))].length=(1:Nat)*(1:Nat)) <|
 .rq (one [Value.int IntKind.i64 ((IntKind.i64.wrap (IntKind.i64.wrap (y1.2.1+y3)+y5)).tmod (1000000000:Int))]=true∧(y1.1.1+(1:Nat))*(8:Nat)≤(140737488355328:Nat)∧y1.1.1+(1:Nat)≤(9223372036854775807:Nat)) <|
 .rq ((1000000000:Int)≠(0:Int)) <|
 .nx 0 [.a 3 (y1.1.1+(1:Nat)) (y1.1.2++[Value.int IntKind.i64 ((IntKind.i64.wrap (IntKind.i64.wrap (y1.2.1+y3)+y5)).tmod (1000000000:Int))]),.v (.int .i64 (IntKind.i64.wrap ((IntKind.i64.wrap (IntKind.i64.wrap (y1.2.1+y3)+y5)).tdiv (1000000000:Int)))),.v (.int .i64 (IntKind.i64.wrap (y1.2.2.1+(1:Int))))]) <|
 .rq ((1000000000:Int)≠(0:Int)) <|
 .rq ([Value.int IntKind.i64 ((IntKind.i64.wrap (y1.2.1+y3)).tmod (1000000000:Int))].length=(1:Nat)*(1:Nat)) <|
 .rq (one [Value.int IntKind.i64 ((IntKind.i64.wrap (y1.2.1+y3)).tmod (1000000000:Int))]=true∧(y1.1.1+(1:Nat))*(8:Nat)≤(140737488355328:Nat)∧y1.1.1+(1:Nat)≤(9223372036854775807:Nat)) <|
 .rq ((1000000000:Int)≠(0:Int)) <|
 .nx 0 [.a 3 (y1.1.1+(1:Nat)) (y1.1.2++[Value.int IntKind.i64 ((IntKind.i64.wrap (y1.2.1+y3)).tmod (1000000000:Int))]),.v (.int .i64 (IntKind.i64.wrap ((IntKind.i64.wrap (y1.2.1+y3)).tdiv (1000000000:Int)))),.v (.int .i64 (IntKind.i64.wrap (y1.2.2.1+(1:Int))))]) <|
 .br (decide (y1.2.2.1<(↑x1.n:Int))) (
   .el x1.1 (x1.n) y1.2.2.1 fun y2 =>
   .ql14 (y2.add (Int.toNat y1.2.2.1*(1:Nat))) fun y3 =>
   .rq ((1000000000:Int)≠(0:Int)) <|
 .rq ([Value.int IntKind.i64 ((IntKind.i64.wrap (y1.2.1+y3)).tmod (1000000000:Int))].length=(1:Nat)*(1:Nat)) <|
 .rq (one [Value.int IntKind.i64 ((IntKind.i64.wrap (y1.2.1+y3)).tmod (1000000000:Int))]=true∧(y1.1.1+(1:Nat))*(8:Nat)≤(140737488355328:Nat)∧y1.1.1+(1:Nat)≤(9223372036854775807:Nat)) <|
 .rq ((1000000000:Int)≠(0:Int)) <|
 .nx 0 [.a 3 (y1.1.1+(1:Nat)) (y1.1.2++[Value.int IntKind.i64 ((IntKind.i64.wrap (y1.2.1+y3)).tmod (1000000000:Int))]),.v (.int .i64 (IntKind.i64.wrap ((IntKind.i64.wrap (y1.2.1+y3)).tdiv (1000000000:Int)))),.v (.int .i64 (IntKind.i64.wrap (y1.2.2.1+(1:Int))))]) <|
 .rq ((1000000000:Int)≠(0:Int)) <|
 .rq ([Value.int IntKind.i64 (Int.tmod y1.2.1 (1000000000:Int))].length=(1:Nat)*(1:Nat)) <|
 .rq (one [Value.int IntKind.i64 (Int.tmod y1.2.1 (1000000000:Int))]=true∧(y1.1.1+(1:Nat))*(8:Nat)≤(140737488355328:Nat)∧y1.1.1+(1:Nat)≤(9223372036854775807:Nat)) <|
 .rq ((1000000000:Int)≠(0:Int)) <|
 .nx 0 [.a 3 (y1.1.1+(1:Nat)) (y1.1.2++[Value.int IntKind.i64 (Int.tmod y1.2.1 (1000000000:Int))]),.v (.int .i64 (IntKind.i64.wrap (Int.tdiv y1.2.1 (1000000000:Int)))),.v (.int .i64 (IntKind.i64.wrap (y1.2.2.1+(1:Int))))]) <|
 .br (decide (y1.2.2.1<(↑x1.n:Int))) (
  .br (decide (y1.2.2.1<(↑x0.n:Int))) (
   .el x0.1 (x0.n) y1.2.2.1 fun y2 =>
   .ql14 (y2.add (Int.toNat y1.2.2.1*(1:Nat))) fun y3 =>
   .br (decide (y1.2.2.1<(↑x1.n:Int))) (
    .el x1.1 (x1.n) y1.2.2.1 fun y4 =>
    .ql14 (y4.add (Int.toNat y1.2.2.1*(1:Nat))) fun y5 =>
    .rq ((1000000000:Int)≠(0:Int)) <|
 .rq ([Value.int IntKind.i64 ((IntKind.i64.wrap (IntKind.i64.wrap (y1.2.1+y3)+y5)).tmod (1000000000:Int))].length=(1:Nat)*(1:Nat)) <|
 .rq (one [Value.int IntKind.i64 ((IntKind.i64.wrap (IntKind.i64.wrap (y1.2.1+y3)+y5)).tmod (1000000000:Int))]=true∧(y1.1.1+(1:Nat))*(8:Nat)≤(140737488355328:Nat)∧y1.1.1+(1:Nat)≤(9223372036854775807:Nat)) <|
 .rq ((1000000000:Int)≠(0:Int)) <|
 .nx 0 [.a 3 (y1.1.1+(1:Nat)) (y1.1.2++[Value.int IntKind.i64 ((IntKind.i64.wrap (IntKind.i64.wrap (y1.2.1+y3)+y5)).tmod (1000000000:Int))]),.v (.int .i64 (IntKind.i64.wrap ((IntKind.i64.wrap (IntKind.i64.wrap (y1.2.1+y3)+y5)).tdiv (1000000000:Int)))),.v (.int .i64 (IntKind.i64.wrap (y1.2.2.1+(1:Int))))]) <|
 .rq ((1000000000:Int)≠(0:Int)) <|
 .rq ([Value.int IntKind.i64 ((IntKind.i64.wrap (y1.2.1+y3)).tmod (1000000000:Int))].length=(1:Nat)*(1:Nat)) <|
 .rq (one [Value.int IntKind.i64 ((IntKind.i64.wrap (y1.2.1+y3)).tmod (1000000000:Int))]=true∧(y1.1.1+(1:Nat))*(8:Nat)≤(140737488355328:Nat)∧y1.1.1+(1:Nat)≤(9223372036854775807:Nat)) <|
 .rq ((1000000000:Int)≠(0:Int)) <|
 .nx 0 [.a 3 (y1.1.1+(1:Nat)) (y1.1.2++[Value.int IntKind.i64 ((IntKind.i64.wrap (y1.2.1+y3)).tmod (1000000000:Int))]),.v (.int .i64 (IntKind.i64.wrap ((IntKind.i64.wrap (y1.2.1+y3)).tdiv (1000000000:Int)))),.v (.int .i64 (IntKind.i64.wrap (y1.2.2.1+(1:Int))))]) <|
 .br (decide (y1.2.2.1<(↑x1.n:Int))) (
   .el x1.1 (x1.n) y1.2.2.1 fun y2 =>
   .ql14 (y2.add (Int.toNat y1.2.2.1*(1:Nat))) fun y3 =>
   .rq ((1000000000:Int)≠(0:Int)) <|
 .rq ([Value.int IntKind.i64 ((IntKind.i64.wrap (y1.2.1+y3)).tmod (1000000000:Int))].length=(1:Nat)*(1:Nat)) <|
 .rq (one [Value.int IntKind.i64 ((IntKind.i64.wrap (y1.2.1+y3)).tmod (1000000000:Int))]=true∧(y1.1.1+(1:Nat))*(8:Nat)≤(140737488355328:Nat)∧y1.1.1+(1:Nat)≤(9223372036854775807:Nat)) <|
 .rq ((1000000000:Int)≠(0:Int)) <|
 .nx 0 [.a 3 (y1.1.1+(1:Nat)) (y1.1.2++[Value.int IntKind.i64 ((IntKind.i64.wrap (y1.2.1+y3)).tmod (1000000000:Int))]),.v (.int .i64 (IntKind.i64.wrap ((IntKind.i64.wrap (y1.2.1+y3)).tdiv (1000000000:Int)))),.v (.int .i64 (IntKind.i64.wrap (y1.2.2.1+(1:Int))))]) <|
 .rq ((1000000000:Int)≠(0:Int)) <|
 .rq ([Value.int IntKind.i64 (Int.tmod y1.2.1 (1000000000:Int))].length=(1:Nat)*(1:Nat)) <|
 .rq (one [Value.int IntKind.i64 (Int.tmod y1.2.1 (1000000000:Int))]=true∧(y1.1.1+(1:Nat))*(8:Nat)≤(140737488355328:Nat)∧y1.1.1+(1:Nat)≤(9223372036854775807:Nat)) <|
 .rq ((1000000000:Int)≠(0:Int)) <|
 .nx 0 [.a 3 (y1.1.1+(1:Nat)) (y1.1.2++[Value.int IntKind.i64 (Int.tmod y1.2.1 (1000000000:Int))]),.v (.int .i64 (IntKind.i64.wrap (Int.tdiv y1.2.1 (1000000000:Int)))),.v (.int .i64 (IntKind.i64.wrap (y1.2.2.1+(1:Int))))]) <|
 .br (decide (y1.2.1 > (0:Int))) (
  .br (decide (y1.2.2.1<(↑x0.n:Int))) (
   .el x0.1 (x0.n) y1.2.2.1 fun y2 =>
   .ql14 (y2.add (Int.toNat y1.2.2.1*(1:Nat))) fun y3 =>
   .br (decide (y1.2.2.1<(↑x1.n:Int))) (
    .el x1.1 (x1.n) y1.2.2.1 fun y4 =>
    .ql14 (y4.add (Int.toNat y1.2.2.1*(1:Nat))) fun y5 =>
    .rq ((1000000000:Int)≠(0:Int)) <|
 .rq ([Value.int IntKind.i64 ((IntKind.i64.wrap (IntKind.i64.wrap (y1.2.1+y3)+y5)).tmod (1000000000:Int))].length=(1:Nat)*(1:Nat)) <|
 .rq (one [Value.int IntKind.i64 ((IntKind.i64.wrap (IntKind.i64.wrap (y1.2.1+y3)+y5)).tmod (1000000000:Int))]=true∧(y1.1.1+(1:Nat))*(8:Nat)≤(140737488355328:Nat)∧y1.1.1+(1:Nat)≤(9223372036854775807:Nat)) <|
 .rq ((1000000000:Int)≠(0:Int)) <|
 .nx 0 [.a 3 (y1.1.1+(1:Nat)) (y1.1.2++[Value.int IntKind.i64 ((IntKind.i64.wrap (IntKind.i64.wrap (y1.2.1+y3)+y5)).tmod (1000000000:Int))]),.v (.int .i64 (IntKind.i64.wrap ((IntKind.i64.wrap (IntKind.i64.wrap (y1.2.1+y3)+y5)).tdiv (1000000000:Int)))),.v (.int .i64 (IntKind.i64.wrap (y1.2.2.1+(1:Int))))]) <|
 .rq ((1000000000:Int)≠(0:Int)) <|
 .rq ([Value.int IntKind.i64 ((IntKind.i64.wrap (y1.2.1+y3)).tmod (1000000000:Int))].length=(1:Nat)*(1:Nat)) <|
 .rq (one [Value.int IntKind.i64 ((IntKind.i64.wrap (y1.2.1+y3)).tmod (1000000000:Int))]=true∧(y1.1.1+(1:Nat))*(8:Nat)≤(140737488355328:Nat)∧y1.1.1+(1:Nat)≤(9223372036854775807:Nat)) <|
 .rq ((1000000000:Int)≠(0:Int)) <|
 .nx 0 [.a 3 (y1.1.1+(1:Nat)) (y1.1.2++[Value.int IntKind.i64 ((IntKind.i64.wrap (y1.2.1+y3)).tmod (1000000000:Int))]),.v (.int .i64 (IntKind.i64.wrap ((IntKind.i64.wrap (y1.2.1+y3)).tdiv (1000000000:Int)))),.v (.int .i64 (IntKind.i64.wrap (y1.2.2.1+(1:Int))))]) <|
 .br (decide (y1.2.2.1<(↑x1.n:Int))) (
   .el x1.1 (x1.n) y1.2.2.1 fun y2 =>
   .ql14 (y2.add (Int.toNat y1.2.2.1*(1:Nat))) fun y3 =>
   .rq ((1000000000:Int)≠(0:Int)) <|
 .rq ([Value.int IntKind.i64 ((IntKind.i64.wrap (y1.2.1+y3)).tmod (1000000000:Int))].length=(1:Nat)*(1:Nat)) <|
 .rq (one [Value.int IntKind.i64 ((IntKind.i64.wrap (y1.2.1+y3)).tmod (1000000000:Int))]=true∧(y1.1.1+(1:Nat))*(8:Nat)≤(140737488355328:Nat)∧y1.1.1+(1:Nat)≤(9223372036854775807:Nat)) <|
 .rq ((1000000000:Int)≠(0:Int)) <|
 .nx 0 [.a 3 (y1.1.1+(1:Nat)) (y1.1.2++[Value.int IntKind.i64 ((IntKind.i64.wrap (y1.2.1+y3)).tmod (1000000000:Int))]),.v (.int .i64 (IntKind.i64.wrap ((IntKind.i64.wrap (y1.2.1+y3)).tdiv (1000000000:Int)))),.v (.int .i64 (IntKind.i64.wrap (y1.2.2.1+(1:Int))))]) <|
 .rq ((1000000000:Int)≠(0:Int)) <|
 .rq ([Value.int IntKind.i64 (Int.tmod y1.2.1 (1000000000:Int))].length=(1:Nat)*(1:Nat)) <|
 .rq (one [Value.int IntKind.i64 (Int.tmod y1.2.1 (1000000000:Int))]=true∧(y1.1.1+(1:Nat))*(8:Nat)≤(140737488355328:Nat)∧y1.1.1+(1:Nat)≤(9223372036854775807:Nat)) <|
 .rq ((1000000000:Int)≠(0:Int)) <|
 .nx 0 [.a 3 (y1.1.1+(1:Nat)) (y1.1.2++[Value.int IntKind.i64 (Int.tmod y1.2.1 (1000000000:Int))]),.v (.int .i64 (IntKind.i64.wrap (Int.tdiv y1.2.1 (1000000000:Int)))),.v (.int .i64 (IntKind.i64.wrap (y1.2.2.1+(1:Int))))]) <|
 .fz y1.1.1 y1.1.2 3 fun b2 c2 =>
 .ret [.slice (some { block:=b2,off:=(0:Nat):Addr }) y1.1.1 (c2)]
theorem fS_l02Add x0 x1:qft aS_l02Add 140 [Sc.val .l x0,Sc.val .l x1] (tS_l02Add x0 x1) :=fitK (by kernel_rfl)
def tS_l08Table :T :=
 .fz ((20:Nat)) [.string ({ data:={ toList:=[(65:UInt8),(85:UInt8),(68:UInt8)]:Array UInt8 }:ByteArray }),.string ({ data:={ toList:=[(48:UInt8),(51:UInt8),(54:UInt8)]:Array UInt8 }:ByteArray }),.int .i64 2,.int .i64 5,.string ({ data:={ toList:=[(66:UInt8),(72:UInt8),(68:UInt8)]:Array UInt8 }:ByteArray }),.string ({ data:={ toList:=[(48:UInt8),(52:UInt8),(56:UInt8)]:Array UInt8 }:ByteArray }),.int .i64 3,.int .i64 5,.string ({ data:={ toList:=[(67:UInt8),(65:UInt8),(68:UInt8)]:Array UInt8 }:ByteArray }),.string ({ data:={ toList:=[(49:UInt8),(50:UInt8),(52:UInt8)]:Array UInt8 }:ByteArray }),.int .i64 2,.int .i64 5,.string ({ data:={ toList:=[(67:UInt8),(72:UInt8),(70:UInt8)]:Array UInt8 }:ByteArray }),.string ({ data:={ toList:=[(55:UInt8),(53:UInt8),(54:UInt8)]:Array UInt8 }:ByteArray }),.int .i64 2,.int .i64 5,.string ({ data:={ toList:=[(67:UInt8),(76:UInt8),(70:UInt8)]:Array UInt8 }:ByteArray }),.string ({ data:={ toList:=[(57:UInt8),(57:UInt8),(48:UInt8)]:Array UInt8 }:ByteArray }),.int .i64 4,.int .i64 1,.string ({ data:={ toList:=[(67:UInt8),(90:UInt8),(75:UInt8)]:Array UInt8 }:ByteArray }),.string ({ data:={ toList:=[(50:UInt8),(48:UInt8),(51:UInt8)]:Array UInt8 }:ByteArray }),.int .i64 2,.int .i64 100,.string ({ data:={ toList:=[(68:UInt8),(75:UInt8),(75:UInt8)]:Array UInt8 }:ByteArray }),.string ({ data:={ toList:=[(50:UInt8),(48:UInt8),(56:UInt8)]:Array UInt8 }:ByteArray }),.int .i64 2,.int .i64 50,.string ({ data:={ toList:=[(69:UInt8),(85:UInt8),(82:UInt8)]:Array UInt8 }:ByteArray }),.string ({ data:={ toList:=[(57:UInt8),(55:UInt8),(56:UInt8)]:Array UInt8 }:ByteArray }),.int .i64 2,.int .i64 1,.string ({ data:={ toList:=[(71:UInt8),(66:UInt8),(80:UInt8)]:Array UInt8 }:ByteArray }),.string ({ data:={ toList:=[(56:UInt8),(50:UInt8),(54:UInt8)]:Array UInt8 }:ByteArray }),.int .i64 2,.int .i64 1,.string ({ data:={ toList:=[(72:UInt8),(85:UInt8),(70:UInt8)]:Array UInt8 }:ByteArray }),.string ({ data:={ toList:=[(51:UInt8),(52:UInt8),(56:UInt8)]:Array UInt8 }:ByteArray }),.int .i64 2,.int .i64 500,.string ({ data:={ toList:=[(73:UInt8),(83:UInt8),(75:UInt8)]:Array UInt8 }:ByteArray }),.string ({ data:={ toList:=[(51:UInt8),(53:UInt8),(50:UInt8)]:Array UInt8 }:ByteArray }),.int .i64 0,.int .i64 1,.string ({ data:={ toList:=[(74:UInt8),(80:UInt8),(89:UInt8)]:Array UInt8 }:ByteArray }),.string ({ data:={ toList:=[(51:UInt8),(57:UInt8),(50:UInt8)]:Array UInt8 }:ByteArray }),.int .i64 0,.int .i64 1,.string ({ data:={ toList:=[(75:UInt8),(82:UInt8),(87:UInt8)]:Array UInt8 }:ByteArray }),.string ({ data:={ toList:=[(52:UInt8),(49:UInt8),(48:UInt8)]:Array UInt8 }:ByteArray }),.int .i64 0,.int .i64 10,.string ({ data:={ toList:=[(75:UInt8),(87:UInt8),(68:UInt8)]:Array UInt8 }:ByteArray }),.string ({ data:={ toList:=[(52:UInt8),(49:UInt8),(52:UInt8)]:Array UInt8 }:ByteArray }),.int .i64 3,.int .i64 5,.string ({ data:={ toList:=[(78:UInt8),(79:UInt8),(75:UInt8)]:Array UInt8 }:ByteArray }),.string ({ data:={ toList:=[(53:UInt8),(55:UInt8),(56:UInt8)]:Array UInt8 }:ByteArray }),.int .i64 2,.int .i64 100,.string ({ data:={ toList:=[(78:UInt8),(90:UInt8),(68:UInt8)]:Array UInt8 }:ByteArray }),.string ({ data:={ toList:=[(53:UInt8),(53:UInt8),(52:UInt8)]:Array UInt8 }:ByteArray }),.int .i64 2,.int .i64 10,.string ({ data:={ toList:=[(80:UInt8),(76:UInt8),(78:UInt8)]:Array UInt8 }:ByteArray }),.string ({ data:={ toList:=[(57:UInt8),(56:UInt8),(53:UInt8)]:Array UInt8 }:ByteArray }),.int .i64 2,.int .i64 1,.string ({ data:={ toList:=[(83:UInt8),(69:UInt8),(75:UInt8)]:Array UInt8 }:ByteArray }),.string ({ data:={ toList:=[(55:UInt8),(53:UInt8),(50:UInt8)]:Array UInt8 }:ByteArray }),.int .i64 2,.int .i64 100,.string ({ data:={ toList:=[(84:UInt8),(78:UInt8),(68:UInt8)]:Array UInt8 }:ByteArray }),.string ({ data:={ toList:=[(55:UInt8),(56:UInt8),(56:UInt8)]:Array UInt8 }:ByteArray }),.int .i64 3,.int .i64 10,.string ({ data:={ toList:=[(85:UInt8),(83:UInt8),(68:UInt8)]:Array UInt8 }:ByteArray }),.string ({ data:={ toList:=[(56:UInt8),(52:UInt8),(48:UInt8)]:Array UInt8 }:ByteArray }),.int .i64 2,.int .i64 1] 157 fun b1 c1 =>
 .ret [.slice (some { block:=b1,off:=(0:Nat):Addr }) ((20:Nat)) (c1)]
theorem fS_l08Table :qft qa0 141 [] (tS_l08Table ) :=fitK (by kernel_rfl)
def aS_l02Cmp:An:=⟨[(6,[.s 5],[.o (.o (.i .i64))])],[],[]⟩
def tS_l02Cmp (x0:SlV) (x1:SlV):T :=
 .br ((↑x0.n:Int) != (↑x1.n:Int)) (
  .br (decide ((↑x0.n:Int)<(↑x1.n:Int))) (
   .rM) <|
 .ret [.int .i64 1]) <|
 .lp [.o (.o (.i .i64))] [.v (.int .i64 (IntKind.i64.wrap ((↑x0.n:Int)-(1:Int))))] fun y1 =>
 .br (decide (y1.1≥(0:Int))) (
  .rg <|
 .el x0.1 (x0.n) y1.1 fun y2 =>
  .ql15 (y2.add (Int.toNat y1.1*(1:Nat))) fun y3 =>
  .el x1.1 (x1.n) y1.1 fun y4 =>
  .ql15 (y4.add (Int.toNat y1.1*(1:Nat))) fun y5 =>
  .br (decide (y3<y5)) (
   .rM) <|
 .rg <|
 .el x0.1 (x0.n) y1.1 fun y6 =>
  .ql15 (y6.add (Int.toNat y1.1*(1:Nat))) fun y7 =>
  .el x1.1 (x1.n) y1.1 fun y8 =>
  .ql15 (y8.add (Int.toNat y1.1*(1:Nat))) fun y9 =>
  .br (decide (y7 > y9)) (
   .ret [.int .i64 1]) <|
 .nx 0 [.v (.int .i64 (IntKind.i64.wrap (y1.1-(1:Int))))]) <|
 .ret [.int .i64 0]
theorem fS_l02Cmp x0 x1:qft aS_l02Cmp 142 [Sc.val .l x0,Sc.val .l x1] (tS_l02Cmp x0 x1) :=fitK (by kernel_rfl)
def aS_l02Sub:An:=⟨[(4,[.s 5,.s 6,.s 12],[.a 3,.o (.o (.i .i64)),.o (.o (.i .i64))])],[],[]⟩
def tS_l02Sub (x0:SlV) (x1:SlV):T :=
 .lp [.a 3,.o (.o (.i .i64)),.o (.o (.i .i64))] [.a 3 ((0:Nat)) [],.v (.int .i64 0),.v (.int .i64 0)] fun y1 =>
 .br (decide (y1.2.2.1<(↑x0.n:Int))) (
  .el x0.1 (x0.n) y1.2.2.1 fun y2 =>
  .ql14 (y2.add (Int.toNat y1.2.2.1*(1:Nat))) fun y3 =>
  .br (decide (y1.2.2.1<(↑x1.n:Int))) (
   .el x1.1 (x1.n) y1.2.2.1 fun y4 =>
   .ql14 (y4.add (Int.toNat y1.2.2.1*(1:Nat))) fun y5 =>
   .br (decide (IntKind.i64.wrap (IntKind.i64.wrap (y3-y1.2.1)-y5)<(0:Int))) (
    .rq ([Value.int IntKind.i64 (IntKind.i64.wrap (IntKind.i64.wrap (IntKind.i64.wrap (y3-y1.2.1)-y5)+(1000000000:Int)))].length=(1:Nat)*(1:Nat)) <|
 .rq (one [Value.int IntKind.i64 (IntKind.i64.wrap (IntKind.i64.wrap (IntKind.i64.wrap (y3-y1.2.1)-y5)+(1000000000:Int)))]=true∧(y1.1.1+(1:Nat))*(8:Nat)≤(140737488355328:Nat)∧y1.1.1+(1:Nat)≤(9223372036854775807:Nat)) <|
 .nx 0 [.a 3 (y1.1.1+(1:Nat)) (y1.1.2++[Value.int IntKind.i64 (IntKind.i64.wrap (IntKind.i64.wrap (IntKind.i64.wrap (y3-y1.2.1)-y5)+(1000000000:Int)))]),.v (.int .i64 1),.v (.int .i64 (IntKind.i64.wrap (y1.2.2.1+(1:Int))))]) <|
 .rq ([Value.int IntKind.i64 (IntKind.i64.wrap (IntKind.i64.wrap (y3-y1.2.1)-y5))].length=(1:Nat)*(1:Nat)) <|
 .rq (one [Value.int IntKind.i64 (IntKind.i64.wrap (IntKind.i64.wrap (y3-y1.2.1)-y5))]=true∧(y1.1.1+(1:Nat))*(8:Nat)≤(140737488355328:Nat)∧y1.1.1+(1:Nat)≤(9223372036854775807:Nat)) <|
 .nx 0 [.a 3 (y1.1.1+(1:Nat)) (y1.1.2++[Value.int IntKind.i64 (IntKind.i64.wrap (IntKind.i64.wrap (y3-y1.2.1)-y5))]),.v (.int .i64 0),.v (.int .i64 (IntKind.i64.wrap (y1.2.2.1+(1:Int))))]) <|
 .br (decide (IntKind.i64.wrap (y3-y1.2.1)<(0:Int))) (
   .rq ([Value.int IntKind.i64 (IntKind.i64.wrap (IntKind.i64.wrap (y3-y1.2.1)+(1000000000:Int)))].length=(1:Nat)*(1:Nat)) <|
 .rq (one [Value.int IntKind.i64 (IntKind.i64.wrap (IntKind.i64.wrap (y3-y1.2.1)+(1000000000:Int)))]=true∧(y1.1.1+(1:Nat))*(8:Nat)≤(140737488355328:Nat)∧y1.1.1+(1:Nat)≤(9223372036854775807:Nat)) <|
 .nx 0 [.a 3 (y1.1.1+(1:Nat)) (y1.1.2++[Value.int IntKind.i64 (IntKind.i64.wrap (IntKind.i64.wrap (y3-y1.2.1)+(1000000000:Int)))]),.v (.int .i64 1),.v (.int .i64 (IntKind.i64.wrap (y1.2.2.1+(1:Int))))]) <|
 .rq ([Value.int IntKind.i64 (IntKind.i64.wrap (y3-y1.2.1))].length=(1:Nat)*(1:Nat)) <|
 .rq (one [Value.int IntKind.i64 (IntKind.i64.wrap (y3-y1.2.1))]=true∧(y1.1.1+(1:Nat))*(8:Nat)≤(140737488355328:Nat)∧y1.1.1+(1:Nat)≤(9223372036854775807:Nat)) <|
 .nx 0 [.a 3 (y1.1.1+(1:Nat)) (y1.1.2++[Value.int IntKind.i64 (IntKind.i64.wrap (y3-y1.2.1))]),.v (.int .i64 0),.v (.int .i64 (IntKind.i64.wrap (y1.2.2.1+(1:Int))))]) <|
 .fz y1.1.1 y1.1.2 3 fun b2 c2 =>
 .qc10 178 [.slice (some { block:=b2,off:=(0:Nat):Addr }) y1.1.1 (c2)] fun y3 =>
 .ret [Sc.val .l y3]
theorem fS_l02Sub x0 x1:qft aS_l02Sub 143 [Sc.val .l x0,Sc.val .l x1] (tS_l02Sub x0 x1) :=fitK (by kernel_rfl)
def tS_l19Rat (x0:qy1):T :=
 .rg <|
 .es [] 3 fun b1 =>
 .ra ({ a:=x0.2.1.1,n:=x0.2.1.n,c:=x0.2.1.c:SlV }) ((1:Nat)) fun y2 =>
 .rq (one y2=true∧x0.2.1.n*(8:Nat)≤(140737488355328:Nat)∧x0.2.1.n≤(9223372036854775807:Nat)) <|
 .br (decide (x0.2.1.n=(0:Nat))) (
  .es [] 3 fun b3 =>
  .ra ({ a:=x0.2.2.1.1,n:=x0.2.2.1.n,c:=x0.2.2.1.c:SlV }) ((1:Nat)) fun y4 =>
  .rq (one y4=true∧x0.2.2.1.n*(8:Nat)≤(140737488355328:Nat)∧x0.2.2.1.n≤(9223372036854775807:Nat)) <|
 .br (decide (x0.2.2.1.n=(0:Nat))) (
   .ret [qv1 (x0.1,(⟨(some { block:=b1,off:=(0:Nat):Addr }),((0:Nat)),((0:Nat))⟩:SlV),(⟨(some { block:=b3,off:=(0:Nat):Addr }),((0:Nat)),((0:Nat))⟩:SlV),())]) <|
 .fz (x0.2.2.1.n) y4 3 fun b5 c5 =>
  .ret [qv1 (x0.1,(⟨(some { block:=b1,off:=(0:Nat):Addr }),((0:Nat)),((0:Nat))⟩:SlV),(⟨(some { block:=b5,off:=(0:Nat):Addr }),(x0.2.2.1.n),(c5)⟩:SlV),())]) <|
 .fz (x0.2.1.n) y2 3 fun b3 c3 =>
 .es [] 3 fun b4 =>
 .ra ({ a:=x0.2.2.1.1,n:=x0.2.2.1.n,c:=x0.2.2.1.c:SlV }) ((1:Nat)) fun y5 =>
 .rq (one y5=true∧x0.2.2.1.n*(8:Nat)≤(140737488355328:Nat)∧x0.2.2.1.n≤(9223372036854775807:Nat)) <|
 .br (decide (x0.2.2.1.n=(0:Nat))) (
  .ret [qv1 (x0.1,(⟨(some { block:=b3,off:=(0:Nat):Addr }),(x0.2.1.n),(c3)⟩:SlV),(⟨(some { block:=b4,off:=(0:Nat):Addr }),((0:Nat)),((0:Nat))⟩:SlV),())]) <|
 .fz (x0.2.2.1.n) y5 3 fun b6 c6 =>
 .ret [qv1 (x0.1,(⟨(some { block:=b3,off:=(0:Nat):Addr }),(x0.2.1.n),(c3)⟩:SlV),(⟨(some { block:=b6,off:=(0:Nat):Addr }),(x0.2.2.1.n),(c6)⟩:SlV),())]
theorem fS_l19Rat x0:qft qa0 144 [qv1 x0] (tS_l19Rat x0) :=fitK (by kernel_rfl)
def tS_RatZero :T :=
 .fz ((1:Nat)) [.int .i64 1] 3 fun b1 c1 =>
 .ret [qv1 ((false),nilS,(⟨(some { block:=b1,off:=(0:Nat):Addr }),((1:Nat)),(c1)⟩:SlV),())]
theorem fS_RatZero :qft qa0 145 [] (tS_RatZero ) :=fitK (by kernel_rfl)
def tS_RatCmp (x0:qy1) (x1:qy1):T :=
 .qc7 130 [qv1 x0] fun y1 =>
 .bn y1 (.ret [.int .i64 0]) <|
 .qc7 130 [qv1 x1] fun y2 =>
 .bn y2 (.ret [.int .i64 0]) <|
 .rg <|
 .qc21 137 [Sc.val .l x0.2.1,Sc.val .l x1.2.2.1] fun y3 =>
 .qc18 135 [.bool x0.1,Sc.val .l y3] fun y4 =>
 .qc21 137 [Sc.val .l x1.2.1,Sc.val .l x0.2.2.1] fun y5 =>
 .qc13 135 [.bool x1.1,Sc.val .l y5] fun y6 =>
 .qc0 161 [qv0 y4,qv0 y6] fun y7 =>
 .ret [.int .i64 y7]
theorem fS_RatCmp x0 x1:qft qa0 146 [qv1 x0,qv1 x1] (tS_RatCmp x0 x1) :=fitK (by kernel_rfl)
def tS_l17Money (x0:qy2):T :=
 .rg <|
 .es [] 3 fun b1 =>
 .ra ({ a:=x0.2.2.1.1,n:=x0.2.2.1.n,c:=x0.2.2.1.c:SlV }) ((1:Nat)) fun y2 =>
 .rq (one y2=true∧x0.2.2.1.n*(8:Nat)≤(140737488355328:Nat)∧x0.2.2.1.n≤(9223372036854775807:Nat)) <|
 .br (decide (x0.2.2.1.n=(0:Nat))) (
  .ret [qv2 (x0.1,x0.2.1,(⟨(some { block:=b1,off:=(0:Nat):Addr }),((0:Nat)),((0:Nat))⟩:SlV),())]) <|
 .fz (x0.2.2.1.n) y2 3 fun b3 c3 =>
 .ret [qv2 (x0.1,x0.2.1,(⟨(some { block:=b3,off:=(0:Nat):Addr }),(x0.2.2.1.n),(c3)⟩:SlV),())]
theorem fS_l17Money x0:qft qa0 147 [qv2 x0] (tS_l17Money x0) :=fitK (by kernel_rfl)
def tL_toAcct (x0:qy8):T :=
 .qc6 17 [qv2 x0.2] fun y1 =>
 .ret [qv8 (x0.1,y1.1,y1.2.1,y1.2.2.1,())]
theorem fL_toAcct x0:qft qa0 148 [qv8 x0] (tL_toAcct x0) :=fitK (by kernel_rfl)
def tL_toRat (x0:qy1):T :=
 .qc13 68 [qv0 (x0.1,x0.2.1,())] fun y1 =>
 .qc10 27 [Sc.val .l x0.2.2.1] fun y2 =>
 .ret [qv1 (y1.1,y1.2.1,y2,())]
theorem fL_toRat x0:qft qa0 149 [qv1 x0] (tL_toRat x0) :=fitK (by kernel_rfl)
def tL_toRate (x0:qy7):T :=
 .qc3 18 [qv4 x0.2.2] fun y1 =>
 .ret [qv7 (x0.1,x0.2.1,y1.1,y1.2.1,((y1.2.2.1):Int),())]
theorem fL_toRate x0:qft qa0 150 [qv7 x0] (tL_toRate x0) :=fitK (by kernel_rfl)
def aI_BookOk:An:=⟨[(4,[.s 12],[.o (.o (.i .i64))])],[],[]⟩
def tI_BookOk (x0:qy5):T :=
 .br (decide ((↑x0.1.n:Int) > (12:Int))) (
  .rF) <|
 .lp [.o (.o (.i .i64))] [.v (.int .i64 0)] fun y1 =>
 .br (decide (y1.1<(↑x0.1.n:Int))) (
  .el x0.1.1 (x0.1.n) y1.1 fun y2 =>
  .ql17 (y2.add (Int.toNat y1.1*(4:Nat))) fun y3 =>
  .rg <|
 .qc29 184 [.string y3.1] fun y4 =>
  .bF y4 <|
 .qc29 185 [qv2 y3.2] fun y5 =>
  .bF y5 <|
 .br (decide (y1.1 > (0:Int))) (
   .el x0.1.1 (x0.1.n) (IntKind.i64.wrap (y1.1-(1:Int))) fun y6 =>
   .ql26 ((y6.add ((IntKind.i64.wrap (y1.1-(1:Int))).toNat*(4:Nat))).add (0:Nat)) fun y7 =>
   .br (!Op.bytesLess y7.toList (ByteArray.toList y3.1)) (
    .rF) <|
 .nx 0 [.v (.int .i64 (IntKind.i64.wrap (y1.1+(1:Int))))]) <|
 .nx 0 [.v (.int .i64 (IntKind.i64.wrap (y1.1+(1:Int))))]) <|
 .rT
theorem fI_BookOk x0:qft aI_BookOk 151 [qv5 x0] (tI_BookOk x0) :=fitK (by kernel_rfl)
def aI_RestsOk:An:=⟨[(2,[.s 7],[.o (.o (.i .i64))])],[],[]⟩
def tI_RestsOk (x0:SlV):T :=
 .lp [.o (.o (.i .i64))] [.v (.int .i64 0)] fun y1 =>
 .br (decide (y1.1<(↑x0.n:Int))) (
  .el x0.1 (x0.n) y1.1 fun y2 =>
  .ql16 (y2.add (Int.toNat y1.1*(4:Nat))) fun y3 =>
  .rg <|
 .qc29 186 [.string y3.1] fun y4 =>
  .bF y4 <|
 .qc29 187 [qv1 y3.2] fun y5 =>
  .bF y5 <|
 .qc33 188 [qv1 y3.2] fun y6 =>
  .br (y6 == (0:Int)) (
   .rF) <|
 .br (decide (y1.1 > (0:Int))) (
   .el x0.1 (x0.n) (IntKind.i64.wrap (y1.1-(1:Int))) fun y7 =>
   .ql26 ((y7.add ((IntKind.i64.wrap (y1.1-(1:Int))).toNat*(4:Nat))).add (0:Nat)) fun y8 =>
   .br (!Op.bytesLess y8.toList (ByteArray.toList y3.1)) (
    .rF) <|
 .nx 0 [.v (.int .i64 (IntKind.i64.wrap (y1.1+(1:Int))))]) <|
 .nx 0 [.v (.int .i64 (IntKind.i64.wrap (y1.1+(1:Int))))]) <|
 .rT
theorem fI_RestsOk x0:qft aI_RestsOk 152 [Sc.val .l x0] (tI_RestsOk x0) :=fitK (by kernel_rfl)
def aI_RatesOk:An:=⟨[(5,[.s 21],[.o (.o (.i .i64))])],[],[]⟩
def tI_RatesOk (x0:qy6):T :=
 .qc7 186 [.string x0.1] fun y1 =>
 .bF y1 <|
 .br (decide ((↑x0.2.1.n:Int) > (12:Int))) (
  .rF) <|
 .mo (.mk 241) (.v (.o (.x))) fun y2 =>
 .lp [.o (.o (.i .i64))] [.v (.int .i64 0)] fun y3 =>
 .br (decide (y3.1<(↑x0.2.1.n:Int))) (
  .el x0.2.1.1 (x0.2.1.n) y3.1 fun y4 =>
  .ql35 (y4.add (Int.toNat y3.1*(5:Nat))) fun y5 =>
  .qc7 189 [qv7 y5] fun y6 =>
  .bF y6 <|
 .mo (.lk 241 (y2.1) (Sh1.val (.g [.s,.s]) (y5.1,y5.2.1,())) false) (.v (.o (.b))) fun y7 =>
  .br y7 (
   .rF) <|
 .mo (.up 241 (y2.1) (Sh1.val (.g [.s,.s]) (y5.1,y5.2.1,())) (.bool (true))) (.t []) fun _ =>
  .nx 0 [.v (.int .i64 (IntKind.i64.wrap (y3.1+(1:Int))))]) <|
 .rT
theorem fI_RatesOk x0:qft aI_RatesOk 153 [qv6 x0] (tI_RatesOk x0) :=fitK (by kernel_rfl)
def aI_bookCopy:An:=⟨[(3,[.s 15,.c 3 0],[.o (.o (.i .i64)),.o (.o (.l))])],[],[]⟩
def tI_bookCopy (x0:qy5):T :=
 .rq ((0:Int)≤(0:Int)∧(0:Int)≤IntKind.i64.wrap ((↑x0.1.n:Int)+(1:Int))∧(↑(64:Nat):Int)*IntKind.i64.wrap ((↑x0.1.n:Int)+(1:Int))≤(281474976710656:Int)∧IntKind.i64.wrap ((↑x0.1.n:Int)+(1:Int))≤(9223372036854775807:Int)) <|
 .fz (Int.toNat (0:Int)) [] 88 fun b1 c1 =>
 .lp [.o (.o (.i .i64)),.o (.o (.l))] [.v (.int .i64 0),.v (.slice (some { block:=b1,off:=(0:Nat):Addr }) (Int.toNat (0:Int)) (c1))] fun y2 =>
 .br (decide (y2.1<(↑x0.1.n:Int))) (
  .el x0.1.1 (x0.1.n) y2.1 fun y3 =>
  .ql17 (y3.add (Int.toNat y2.1*(4:Nat))) fun y4 =>
  .rg <|
 .qc2 190 [qv2 y4.2] fun y5 =>
  .rq ([Value.string y4.1,Value.string y5.1,Value.bool y5.2.1,Value.slice y5.2.2.1.1 y5.2.2.1.n y5.2.2.1.c].length=(1:Nat)*(4:Nat)) <|
 .rq (one [Value.string y4.1,Value.string y5.1,Value.bool y5.2.1,Value.slice y5.2.2.1.1 y5.2.2.1.n y5.2.2.1.c]=true) <|
 .ap ({ a:=y2.2.1.1,n:=y2.2.1.n,c:=y2.2.1.c:SlV }) 4 64 [.string y4.1,.string y5.1,.bool y5.2.1,Sc.val .l y5.2.2.1] ((1:Nat)) 88 fun y6 =>
  .nx 0 [.v (.int .i64 (IntKind.i64.wrap (y2.1+(1:Int)))),.v (Sc.val .l y6)]) <|
 .ret [qv5 y2.2]
theorem fI_bookCopy x0:qft aI_bookCopy 154 [qv5 x0] (tI_bookCopy x0) :=fitK (by kernel_rfl)
def aI_restsCopy:An:=⟨[(3,[.s 3,.s 9],[.o (.o (.l)),.o (.o (.i .i64))])],[],[]⟩
def tI_restsCopy (x0:SlV):T :=
 .fz ((0:Nat)) [] 164 fun b1 c1 =>
 .lp [.o (.o (.l)),.o (.o (.i .i64))] [.v (.slice (some { block:=b1,off:=(0:Nat):Addr }) ((0:Nat)) (c1)),.v (.int .i64 0)] fun y2 =>
 .br (decide (y2.2.1<(↑x0.n:Int))) (
  .el x0.1 (x0.n) y2.2.1 fun y3 =>
  .ql16 (y3.add (Int.toNat y2.2.1*(4:Nat))) fun y4 =>
  .rg <|
 .qc30 191 [qv1 y4.2] fun y5 =>
  .rq ([Value.string y4.1,Value.bool y5.1,Value.slice y5.2.1.1 y5.2.1.n y5.2.1.c,Value.slice y5.2.2.1.1 y5.2.2.1.n y5.2.2.1.c].length=(1:Nat)*(4:Nat)) <|
 .rq (one [Value.string y4.1,Value.bool y5.1,Value.slice y5.2.1.1 y5.2.1.n y5.2.1.c,Value.slice y5.2.2.1.1 y5.2.2.1.n y5.2.2.1.c]=true) <|
 .ap ({ a:=y2.1.1,n:=y2.1.n,c:=y2.1.c:SlV }) 4 72 [.string y4.1,.bool y5.1,Sc.val .l y5.2.1,Sc.val .l y5.2.2.1] ((1:Nat)) 164 fun y6 =>
  .nx 0 [.v (Sc.val .l y6),.v (.int .i64 (IntKind.i64.wrap (y2.2.1+(1:Int))))]) <|
 .ret [Sc.val .l y2.1]
theorem fI_restsCopy x0:qft aI_restsCopy 155 [Sc.val .l x0] (tI_restsCopy x0) :=fitK (by kernel_rfl)
def aI_ratesCopy:An:=⟨[(3,[.s 12,.c 3 0,.c 3 1],[.o (.o (.i .i64)),.o (.o (.s)),.o (.o (.l))])],[],[]⟩
def tI_ratesCopy (x0:qy6):T :=
 .lp [.o (.o (.i .i64)),.o (.o (.s)),.o (.o (.l))] [.v (.int .i64 0),.v (.string x0.1),.v (.slice none 0 0)] fun y1 =>
 .br (decide (y1.1<(↑x0.2.1.n:Int))) (
  .el x0.2.1.1 (x0.2.1.n) y1.1 fun y2 =>
  .ql35 (y2.add (Int.toNat y1.1*(5:Nat))) fun y3 =>
  .rg <|
 .qc48 192 [qv7 y3] fun y4 =>
  .rq ([Value.string y4.1,Value.string y4.2.1,Value.bool y4.2.2.1,Value.slice y4.2.2.2.1.1 y4.2.2.2.1.n y4.2.2.2.1.c,Value.int IntKind.i64 y4.2.2.2.2.1].length=(1:Nat)*(5:Nat)) <|
 .rq (one [Value.string y4.1,Value.string y4.2.1,Value.bool y4.2.2.1,Value.slice y4.2.2.2.1.1 y4.2.2.2.1.n y4.2.2.2.1.c,Value.int IntKind.i64 y4.2.2.2.2.1]=true) <|
 .ap ({ a:=y1.2.2.1.1,n:=y1.2.2.1.n,c:=y1.2.2.1.c:SlV }) 5 72 [.string y4.1,.string y4.2.1,.bool y4.2.2.1,Sc.val .l y4.2.2.2.1,.int .i64 y4.2.2.2.2.1] ((1:Nat)) 204 fun y5 =>
  .nx 0 [.v (.int .i64 (IntKind.i64.wrap (y1.1+(1:Int)))),.v (.string y1.2.1),.v (Sc.val .l y5)]) <|
 .ret [qv6 y1.2]
theorem fI_ratesCopy x0:qft aI_ratesCopy 156 [qv6 x0] (tI_ratesCopy x0) :=fitK (by kernel_rfl)
def tL_eqAcct (x0:qy8) (x1:qy8):T :=
 .br (!ByteArray.toList x0.1 == ByteArray.toList x1.1) (
  .rF) <|
 .qc7 20 [qv2 x0.2,qv2 x1.2] fun y1 =>
 .bF y1 <|
 .rT
theorem fL_eqAcct x0 x1:qft qa0 157 [qv8 x0,qv8 x1] (tL_eqAcct x0 x1) :=fitK (by kernel_rfl)
def tL_eqRat (x0:qy1) (x1:qy1):T :=
 .qc7 69 [qv0 (x0.1,x0.2.1,()),qv0 (x1.1,x1.2.1,())] fun y1 =>
 .bF y1 <|
 .qc7 30 [Sc.val .l x0.2.2.1,Sc.val .l x1.2.2.1] fun y2 =>
 .bF y2 <|
 .rT
theorem fL_eqRat x0 x1:qft qa0 158 [qv1 x0,qv1 x1] (tL_eqRat x0 x1) :=fitK (by kernel_rfl)
def tL_eqRate (x0:qy7) (x1:qy7):T :=
 .br (!ByteArray.toList x0.1 == ByteArray.toList x1.1) (
  .rF) <|
 .br (!ByteArray.toList x0.2.1 == ByteArray.toList x1.2.1) (
  .rF) <|
 .qc7 21 [qv4 x0.2.2,qv4 x1.2.2] fun y1 =>
 .bF y1 <|
 .rT
theorem fL_eqRate x0 x1:qft qa0 159 [qv7 x0,qv7 x1] (tL_eqRate x0 x1) :=fitK (by kernel_rfl)
def tS_l07Both (x0:qy3) (x1:qy3):T :=
 .br (decide (x1.2.2.1 > x0.2.2.1)) (
  .rg <|
 .qc18 162 [.int .i64 (IntKind.i64.wrap (x1.2.2.1-x0.2.2.1))] fun y1 =>
  .qc18 87 [qv0 (x0.1,x0.2.1,()),qv0 y1] fun y2 =>
  .qc18 162 [.int .i64 (IntKind.i64.wrap (x1.2.2.1-x1.2.2.1))] fun y3 =>
  .qc13 87 [qv0 (x1.1,x1.2.1,()),qv0 y3] fun y4 =>
  .ret [qv0 y2,qv0 y4,.int .i64 x1.2.2.1]) <|
 .rg <|
 .qc18 162 [.int .i64 (IntKind.i64.wrap (x0.2.2.1-x0.2.2.1))] fun y1 =>
 .qc18 87 [qv0 (x0.1,x0.2.1,()),qv0 y1] fun y2 =>
 .qc18 162 [.int .i64 (IntKind.i64.wrap (x0.2.2.1-x1.2.2.1))] fun y3 =>
 .qc13 87 [qv0 (x1.1,x1.2.1,()),qv0 y3] fun y4 =>
 .ret [qv0 y2,qv0 y4,.int .i64 x0.2.2.1]
theorem fS_l07Both x0 x1:qft qa0 160 [qv4 x0,qv4 x1] (tS_l07Both x0 x1) :=fitK (by kernel_rfl)
def tS_IntCmp (x0:qy0) (x1:qy0):T :=
 .qc7 84 [qv0 x0] fun y1 =>
 .bn y1 (.ret [.int .i64 0]) <|
 .qc7 84 [qv0 x1] fun y2 =>
 .bn y2 (.ret [.int .i64 0]) <|
 .br x0.1 (
  .br (!x1.1) (
   .rM) <|
 .br (!x0.1) (
   .br x1.1 (
    .ret [.int .i64 1]) <|
 .br x0.1 (
    .qc0 142 [Sc.val .l x1.2.1,Sc.val .l x0.2.1] fun y3 =>
    .ret [.int .i64 y3]) <|
 .qc0 142 [Sc.val .l x0.2.1,Sc.val .l x1.2.1] fun y3 =>
   .ret [.int .i64 y3]) <|
 .br x0.1 (
   .qc0 142 [Sc.val .l x1.2.1,Sc.val .l x0.2.1] fun y3 =>
   .ret [.int .i64 y3]) <|
 .qc0 142 [Sc.val .l x0.2.1,Sc.val .l x1.2.1] fun y3 =>
  .ret [.int .i64 y3]) <|
 .br (!x0.1) (
  .br x1.1 (
   .ret [.int .i64 1]) <|
 .br x0.1 (
   .qc0 142 [Sc.val .l x1.2.1,Sc.val .l x0.2.1] fun y3 =>
   .ret [.int .i64 y3]) <|
 .qc0 142 [Sc.val .l x0.2.1,Sc.val .l x1.2.1] fun y3 =>
  .ret [.int .i64 y3]) <|
 .br x0.1 (
  .qc0 142 [Sc.val .l x1.2.1,Sc.val .l x0.2.1] fun y3 =>
  .ret [.int .i64 y3]) <|
 .qc0 142 [Sc.val .l x0.2.1,Sc.val .l x1.2.1] fun y3 =>
 .ret [.int .i64 y3]
theorem fS_IntCmp x0 x1:qft qa0 161 [qv0 x0,qv0 x1] (tS_IntCmp x0 x1) :=fitK (by kernel_rfl)
def tS_l07Ten (x0:Int):T :=
 .qc10 193 [.int .i64 x0] fun y1 =>
 .ret [qv0 ((false),y1,())]
theorem fS_l07Ten x0:qft qa0 162 [.int .i64 x0] (tS_l07Ten x0) :=fitK (by kernel_rfl)
def tS_RatRest (x0:qy1) (x1:Int):T :=
 .qc49 167 [qv1 x0,.int .i64 x1] fun y1 =>
 .qc19 45 [qv0 y1.1] fun y2 =>
 .qc19 194 [qv1 x0,qv1 y2.1] fun y3 =>
 .bn y1.2.1 (.ret [qv0 ((false),nilS,()),qv1 ((false),nilS,nilS,()),.bool (false)]) <|
 .bn y2.2.1 (.ret [qv0 ((false),nilS,()),qv1 ((false),nilS,nilS,()),.bool (false)]) <|
 .bn y3.2.1 (.ret [qv0 ((false),nilS,()),qv1 ((false),nilS,nilS,()),.bool (false)]) <|
 .rg <|
 .ret [qv0 y1.1,qv1 y3.1,.bool (true)]
theorem fS_RatRest x0 x1:qft qa0 163 [qv1 x0,.int .i64 x1] (tS_RatRest x0 x1) :=fitK (by kernel_rfl)
def tS_l09Both (x0:qy2) (x1:qy2):T :=
 .qc7 90 [qv2 x0] fun y1 =>
 .br y1 (
  .qc7 90 [qv2 x1] fun y2 =>
  .br y2 (
   .ret [.bool (ByteArray.toList x0.1 == ByteArray.toList x1.1)]) <|
 .rF) <|
 .rF
theorem fS_l09Both x0 x1:qft qa0 164 [qv2 x0,qv2 x1] (tS_l09Both x0 x1) :=fitK (by kernel_rfl)
def tS_MoneyAdd (x0:qy2) (x1:qy2):T :=
 .qc7 164 [qv2 x0,qv2 x1] fun y1 =>
 .bn y1 (.ret [qv2 (({ data:={ toList:=[]:Array UInt8 }:ByteArray }),(false),nilS,()),.bool (false)]) <|
 .rg <|
 .qc18 172 [qv0 x0.2,qv0 x1.2] fun y2 =>
 .qc32 44 [.string x0.1,qv0 y2] fun y3 =>
 .ret [qv2 y3.1,.bool y3.2.1]
theorem fS_MoneyAdd x0 x1:qft qa0 165 [qv2 x0,qv2 x1] (tS_MoneyAdd x0 x1) :=fitK (by kernel_rfl)
def tS_RatRound (x0:qy1) (x1:Int):T :=
 .qc7 130 [qv1 x0] fun y1 =>
 .bn y1 (.ret [qv0 ((false),nilS,()),.bool (false)]) <|
 .qc7 40 [.int .i64 x1] fun y2 =>
 .bn y2 (.ret [qv0 ((false),nilS,()),.bool (false)]) <|
 .qc13 88 [qv1 x0,.int .i64 x1] fun y3 =>
 .ret [qv0 y3,.bool (true)]
theorem fS_RatRound x0 x1:qft qa0 167 [qv1 x0,.int .i64 x1] (tS_RatRound x0 x1) :=fitK (by kernel_rfl)
def tS_IntAdd (x0:qy0) (x1:qy0):T :=
 .qc7 84 [qv0 x0] fun y1 =>
 .bn y1 (.ret [qv0 ((false),nilS,())]) <|
 .qc7 84 [qv0 x1] fun y2 =>
 .bn y2 (.ret [qv0 ((false),nilS,())]) <|
 .qc13 91 [qv0 x0,qv0 x1] fun y3 =>
 .ret [qv0 y3]
theorem fS_IntAdd x0 x1:qft qa0 172 [qv0 x0,qv0 x1] (tS_IntAdd x0 x1) :=fitK (by kernel_rfl)
def aS_NatGcd:An:=⟨[(5,[.s 5,.s 6],[.o (.o (.l)),.o (.o (.l))])],[],[]⟩
def tS_NatGcd (x0:SlV) (x1:SlV):T :=
 .qc7 133 [Sc.val .l x0] fun y1 =>
 .bn y1 (.ret [.slice none 0 0]) <|
 .qc7 133 [Sc.val .l x1] fun y2 =>
 .bn y2 (.ret [.slice none 0 0]) <|
 .rd ({ a:=x0.1,n:=x0.n,c:=x0.c:SlV }) ((1:Nat)) fun y3 =>
 .rq (one y3=true∧((0:Nat)+x0.n)*(8:Nat)≤(140737488355328:Nat)∧(0:Nat)+x0.n≤(9223372036854775807:Nat)) <|
 .rd ({ a:=x1.1,n:=x1.n,c:=x1.c:SlV }) ((1:Nat)) fun y4 =>
 .rq (one y4=true∧((0:Nat)+x1.n)*(8:Nat)≤(140737488355328:Nat)∧(0:Nat)+x1.n≤(9223372036854775807:Nat)) <|
 .fz ((0:Nat)+x0.n) ([]++y3) 3 fun b5 c5 =>
 .fz ((0:Nat)+x1.n) ([]++y4) 3 fun b6 c6 =>
 .lp [.o (.o (.l)),.o (.o (.l))] [.v (.slice (some { block:=b5,off:=(0:Nat):Addr }) ((0:Nat)+x0.n) (c5)),.v (.slice (some { block:=b6,off:=(0:Nat):Addr }) ((0:Nat)+x1.n) (c6))] fun y7 =>
 .br (decide ((↑y7.2.1.n:Int) > (0:Int))) (
  .qc36 138 [Sc.val .l y7.1,Sc.val .l y7.2.1] fun y8 =>
  .nx 0 [.v (Sc.val .l y7.2.1),.v (Sc.val .l y8.2.1)]) <|
 .ret [Sc.val .l y7.1]
theorem fS_NatGcd x0 x1:qft aS_NatGcd 176 [Sc.val .l x0,Sc.val .l x1] (tS_NatGcd x0 x1) :=fitK (by kernel_rfl)
def tS_IntSign (x0:qy0):T :=
 .qc0 161 [qv0 x0,qv0 ((false),nilS,())] fun y1 =>
 .ret [.int .i64 y1]
theorem fS_IntSign x0:qft qa0 177 [qv0 x0] (tS_IntSign x0) :=fitK (by kernel_rfl)
def aS_l02Trim:An:=⟨[(2,[.s 3],[.o (.o (.i .i64))])],[],[]⟩
def tS_l02Trim (x0:SlV):T :=
 .lp [.o (.o (.i .i64))] [.v (.int .i64 ((↑x0.n:Int)))] fun y1 =>
 .br (decide (y1.1 > (0:Int))) (
  .el x0.1 (x0.n) (IntKind.i64.wrap (y1.1-(1:Int))) fun y2 =>
  .ql14 (y2.add ((IntKind.i64.wrap (y1.1-(1:Int))).toNat*(1:Nat))) fun y3 =>
  .br (y3 == (0:Int)) (
   .nx 0 [.v (.int .i64 (IntKind.i64.wrap (y1.1-(1:Int))))]) <|
 .rq ((0:Int)≤(0:Int)∧(0:Int)≤y1.1∧y1.1≤(↑x0.c:Int)∧(↑x0.c:Int)≤(↑x0.c:Int)) <|
 .ret [.slice (if (↑x0.c:Int).toNat=Int.toNat (0:Int) then x0.1 else Option.map (fun x=>x.add (Int.toNat (0:Int)*Go.Proofs.Tryz.prog.types[(3:Nat)].size)) x0.1) (Int.toNat y1.1-Int.toNat (0:Int)) ((↑x0.c:Int).toNat-Int.toNat (0:Int))]) <|
 .rq ((0:Int)≤(0:Int)∧(0:Int)≤y1.1∧y1.1≤(↑x0.c:Int)∧(↑x0.c:Int)≤(↑x0.c:Int)) <|
 .ret [.slice (if (↑x0.c:Int).toNat=Int.toNat (0:Int) then x0.1 else Option.map (fun x=>x.add (Int.toNat (0:Int)*Go.Proofs.Tryz.prog.types[(3:Nat)].size)) x0.1) (Int.toNat y1.1-Int.toNat (0:Int)) ((↑x0.c:Int).toNat-Int.toNat (0:Int))]
theorem fS_l02Trim x0:qft aS_l02Trim 178 [Sc.val .l x0] (tS_l02Trim x0) :=fitK (by kernel_rfl)
def aS_l05Gcd:An:=⟨[(3,[.s 5,.s 6],[.o (.o (.l)),.o (.o (.l))])],[],[]⟩
def tS_l05Gcd (x0:SlV) (x1:SlV):T :=
 .lp [.o (.o (.l)),.o (.o (.l))] [.v (Sc.val .l x0),.v (Sc.val .l x1)] fun y1 =>
 .br (decide ((↑y1.2.1.n:Int) > (0:Int))) (
  .qc36 138 [Sc.val .l y1.1,Sc.val .l y1.2.1] fun y2 =>
  .nx 0 [.v (Sc.val .l y1.2.1),.v (Sc.val .l y2.2.1)]) <|
 .ret [Sc.val .l y1.1]
theorem fS_l05Gcd x0 x1:qft aS_l05Gcd 179 [Sc.val .l x0,Sc.val .l x1] (tS_l05Gcd x0 x1) :=fitK (by kernel_rfl)
def tS_l02Cap (x0:SlV):T :=
 .qc10 178 [Sc.val .l x0] fun y1 =>
 .br (decide ((↑y1.n:Int) > (50:Int))) (
  .ret [.slice none 0 0]) <|
 .ret [Sc.val .l y1]
theorem fS_l02Cap x0:qft qa0 180 [Sc.val .l x0] (tS_l02Cap x0) :=fitK (by kernel_rfl)
def aS_l03Small:An:=⟨[(4,[.s 6,.s 7,.s 8],[.a 3,.o (.o (.i .i64)),.o (.o (.i .i64))])],[],[]⟩
def tS_l03Small (x0:SlV) (x1:Int):T :=
 .rq ((0:Int)≤(↑x0.n:Int)∧(↑x0.n:Int)≤(↑x0.n:Int)∧(↑(8:Nat):Int)*(↑x0.n:Int)≤(281474976710656:Int)∧(↑x0.n:Int)≤(9223372036854775807:Int)) <|
 .lp [.a 3,.o (.o (.i .i64)),.o (.o (.i .i64))] [.a 3 ((↑x0.n:Int).toNat) ((madeCells { toList:=[Value.int IntKind.i64 (0:Int)]:Array Value } ((↑x0.n:Int).toNat*(1:Nat))).toList),.v (.int .i64 0),.v (.int .i64 (IntKind.i64.wrap ((↑x0.n:Int)-(1:Int))))] fun y1 =>
 .br (decide (y1.2.2.1≥(0:Int))) (
  .el x0.1 (x0.n) y1.2.2.1 fun y2 =>
  .ql14 (y2.add (Int.toNat y1.2.2.1*(1:Nat))) fun y3 =>
  .rq (x1≠(0:Int)) <|
 .rq ((0:Int)≤y1.2.2.1∧y1.2.2.1<(↑y1.1.1:Int)) <|
 .rq (Int.toNat y1.2.2.1*(1:Nat)+[Value.int IntKind.i64 (IntKind.i64.wrap ((IntKind.i64.wrap (IntKind.i64.wrap (y1.2.1*(1000000000:Int))+y3)).tdiv x1))].length≤y1.1.2.length) <|
 .rq (x1≠(0:Int)) <|
 .nx 0 [.a 3 y1.1.1 (setl y1.1.2 (Int.toNat y1.2.2.1*(1:Nat)) [Value.int IntKind.i64 (IntKind.i64.wrap ((IntKind.i64.wrap (IntKind.i64.wrap (y1.2.1*(1000000000:Int))+y3)).tdiv x1))]),.v (.int .i64 ((IntKind.i64.wrap (IntKind.i64.wrap (y1.2.1*(1000000000:Int))+y3)).tmod x1)),.v (.int .i64 (IntKind.i64.wrap (y1.2.2.1-(1:Int))))]) <|
 .fz y1.1.1 y1.1.2 3 fun b2 c2 =>
 .qc10 178 [.slice (some { block:=b2,off:=(0:Nat):Addr }) y1.1.1 (c2)] fun y3 =>
 .ret [Sc.val .l y3,.int .i64 y1.2.1]
theorem fS_l03Small x0 x1:qft aS_l03Small 181 [Sc.val .l x0,.int .i64 x1] (tS_l03Small x0 x1) :=fitK (by kernel_rfl)
def aS_l03Digit:An:=⟨[(3,[.s 5,.s 6],[.o (.o (.i .i64)),.o (.o (.i .i64))])],[],[]⟩
def tS_l03Digit (x0:SlV) (x1:SlV):T :=
 .lp [.o (.o (.i .i64)),.o (.o (.i .i64))] [.v (.int .i64 0),.v (.int .i64 999999999)] fun y1 =>
 .br (decide (y1.1<y1.2.1)) (
  .rq ((2:Int)≠(0:Int)) <|
 .qc10 136 [.int .i64 (IntKind.i64.wrap ((IntKind.i64.wrap (IntKind.i64.wrap (y1.1+y1.2.1)+(1:Int))).tdiv (2:Int)))] fun y2 =>
  .qc10 137 [Sc.val .l x1,Sc.val .l y2] fun y3 =>
  .qc0 142 [Sc.val .l y3,Sc.val .l x0] fun y4 =>
  .br (decide (y4≤(0:Int))) (
   .nx 0 [.v (.int .i64 (IntKind.i64.wrap ((IntKind.i64.wrap (IntKind.i64.wrap (y1.1+y1.2.1)+(1:Int))).tdiv (2:Int)))),.v (.int .i64 y1.2.1)]) <|
 .nx 0 [.v (.int .i64 y1.1),.v (.int .i64 (IntKind.i64.wrap (IntKind.i64.wrap ((IntKind.i64.wrap (IntKind.i64.wrap (y1.1+y1.2.1)+(1:Int))).tdiv (2:Int))-(1:Int))))]) <|
 .ret [.int .i64 y1.1]
theorem fS_l03Digit x0 x1:qft aS_l03Digit 182 [Sc.val .l x0,Sc.val .l x1] (tS_l03Digit x0 x1) :=fitK (by kernel_rfl)
def tS_NatEven (x0:SlV):T :=
 .qc7 133 [Sc.val .l x0] fun y1 =>
 .br y1 (
  .br ((↑x0.n:Int) == (0:Int)) (
   .rT) <|
 .el x0.1 (x0.n) ((0:Int)) fun y2 =>
  .ql14 (y2.add (Int.toNat (0:Int)*(1:Nat))) fun y3 =>
  .rq ((2:Int)≠(0:Int)) <|
 .ret [.bool (y3.tmod (2:Int) == (0:Int))]) <|
 .rF
theorem fS_NatEven x0:qft qa0 183 [Sc.val .l x0] (tS_NatEven x0) :=fitK (by kernel_rfl)
def aI_IsWord:An:=⟨[(4,[.s 3],[.o (.o (.i .i64))])],[],[]⟩
def tI_IsWord (x0:ByteArray):T :=
 .br (decide ((↑x0.size:Int)<(1:Int))) (
  .rF) <|
 .br (decide ((↑x0.size:Int) > (12:Int))) (
  .rF) <|
 .rq ((0:Int)≤(0:Int)∧(0:Int)<(↑x0.size:Int)) <|
 .qc7 199 [.int .u8 (at0 x0 (Int.toNat (0:Int)))] fun y1 =>
 .bF y1 <|
 .lp [.o (.o (.i .i64))] [.v (.int .i64 1)] fun y2 =>
 .br (decide (y2.1<(↑x0.size:Int))) (
  .rq ((0:Int)≤y2.1∧y2.1<(↑x0.size:Int)) <|
 .qc7 199 [.int .u8 (at0 x0 (Int.toNat y2.1))] fun y3 =>
  .bn y3 (.rq ((0:Int)≤y2.1∧y2.1<(↑x0.size:Int)) <|
 .qc7 200 [.int .u8 (at0 x0 (Int.toNat y2.1))] fun y4 =>
   .bF y4 <|
 .nx 0 [.v (.int .i64 (IntKind.i64.wrap (y2.1+(1:Int))))]) <|
 .nx 0 [.v (.int .i64 (IntKind.i64.wrap (y2.1+(1:Int))))]) <|
 .rT
theorem fI_IsWord x0:qft aI_IsWord 184 [.string x0] (tI_IsWord x0) :=fitK (by kernel_rfl)
def tI_MoneyOk (x0:qy2):T :=
 .qc7 186 [.string x0.1] fun y1 =>
 .br y1 (
  .qc7 201 [qv0 x0.2] fun y2 =>
  .br y2 (
   .ret [.bool (decide ((↑x0.2.2.1.n:Int)≤(4:Int)))]) <|
 .rF) <|
 .rF
theorem fI_MoneyOk x0:qft qa0 185 [qv2 x0] (tI_MoneyOk x0) :=fitK (by kernel_rfl)
def tI_CurKnown (x0:ByteArray):T :=
 .qc50 202 [.string x0] fun y1 =>
 .ret [.bool y1.2.1]
theorem fI_CurKnown x0:qft qa0 186 [.string x0] (tI_CurKnown x0) :=fitK (by kernel_rfl)
def tI_RatOk (x0:qy1):T :=
 .qc7 201 [qv0 (x0.1,x0.2.1,())] fun y1 =>
 .bF y1 <|
 .qc7 203 [Sc.val .l x0.2.2.1] fun y2 =>
 .bF y2 <|
 .br ((↑x0.2.2.1.n:Int) == (0:Int)) (
  .rF) <|
 .br (decide ((↑x0.2.2.1.n:Int) > (18:Int))) (
  .rF) <|
 .br (decide ((↑x0.2.1.n:Int) > (18:Int))) (
  .rF) <|
 .qc10 204 [Sc.val .l x0.2.1,Sc.val .l x0.2.2.1] fun y3 =>
 .br ((↑y3.n:Int) == (1:Int)) (
  .el y3.1 (y3.n) ((0:Int)) fun y4 =>
  .ql14 (y4.add (Int.toNat (0:Int)*(1:Nat))) fun y5 =>
  .ret [.bool (y5 == (1:Int))]) <|
 .rF
theorem fI_RatOk x0:qft qa0 187 [qv1 x0] (tI_RatOk x0) :=fitK (by kernel_rfl)
def tI_RatSign (x0:qy1):T :=
 .qc7 187 [qv1 x0] fun y1 =>
 .bn y1 (.ret [.int .i64 0]) <|
 .qc0 205 [qv0 (x0.1,x0.2.1,())] fun y2 =>
 .ret [.int .i64 y2]
theorem fI_RatSign x0:qft qa0 188 [qv1 x0] (tI_RatSign x0) :=fitK (by kernel_rfl)
def tI_RateOk (x0:qy7):T :=
 .qc7 186 [.string x0.1] fun y1 =>
 .br y1 (
  .qc7 186 [.string x0.2.1] fun y2 =>
  .br y2 (
   .br (!ByteArray.toList x0.1 == ByteArray.toList x0.2.1) (
    .qc7 206 [qv4 x0.2.2] fun y3 =>
    .br y3 (
     .qc0 205 [qv0 (x0.2.2.1,x0.2.2.2.1,())] fun y4 =>
     .br (decide (y4 > (0:Int))) (
      .ret [.bool (decide ((↑x0.2.2.2.1.n:Int)≤(2:Int)))]) <|
 .rF) <|
 .rF) <|
 .rF) <|
 .rF) <|
 .rF
theorem fI_RateOk x0:qft qa0 189 [qv7 x0] (tI_RateOk x0) :=fitK (by kernel_rfl)
def aI_moneyCopy:An:=⟨[],[],[(3,[.s 3])]⟩
def tI_moneyCopy (x0:qy2):T :=
 .rq ((0:Int)≤(↑x0.2.2.1.n:Int)∧(↑x0.2.2.1.n:Int)≤(↑x0.2.2.1.n:Int)∧(↑(8:Nat):Int)*(↑x0.2.2.1.n:Int)≤(281474976710656:Int)∧(↑x0.2.2.1.n:Int)≤(9223372036854775807:Int)) <|
 .rd ({ a:=x0.2.2.1.1,n:=x0.2.2.1.n,c:=x0.2.2.1.c:SlV }) ((1:Nat)) fun y1 =>
 .rq (one y1=true) <|
 .fz ((↑x0.2.2.1.n:Int).toNat) (setl (madeCells { toList:=[Value.int IntKind.i64 (0:Int)]:Array Value } ((↑x0.2.2.1.n:Int).toNat*(1:Nat))).toList (0:Nat) (List.take (x0.2.2.1.n.min (↑x0.2.2.1.n:Int).toNat) y1)) 3 fun b2 c2 =>
 .rg <|
 .rq ((0:Int)≤(0:Int)∧(0:Int)≤(↑(↑x0.2.2.1.n:Int).toNat:Int)∧(↑(↑x0.2.2.1.n:Int).toNat:Int)≤(↑(↑x0.2.2.1.n:Int).toNat:Int)∧(↑(↑x0.2.2.1.n:Int).toNat:Int)≤(↑c2:Int)) <|
 .ret [qv2 (x0.1,x0.2.1,(⟨(if (↑(↑x0.2.2.1.n:Int).toNat:Int).toNat=Int.toNat (0:Int) then some { block:=b2,off:=(0:Nat):Addr } else Option.map (fun x=>x.add (Int.toNat (0:Int)*Go.Proofs.Tryz.prog.types[(3:Nat)].size)) (some { block:=b2,off:=(0:Nat):Addr })),((↑(↑x0.2.2.1.n:Int).toNat:Int).toNat-Int.toNat (0:Int)),((↑(↑x0.2.2.1.n:Int).toNat:Int).toNat-Int.toNat (0:Int))⟩:SlV),())]
theorem fI_moneyCopy x0:qft aI_moneyCopy 190 [qv2 x0] (tI_moneyCopy x0) :=fitK (by kernel_rfl)
def tI_ratCopy (x0:qy1):T :=
 .rg <|
 .qc18 207 [qv0 (x0.1,x0.2.1,())] fun y1 =>
 .qc10 208 [Sc.val .l x0.2.2.1] fun y2 =>
 .ret [qv1 (y1.1,y1.2.1,y2,())]
theorem fI_ratCopy x0:qft qa0 191 [qv1 x0] (tI_ratCopy x0) :=fitK (by kernel_rfl)
def tI_rateCopy (x0:qy7):T :=
 .rg <|
 .qc8 209 [qv4 x0.2.2] fun y1 =>
 .ret [qv7 (x0.1,x0.2.1,y1.1,y1.2.1,((y1.2.2.1):Int),())]
theorem fI_rateCopy x0:qft qa0 192 [qv7 x0] (tI_rateCopy x0) :=fitK (by kernel_rfl)
def aS_NatTen:An:=⟨[(6,[.s 4,.s 5],[.o (.o (.i .i64)),.o (.o (.i .i64))])],[],[]⟩
def tS_NatTen (x0:Int):T :=
 .qc7 83 [.int .i64 x0,.int .i64 0,.int .i64 449] fun y1 =>
 .bn y1 (.ret [.slice none 0 0]) <|
 .rq ((9:Int)≠(0:Int)) <|
 .rq ((0:Int)≤IntKind.i64.wrap (x0.tdiv (9:Int))∧IntKind.i64.wrap (x0.tdiv (9:Int))≤IntKind.i64.wrap (x0.tdiv (9:Int))∧(↑(8:Nat):Int)*IntKind.i64.wrap (x0.tdiv (9:Int))≤(281474976710656:Int)∧IntKind.i64.wrap (x0.tdiv (9:Int))≤(9223372036854775807:Int)) <|
 .lp [.o (.o (.i .i64)),.o (.o (.i .i64))] [.v (.int .i64 1),.v (.int .i64 0)] fun y2 =>
 .rq ((9:Int)≠(0:Int)) <|
 .br (decide (y2.2.1<x0.tmod (9:Int))) (
  .nx 0 [.v (.int .i64 (IntKind.i64.wrap (y2.1*(10:Int)))),.v (.int .i64 (IntKind.i64.wrap (y2.2.1+(1:Int))))]) <|
 .rq ([Value.int IntKind.i64 y2.1].length=(1:Nat)*(1:Nat)) <|
 .rq (one [Value.int IntKind.i64 y2.1]=true∧((IntKind.i64.wrap (x0.tdiv (9:Int))).toNat+(1:Nat))*(8:Nat)≤(140737488355328:Nat)∧(IntKind.i64.wrap (x0.tdiv (9:Int))).toNat+(1:Nat)≤(9223372036854775807:Nat)) <|
 .fz ((IntKind.i64.wrap (x0.tdiv (9:Int))).toNat+(1:Nat)) ((madeCells { toList:=[Value.int IntKind.i64 (0:Int)]:Array Value } ((IntKind.i64.wrap (x0.tdiv (9:Int))).toNat*(1:Nat))).toList++[Value.int IntKind.i64 y2.1]) 3 fun b3 c3 =>
 .ret [.slice (some { block:=b3,off:=(0:Nat):Addr }) ((IntKind.i64.wrap (x0.tdiv (9:Int))).toNat+(1:Nat)) (c3)]
theorem fS_NatTen x0:qft aS_NatTen 193 [.int .i64 x0] (tS_NatTen x0) :=fitK (by kernel_rfl)
def tS_RatSub (x0:qy1) (x1:qy1):T :=
 .qc19 195 [qv1 x1] fun y1 =>
 .bn y1.2.1 (.ret [qv1 ((false),nilS,nilS,()),.bool (false)]) <|
 .qc19 93 [qv1 x0,qv1 y1.1] fun y2 =>
 .ret [qv1 y2.1,.bool y2.2.1]
theorem fS_RatSub x0 x1:qft qa0 194 [qv1 x0,qv1 x1] (tS_RatSub x0 x1) :=fitK (by kernel_rfl)
def tS_RatNeg (x0:qy1):T :=
 .qc7 130 [qv1 x0] fun y1 =>
 .bn y1 (.ret [qv1 ((false),nilS,nilS,()),.bool (false)]) <|
 .rg <|
 .qc18 92 [qv0 (x0.1,x0.2.1,())] fun y2 =>
 .es [] 3 fun b3 =>
 .ra ({ a:=x0.2.2.1.1,n:=x0.2.2.1.n,c:=x0.2.2.1.c:SlV }) ((1:Nat)) fun y4 =>
 .rq (one y4=true∧x0.2.2.1.n*(8:Nat)≤(140737488355328:Nat)∧x0.2.2.1.n≤(9223372036854775807:Nat)) <|
 .br (decide (x0.2.2.1.n=(0:Nat))) (
  .ret [qv1 (y2.1,y2.2.1,(⟨(some { block:=b3,off:=(0:Nat):Addr }),((0:Nat)),((0:Nat))⟩:SlV),()),.bool (true)]) <|
 .fz (x0.2.2.1.n) y4 3 fun b5 c5 =>
 .ret [qv1 (y2.1,y2.2.1,(⟨(some { block:=b5,off:=(0:Nat):Addr }),(x0.2.2.1.n),(c5)⟩:SlV),()),.bool (true)]
theorem fS_RatNeg x0:qft qa0 195 [qv1 x0] (tS_RatNeg x0) :=fitK (by kernel_rfl)
def tI_isLower (x0:Int):T :=
 .br (decide (x0≥(97:Int))) (
  .ret [.bool (decide (x0≤(122:Int)))]) <|
 .rF
theorem fI_isLower x0:qft qa0 199 [.int .u8 x0] (tI_isLower x0) :=fitK (by kernel_rfl)
def tI_isDigit (x0:Int):T :=
 .br (decide (x0≥(48:Int))) (
  .ret [.bool (decide (x0≤(57:Int)))]) <|
 .rF
theorem fI_isDigit x0:qft qa0 200 [.int .u8 x0] (tI_isDigit x0) :=fitK (by kernel_rfl)
def tI_IntOk (x0:qy0):T :=
 .qc7 203 [Sc.val .l x0.2.1] fun y1 =>
 .br y1 (
  .br (!x0.1) (
   .rT) <|
 .ret [.bool (decide ((↑x0.2.1.n:Int) > (0:Int)))]) <|
 .rF
theorem fI_IntOk x0:qft qa0 201 [qv0 x0] (tI_IntOk x0) :=fitK (by kernel_rfl)
def aI_currencyOf:An:=⟨[(2,[.s 7,.c 2 0,.c 2 1,.c 2 2,.c 2 3],[.o (.o (.i .i64)),.o (.o (.s)),.o (.o (.s)),.o (.o (.i .i64)),.o (.o (.i .i64))])],[],[]⟩
def tI_currencyOf (x0:ByteArray):T :=
 .ql51 ({ block:=(0:Nat),off:=(0:Nat):Addr }) fun y1 =>
 .lp [.o (.o (.i .i64)),.o (.o (.s)),.o (.o (.s)),.o (.o (.i .i64)),.o (.o (.i .i64))] [.v (.int .i64 0),.v (.string ({ data:={ toList:=[]:Array UInt8 }:ByteArray })),.v (.string ({ data:={ toList:=[]:Array UInt8 }:ByteArray })),.v (.int .i64 0),.v (.int .i64 0)] fun y2 =>
 .br (decide (y2.1<(20:Int))) (
  .rq ((0:Int)≤y2.1∧y2.1<(↑(20:Nat):Int)) <|
 .xs [.string y1.1,.string y1.2.1,.int .i64 y1.2.2.1,.int .i64 y1.2.2.2.1,.string y1.2.2.2.2.1,.string y1.2.2.2.2.2.1,.int .i64 y1.2.2.2.2.2.2.1,.int .i64 y1.2.2.2.2.2.2.2.1,.string y1.2.2.2.2.2.2.2.2.1,.string y1.2.2.2.2.2.2.2.2.2.1,.int .i64 y1.2.2.2.2.2.2.2.2.2.2.1,.int .i64 y1.2.2.2.2.2.2.2.2.2.2.2.1,.string y1.2.2.2.2.2.2.2.2.2.2.2.2.1,.string y1.2.2.2.2.2.2.2.2.2.2.2.2.2.1,.int .i64 y1.2.2.2.2.2.2.2.2.2.2.2.2.2.2.1,.int .i64 y1.2.2.2.2.2.2.2.2.2.2.2.2.2.2.2.1,.string y1.2.2.2.2.2.2.2.2.2.2.2.2.2.2.2.2.1,.string y1.2.2.2.2.2.2.2.2.2.2.2.2.2.2.2.2.2.1,.int .i64 y1.2.2.2.2.2.2.2.2.2.2.2.2.2.2.2.2.2.2.1,.int .i64 y1.2.2.2.2.2.2.2.2.2.2.2.2.2.2.2.2.2.2.2.1,.string y1.2.2.2.2.2.2.2.2.2.2.2.2.2.2.2.2.2.2.2.2.1,.string y1.2.2.2.2.2.2.2.2.2.2.2.2.2.2.2.2.2.2.2.2.2.1,.int .i64 y1.2.2.2.2.2.2.2.2.2.2.2.2.2.2.2.2.2.2.2.2.2.2.1,.int .i64 y1.2.2.2.2.2.2.2.2.2.2.2.2.2.2.2.2.2.2.2.2.2.2.2.1,.string y1.2.2.2.2.2.2.2.2.2.2.2.2.2.2.2.2.2.2.2.2.2.2.2.2.1,.string y1.2.2.2.2.2.2.2.2.2.2.2.2.2.2.2.2.2.2.2.2.2.2.2.2.2.1,.int .i64 y1.2.2.2.2.2.2.2.2.2.2.2.2.2.2.2.2.2.2.2.2.2.2.2.2.2.2.1,.int .i64 y1.2.2.2.2.2.2.2.2.2.2.2.2.2.2.2.2.2.2.2.2.2.2.2.2.2.2.2.1,.string y1.2.2.2.2.2.2.2.2.2.2.2.2.2.2.2.2.2.2.2.2.2.2.2.2.2.2.2.2.1,.string y1.2.2.2.2.2.2.2.2.2.2.2.2.2.2.2.2.2.2.2.2.2.2.2.2.2.2.2.2.2.1,.int .i64 y1.2.2.2.2.2.2.2.2.2.2.2.2.2.2.2.2.2.2.2.2.2.2.2.2.2.2.2.2.2.2.1,.int .i64 y1.2.2.2.2.2.2.2.2.2.2.2.2.2.2.2.2.2.2.2.2.2.2.2.2.2.2.2.2.2.2.2.1,.string y1.2.2.2.2.2.2.2.2.2.2.2.2.2.2.2.2.2.2.2.2.2.2.2.2.2.2.2.2.2.2.2.2.1,.string y1.2.2.2.2.2.2.2.2.2.2.2.2.2.2.2.2.2.2.2.2.2.2.2.2.2.2.2.2.2.2.2.2.2.1,.int .i64 y1.2.2.2.2.2.2.2.2.2.2.2.2.2.2.2.2.2.2.2.2.2.2.2.2.2.2.2.2.2.2.2.2.2.2.1,.int .i64 y1.2.2.2.2.2.2.2.2.2.2.2.2.2.2.2.2.2.2.2.2.2.2.2.2.2.2.2.2.2.2.2.2.2.2.2.1,.string y1.2.2.2.2.2.2.2.2.2.2.2.2.2.2.2.2.2.2.2.2.2.2.2.2.2.2.2.2.2.2.2.2.2.2.2.2.1,.string y1.2.2.2.2.2.2.2.2.2.2.2.2.2.2.2.2.2.2.2.2.2.2.2.2.2.2.2.2.2.2.2.2.2.2.2.2.2.1,.int .i64 y1.2.2.2.2.2.2.2.2.2.2.2.2.2.2.2.2.2.2.2.2.2.2.2.2.2.2.2.2.2.2.2.2.2.2.2.2.2.2.1,.int .i64 y1.2.2.2.2.2.2.2.2.2.2.2.2.2.2.2.2.2.2.2.2.2.2.2.2.2.2.2.2.2.2.2.2.2.2.2.2.2.2.2.1,.string y1.2.2.2.2.2.2.2.2.2.2.2.2.2.2.2.2.2.2.2.2.2.2.2.2.2.2.2.2.2.2.2.2.2.2.2.2.2.2.2.2.1,.string y1.2.2.2.2.2.2.2.2.2.2.2.2.2.2.2.2.2.2.2.2.2.2.2.2.2.2.2.2.2.2.2.2.2.2.2.2.2.2.2.2.2.1,.int .i64 y1.2.2.2.2.2.2.2.2.2.2.2.2.2.2.2.2.2.2.2.2.2.2.2.2.2.2.2.2.2.2.2.2.2.2.2.2.2.2.2.2.2.2.1,.int .i64 y1.2.2.2.2.2.2.2.2.2.2.2.2.2.2.2.2.2.2.2.2.2.2.2.2.2.2.2.2.2.2.2.2.2.2.2.2.2.2.2.2.2.2.2.1,.string y1.2.2.2.2.2.2.2.2.2.2.2.2.2.2.2.2.2.2.2.2.2.2.2.2.2.2.2.2.2.2.2.2.2.2.2.2.2.2.2.2.2.2.2.2.1,.string y1.2.2.2.2.2.2.2.2.2.2.2.2.2.2.2.2.2.2.2.2.2.2.2.2.2.2.2.2.2.2.2.2.2.2.2.2.2.2.2.2.2.2.2.2.2.1,.int .i64 y1.2.2.2.2.2.2.2.2.2.2.2.2.2.2.2.2.2.2.2.2.2.2.2.2.2.2.2.2.2.2.2.2.2.2.2.2.2.2.2.2.2.2.2.2.2.2.1,.int .i64 y1.2.2.2.2.2.2.2.2.2.2.2.2.2.2.2.2.2.2.2.2.2.2.2.2.2.2.2.2.2.2.2.2.2.2.2.2.2.2.2.2.2.2.2.2.2.2.2.1,.string y1.2.2.2.2.2.2.2.2.2.2.2.2.2.2.2.2.2.2.2.2.2.2.2.2.2.2.2.2.2.2.2.2.2.2.2.2.2.2.2.2.2.2.2.2.2.2.2.2.1,.string y1.2.2.2.2.2.2.2.2.2.2.2.2.2.2.2.2.2.2.2.2.2.2.2.2.2.2.2.2.2.2.2.2.2.2.2.2.2.2.2.2.2.2.2.2.2.2.2.2.2.1,.int .i64 y1.2.2.2.2.2.2.2.2.2.2.2.2.2.2.2.2.2.2.2.2.2.2.2.2.2.2.2.2.2.2.2.2.2.2.2.2.2.2.2.2.2.2.2.2.2.2.2.2.2.2.1,.int .i64 y1.2.2.2.2.2.2.2.2.2.2.2.2.2.2.2.2.2.2.2.2.2.2.2.2.2.2.2.2.2.2.2.2.2.2.2.2.2.2.2.2.2.2.2.2.2.2.2.2.2.2.2.1,.string y1.2.2.2.2.2.2.2.2.2.2.2.2.2.2.2.2.2.2.2.2.2.2.2.2.2.2.2.2.2.2.2.2.2.2.2.2.2.2.2.2.2.2.2.2.2.2.2.2.2.2.2.2.1,.string y1.2.2.2.2.2.2.2.2.2.2.2.2.2.2.2.2.2.2.2.2.2.2.2.2.2.2.2.2.2.2.2.2.2.2.2.2.2.2.2.2.2.2.2.2.2.2.2.2.2.2.2.2.2.1,.int .i64 y1.2.2.2.2.2.2.2.2.2.2.2.2.2.2.2.2.2.2.2.2.2.2.2.2.2.2.2.2.2.2.2.2.2.2.2.2.2.2.2.2.2.2.2.2.2.2.2.2.2.2.2.2.2.2.1,.int .i64 y1.2.2.2.2.2.2.2.2.2.2.2.2.2.2.2.2.2.2.2.2.2.2.2.2.2.2.2.2.2.2.2.2.2.2.2.2.2.2.2.2.2.2.2.2.2.2.2.2.2.2.2.2.2.2.2.1,.string y1.2.2.2.2.2.2.2.2.2.2.2.2.2.2.2.2.2.2.2.2.2.2.2.2.2.2.2.2.2.2.2.2.2.2.2.2.2.2.2.2.2.2.2.2.2.2.2.2.2.2.2.2.2.2.2.2.1,.string y1.2.2.2.2.2.2.2.2.2.2.2.2.2.2.2.2.2.2.2.2.2.2.2.2.2.2.2.2.2.2.2.2.2.2.2.2.2.2.2.2.2.2.2.2.2.2.2.2.2.2.2.2.2.2.2.2.2.1,.int .i64 y1.2.2.2.2.2.2.2.2.2.2.2.2.2.2.2.2.2.2.2.2.2.2.2.2.2.2.2.2.2.2.2.2.2.2.2.2.2.2.2.2.2.2.2.2.2.2.2.2.2.2.2.2.2.2.2.2.2.2.1,.int .i64 y1.2.2.2.2.2.2.2.2.2.2.2.2.2.2.2.2.2.2.2.2.2.2.2.2.2.2.2.2.2.2.2.2.2.2.2.2.2.2.2.2.2.2.2.2.2.2.2.2.2.2.2.2.2.2.2.2.2.2.2.1,.string y1.2.2.2.2.2.2.2.2.2.2.2.2.2.2.2.2.2.2.2.2.2.2.2.2.2.2.2.2.2.2.2.2.2.2.2.2.2.2.2.2.2.2.2.2.2.2.2.2.2.2.2.2.2.2.2.2.2.2.2.2.1,.string y1.2.2.2.2.2.2.2.2.2.2.2.2.2.2.2.2.2.2.2.2.2.2.2.2.2.2.2.2.2.2.2.2.2.2.2.2.2.2.2.2.2.2.2.2.2.2.2.2.2.2.2.2.2.2.2.2.2.2.2.2.2.1,.int .i64 y1.2.2.2.2.2.2.2.2.2.2.2.2.2.2.2.2.2.2.2.2.2.2.2.2.2.2.2.2.2.2.2.2.2.2.2.2.2.2.2.2.2.2.2.2.2.2.2.2.2.2.2.2.2.2.2.2.2.2.2.2.2.2.1,.int .i64 y1.2.2.2.2.2.2.2.2.2.2.2.2.2.2.2.2.2.2.2.2.2.2.2.2.2.2.2.2.2.2.2.2.2.2.2.2.2.2.2.2.2.2.2.2.2.2.2.2.2.2.2.2.2.2.2.2.2.2.2.2.2.2.2.1,.string y1.2.2.2.2.2.2.2.2.2.2.2.2.2.2.2.2.2.2.2.2.2.2.2.2.2.2.2.2.2.2.2.2.2.2.2.2.2.2.2.2.2.2.2.2.2.2.2.2.2.2.2.2.2.2.2.2.2.2.2.2.2.2.2.2.1,.string y1.2.2.2.2.2.2.2.2.2.2.2.2.2.2.2.2.2.2.2.2.2.2.2.2.2.2.2.2.2.2.2.2.2.2.2.2.2.2.2.2.2.2.2.2.2.2.2.2.2.2.2.2.2.2.2.2.2.2.2.2.2.2.2.2.2.1,.int .i64 y1.2.2.2.2.2.2.2.2.2.2.2.2.2.2.2.2.2.2.2.2.2.2.2.2.2.2.2.2.2.2.2.2.2.2.2.2.2.2.2.2.2.2.2.2.2.2.2.2.2.2.2.2.2.2.2.2.2.2.2.2.2.2.2.2.2.2.1,.int .i64 y1.2.2.2.2.2.2.2.2.2.2.2.2.2.2.2.2.2.2.2.2.2.2.2.2.2.2.2.2.2.2.2.2.2.2.2.2.2.2.2.2.2.2.2.2.2.2.2.2.2.2.2.2.2.2.2.2.2.2.2.2.2.2.2.2.2.2.2.1,.string y1.2.2.2.2.2.2.2.2.2.2.2.2.2.2.2.2.2.2.2.2.2.2.2.2.2.2.2.2.2.2.2.2.2.2.2.2.2.2.2.2.2.2.2.2.2.2.2.2.2.2.2.2.2.2.2.2.2.2.2.2.2.2.2.2.2.2.2.2.1,.string y1.2.2.2.2.2.2.2.2.2.2.2.2.2.2.2.2.2.2.2.2.2.2.2.2.2.2.2.2.2.2.2.2.2.2.2.2.2.2.2.2.2.2.2.2.2.2.2.2.2.2.2.2.2.2.2.2.2.2.2.2.2.2.2.2.2.2.2.2.2.1,.int .i64 y1.2.2.2.2.2.2.2.2.2.2.2.2.2.2.2.2.2.2.2.2.2.2.2.2.2.2.2.2.2.2.2.2.2.2.2.2.2.2.2.2.2.2.2.2.2.2.2.2.2.2.2.2.2.2.2.2.2.2.2.2.2.2.2.2.2.2.2.2.2.2.1,.int .i64 y1.2.2.2.2.2.2.2.2.2.2.2.2.2.2.2.2.2.2.2.2.2.2.2.2.2.2.2.2.2.2.2.2.2.2.2.2.2.2.2.2.2.2.2.2.2.2.2.2.2.2.2.2.2.2.2.2.2.2.2.2.2.2.2.2.2.2.2.2.2.2.2.1,.string y1.2.2.2.2.2.2.2.2.2.2.2.2.2.2.2.2.2.2.2.2.2.2.2.2.2.2.2.2.2.2.2.2.2.2.2.2.2.2.2.2.2.2.2.2.2.2.2.2.2.2.2.2.2.2.2.2.2.2.2.2.2.2.2.2.2.2.2.2.2.2.2.2.1,.string y1.2.2.2.2.2.2.2.2.2.2.2.2.2.2.2.2.2.2.2.2.2.2.2.2.2.2.2.2.2.2.2.2.2.2.2.2.2.2.2.2.2.2.2.2.2.2.2.2.2.2.2.2.2.2.2.2.2.2.2.2.2.2.2.2.2.2.2.2.2.2.2.2.2.1,.int .i64 y1.2.2.2.2.2.2.2.2.2.2.2.2.2.2.2.2.2.2.2.2.2.2.2.2.2.2.2.2.2.2.2.2.2.2.2.2.2.2.2.2.2.2.2.2.2.2.2.2.2.2.2.2.2.2.2.2.2.2.2.2.2.2.2.2.2.2.2.2.2.2.2.2.2.2.1,.int .i64 y1.2.2.2.2.2.2.2.2.2.2.2.2.2.2.2.2.2.2.2.2.2.2.2.2.2.2.2.2.2.2.2.2.2.2.2.2.2.2.2.2.2.2.2.2.2.2.2.2.2.2.2.2.2.2.2.2.2.2.2.2.2.2.2.2.2.2.2.2.2.2.2.2.2.2.2.1,.string y1.2.2.2.2.2.2.2.2.2.2.2.2.2.2.2.2.2.2.2.2.2.2.2.2.2.2.2.2.2.2.2.2.2.2.2.2.2.2.2.2.2.2.2.2.2.2.2.2.2.2.2.2.2.2.2.2.2.2.2.2.2.2.2.2.2.2.2.2.2.2.2.2.2.2.2.2.1,.string y1.2.2.2.2.2.2.2.2.2.2.2.2.2.2.2.2.2.2.2.2.2.2.2.2.2.2.2.2.2.2.2.2.2.2.2.2.2.2.2.2.2.2.2.2.2.2.2.2.2.2.2.2.2.2.2.2.2.2.2.2.2.2.2.2.2.2.2.2.2.2.2.2.2.2.2.2.2.1,.int .i64 y1.2.2.2.2.2.2.2.2.2.2.2.2.2.2.2.2.2.2.2.2.2.2.2.2.2.2.2.2.2.2.2.2.2.2.2.2.2.2.2.2.2.2.2.2.2.2.2.2.2.2.2.2.2.2.2.2.2.2.2.2.2.2.2.2.2.2.2.2.2.2.2.2.2.2.2.2.2.2.1,.int .i64 y1.2.2.2.2.2.2.2.2.2.2.2.2.2.2.2.2.2.2.2.2.2.2.2.2.2.2.2.2.2.2.2.2.2.2.2.2.2.2.2.2.2.2.2.2.2.2.2.2.2.2.2.2.2.2.2.2.2.2.2.2.2.2.2.2.2.2.2.2.2.2.2.2.2.2.2.2.2.2.2.1] (Int.toNat y2.1*(4:Nat)) (.g [.s,.s,.i .i64,.i .i64]) fun y3 =>
  .br (ByteArray.toList y3.1 == x0.toList) (
   .ret [qv11 y3,.bool (true)]) <|
 .nx 0 [.v (.int .i64 (IntKind.i64.wrap (y2.1+(1:Int)))),.v (.string y2.2.1),.v (.string y2.2.2.1),.v (.int .i64 y2.2.2.2.1),.v (.int .i64 y2.2.2.2.2.1)]) <|
 .ret [qv11 (({ data:={ toList:=[]:Array UInt8 }:ByteArray }),({ data:={ toList:=[]:Array UInt8 }:ByteArray }),(((0:Int)):Int),(((0:Int)):Int),()),.bool (false)]
theorem fI_currencyOf x0:qft aI_currencyOf 202 [.string x0] (tI_currencyOf x0) :=fitK (by kernel_rfl)
def aI_NatOk:An:=⟨[(4,[.s 24],[.o (.o (.i .i64))])],[],[]⟩
def tI_NatOk (x0:SlV):T :=
 .br (decide ((↑x0.n:Int) > (50:Int))) (
  .rF) <|
 .br (decide ((↑x0.n:Int) > (0:Int))) (
  .el x0.1 (x0.n) (IntKind.i64.wrap ((↑x0.n:Int)-(1:Int))) fun y1 =>
  .ql14 (y1.add ((IntKind.i64.wrap ((↑x0.n:Int)-(1:Int))).toNat*(1:Nat))) fun y2 =>
  .br (y2 == (0:Int)) (
   .rF) <|
 .lp [.o (.o (.i .i64))] [.v (.int .i64 0)] fun y3 =>
  .br (decide (y3.1<(↑x0.n:Int))) (
   .el x0.1 (x0.n) y3.1 fun y4 =>
   .ql14 (y4.add (Int.toNat y3.1*(1:Nat))) fun y5 =>
   .br (decide (y5<(0:Int))) (
    .rF) <|
 .br (decide (y5≥(1000000000:Int))) (
    .rF) <|
 .nx 0 [.v (.int .i64 (IntKind.i64.wrap (y3.1+(1:Int))))]) <|
 .rT) <|
 .lp [.o (.o (.i .i64))] [.v (.int .i64 0)] fun y1 =>
 .br (decide (y1.1<(↑x0.n:Int))) (
  .el x0.1 (x0.n) y1.1 fun y2 =>
  .ql14 (y2.add (Int.toNat y1.1*(1:Nat))) fun y3 =>
  .br (decide (y3<(0:Int))) (
   .rF) <|
 .br (decide (y3≥(1000000000:Int))) (
   .rF) <|
 .nx 0 [.v (.int .i64 (IntKind.i64.wrap (y1.1+(1:Int))))]) <|
 .rT
theorem fI_NatOk x0:qft aI_NatOk 203 [Sc.val .l x0] (tI_NatOk x0) :=fitK (by kernel_rfl)
def aI_natGcd:An:=⟨[(1,[.s 0,.s 1],[.o (.o (.l)),.o (.o (.l))])],[],[]⟩
def tI_natGcd (x0:SlV) (x1:SlV):T :=
 .lp [.o (.o (.l)),.o (.o (.l))] [.v (Sc.val .l x0),.v (Sc.val .l x1)] fun y1 =>
 .br (decide ((↑y1.2.1.n:Int) > (0:Int))) (
  .qc36 212 [Sc.val .l y1.1,Sc.val .l y1.2.1] fun y2 =>
  .nx 0 [.v (Sc.val .l y1.2.1),.v (Sc.val .l y2.2.1)]) <|
 .qc10 208 [Sc.val .l y1.1] fun y2 =>
 .ret [Sc.val .l y2]
theorem fI_natGcd x0 x1:qft aI_natGcd 204 [Sc.val .l x0,Sc.val .l x1] (tI_natGcd x0 x1) :=fitK (by kernel_rfl)
def tI_intSign (x0:qy0):T :=
 .br ((↑x0.2.1.n:Int) == (0:Int)) (
  .ret [.int .i64 0]) <|
 .br x0.1 (
  .rM) <|
 .ret [.int .i64 1]
theorem fI_intSign x0:qft qa0 205 [qv0 x0] (tI_intSign x0) :=fitK (by kernel_rfl)
def tI_DecOk (x0:qy3):T :=
 .qc7 201 [qv0 (x0.1,x0.2.1,())] fun y1 =>
 .br y1 (
  .br (decide ((↑x0.2.1.n:Int)≤(6:Int))) (
   .qc7 213 [.int .i64 x0.2.2.1] fun y2 =>
   .ret [.bool y2]) <|
 .rF) <|
 .rF
theorem fI_DecOk x0:qft qa0 206 [qv4 x0] (tI_DecOk x0) :=fitK (by kernel_rfl)
def tI_intCopy (x0:qy0):T :=
 .rg <|
 .qc21 208 [Sc.val .l x0.2.1] fun y1 =>
 .ret [qv0 (x0.1,y1,())]
theorem fI_intCopy x0:qft qa0 207 [qv0 x0] (tI_intCopy x0) :=fitK (by kernel_rfl)
def tI_natCopy (x0:SlV):T :=
 .rd ({ a:=x0.1,n:=x0.n,c:=x0.c:SlV }) ((1:Nat)) fun y1 =>
 .rq (one y1=true∧((0:Nat)+x0.n)*(8:Nat)≤(140737488355328:Nat)∧(0:Nat)+x0.n≤(9223372036854775807:Nat)) <|
 .fz ((0:Nat)+x0.n) ([]++y1) 3 fun b2 c2 =>
 .ret [.slice (some { block:=b2,off:=(0:Nat):Addr }) ((0:Nat)+x0.n) (c2)]
theorem fI_natCopy x0:qft qa0 208 [Sc.val .l x0] (tI_natCopy x0) :=fitK (by kernel_rfl)
def tI_decCopy (x0:qy3):T :=
 .rg <|
 .qc18 207 [qv0 (x0.1,x0.2.1,())] fun y1 =>
 .ret [qv4 (y1.1,y1.2.1,((x0.2.2.1):Int),())]
theorem fI_decCopy x0:qft qa0 209 [qv4 x0] (tI_decCopy x0) :=fitK (by kernel_rfl)
def aI_natDiv:An:=⟨[(9,[.s 9],[.o (.o (.l))]),(14,[.s 12,.s 13],[.a 3,.o (.o (.i .i64))])],[],[]⟩
def tI_natDiv (x0:SlV) (x1:SlV):T :=
 .qc0 214 [Sc.val .l x0,Sc.val .l x1] fun y1 =>
 .br (decide (y1<(0:Int))) (
  .qc10 208 [Sc.val .l x0] fun y2 =>
  .fz ((0:Nat)) [] 3 fun b3 c3 =>
  .ret [.slice (some { block:=b3,off:=(0:Nat):Addr }) ((0:Nat)) (c3),Sc.val .l y2]) <|
 .br ((↑x1.n:Int) == (1:Int)) (
  .el x1.1 (x1.n) ((0:Int)) fun y2 =>
  .ql14 (y2.add (Int.toNat (0:Int)*(1:Nat))) fun y3 =>
  .qc47 215 [Sc.val .l x0,.int .i64 y3] fun y4 =>
  .qc10 216 [.int .i64 y4.2.1] fun y5 =>
  .ret [Sc.val .l y4.1,Sc.val .l y5]) <|
 .el x1.1 (x1.n) (IntKind.i64.wrap ((↑x1.n:Int)-(1:Int))) fun y2 =>
 .ql14 (y2.add ((IntKind.i64.wrap ((↑x1.n:Int)-(1:Int))).toNat*(1:Nat))) fun y3 =>
 .rq (IntKind.i64.wrap (y3+(1:Int))≠(0:Int)) <|
 .fz ((1:Nat)) [.int .i64 (IntKind.i64.wrap (Int.tdiv (1000000000:Int) (IntKind.i64.wrap (y3+(1:Int)))))] 3 fun b4 c4 =>
 .qc10 217 [Sc.val .l x0,.slice (some { block:=b4,off:=(0:Nat):Addr }) ((1:Nat)) (c4)] fun y5 =>
 .fz ((1:Nat)) [.int .i64 (IntKind.i64.wrap (Int.tdiv (1000000000:Int) (IntKind.i64.wrap (y3+(1:Int)))))] 3 fun b6 c6 =>
 .qc10 217 [Sc.val .l x1,.slice (some { block:=b6,off:=(0:Nat):Addr }) ((1:Nat)) (c6)] fun y7 =>
 .lp [.o (.o (.l))] [.v (Sc.val .l y5)] fun y8 =>
 .br (decide ((↑y8.1.n:Int)≤(↑x0.n:Int))) (
  .rq ([Value.int IntKind.i64 (0:Int)].length=(1:Nat)*(1:Nat)) <|
 .rq (one [Value.int IntKind.i64 (0:Int)]=true) <|
 .ap ({ a:=y8.1.1,n:=y8.1.n,c:=y8.1.c:SlV }) 1 8 [.int .i64 0] ((1:Nat)) 3 fun y9 =>
  .nx 0 [.v (Sc.val .l y9)]) <|
 .rq ((0:Int)≤IntKind.i64.wrap ((↑y8.1.n:Int)-(↑y7.n:Int))∧IntKind.i64.wrap ((↑y8.1.n:Int)-(↑y7.n:Int))≤IntKind.i64.wrap ((↑y8.1.n:Int)-(↑y7.n:Int))∧(↑(8:Nat):Int)*IntKind.i64.wrap ((↑y8.1.n:Int)-(↑y7.n:Int))≤(281474976710656:Int)∧IntKind.i64.wrap ((↑y8.1.n:Int)-(↑y7.n:Int))≤(9223372036854775807:Int)) <|
 .lp [.a 3,.o (.o (.i .i64))] [.a 3 ((IntKind.i64.wrap ((↑y8.1.n:Int)-(↑y7.n:Int))).toNat) ((madeCells { toList:=[Value.int IntKind.i64 (0:Int)]:Array Value } ((IntKind.i64.wrap ((↑y8.1.n:Int)-(↑y7.n:Int))).toNat*(1:Nat))).toList),.v (.int .i64 (IntKind.i64.wrap ((↑(IntKind.i64.wrap ((↑y8.1.n:Int)-(↑y7.n:Int))).toNat:Int)-(1:Int))))] fun y9 =>
 .br (decide (y9.2.1≥(0:Int))) (
  .rq ((0:Int)≤y9.2.1∧y9.2.1≤IntKind.i64.wrap (IntKind.i64.wrap (y9.2.1+(↑y7.n:Int))+(1:Int))∧IntKind.i64.wrap (IntKind.i64.wrap (y9.2.1+(↑y7.n:Int))+(1:Int))≤(↑y8.1.c:Int)∧(↑y8.1.c:Int)≤(↑y8.1.c:Int)) <|
 .qc0 218 [.slice (if (↑y8.1.c:Int).toNat=Int.toNat y9.2.1 then y8.1.1 else Option.map (fun x=>x.add (Int.toNat y9.2.1*Go.Proofs.Tryz.prog.types[(3:Nat)].size)) y8.1.1) ((IntKind.i64.wrap (IntKind.i64.wrap (y9.2.1+(↑y7.n:Int))+(1:Int))).toNat-Int.toNat y9.2.1) ((↑y8.1.c:Int).toNat-Int.toNat y9.2.1),Sc.val .l y7] fun y10 =>
  .rq ((0:Int)≤y9.2.1∧y9.2.1<(↑y9.1.1:Int)) <|
 .rq (Int.toNat y9.2.1*(1:Nat)+[Value.int IntKind.i64 y10].length≤y9.1.2.length) <|
 .nx 1 [.a 3 y9.1.1 (setl y9.1.2 (Int.toNat y9.2.1*(1:Nat)) [Value.int IntKind.i64 y10]),.v (.int .i64 (IntKind.i64.wrap (y9.2.1-(1:Int))))]) <|
 .qc10 219 [Sc.val .l y8.1] fun y10 =>
 .qc47 215 [Sc.val .l y10,.int .i64 (IntKind.i64.wrap (Int.tdiv (1000000000:Int) (IntKind.i64.wrap (y3+(1:Int)))))] fun y11 =>
 .fz y9.1.1 y9.1.2 3 fun b12 c12 =>
 .qc10 219 [.slice (some { block:=b12,off:=(0:Nat):Addr }) y9.1.1 (c12)] fun y13 =>
 .ret [Sc.val .l y13,Sc.val .l y11.1]
theorem fI_natDiv x0 x1:qft aI_natDiv 212 [Sc.val .l x0,Sc.val .l x1] (tI_natDiv x0 x1) :=fitK (by kernel_rfl)
def tI_isScale (x0:Int):T :=
 .br (decide (x0≥(0:Int))) (
  .ret [.bool (decide (x0≤(30:Int)))]) <|
 .rF
theorem fI_isScale x0:qft qa0 213 [.int .i64 x0] (tI_isScale x0) :=fitK (by kernel_rfl)
def aI_natCmp:An:=⟨[(6,[.s 5],[.o (.o (.i .i64))])],[],[]⟩
def tI_natCmp (x0:SlV) (x1:SlV):T :=
 .br ((↑x0.n:Int) != (↑x1.n:Int)) (
  .br (decide ((↑x0.n:Int)<(↑x1.n:Int))) (
   .rM) <|
 .ret [.int .i64 1]) <|
 .lp [.o (.o (.i .i64))] [.v (.int .i64 (IntKind.i64.wrap ((↑x0.n:Int)-(1:Int))))] fun y1 =>
 .br (decide (y1.1≥(0:Int))) (
  .rg <|
 .el x0.1 (x0.n) y1.1 fun y2 =>
  .ql15 (y2.add (Int.toNat y1.1*(1:Nat))) fun y3 =>
  .el x1.1 (x1.n) y1.1 fun y4 =>
  .ql15 (y4.add (Int.toNat y1.1*(1:Nat))) fun y5 =>
  .br (y3 != y5) (
   .rg <|
 .el x0.1 (x0.n) y1.1 fun y6 =>
   .ql15 (y6.add (Int.toNat y1.1*(1:Nat))) fun y7 =>
   .el x1.1 (x1.n) y1.1 fun y8 =>
   .ql15 (y8.add (Int.toNat y1.1*(1:Nat))) fun y9 =>
   .br (decide (y7<y9)) (
    .rM) <|
 .ret [.int .i64 1]) <|
 .nx 0 [.v (.int .i64 (IntKind.i64.wrap (y1.1-(1:Int))))]) <|
 .ret [.int .i64 0]
theorem fI_natCmp x0 x1:qft aI_natCmp 214 [Sc.val .l x0,Sc.val .l x1] (tI_natCmp x0 x1) :=fitK (by kernel_rfl)
def aI_natSmall:An:=⟨[(4,[.s 6,.s 7,.s 8],[.a 3,.o (.o (.i .i64)),.o (.o (.i .i64))])],[],[]⟩
def tI_natSmall (x0:SlV) (x1:Int):T :=
 .rq ((0:Int)≤(↑x0.n:Int)∧(↑x0.n:Int)≤(↑x0.n:Int)∧(↑(8:Nat):Int)*(↑x0.n:Int)≤(281474976710656:Int)∧(↑x0.n:Int)≤(9223372036854775807:Int)) <|
 .lp [.a 3,.o (.o (.i .i64)),.o (.o (.i .i64))] [.a 3 ((↑x0.n:Int).toNat) ((madeCells { toList:=[Value.int IntKind.i64 (0:Int)]:Array Value } ((↑x0.n:Int).toNat*(1:Nat))).toList),.v (.int .i64 0),.v (.int .i64 (IntKind.i64.wrap ((↑x0.n:Int)-(1:Int))))] fun y1 =>
 .br (decide (y1.2.2.1≥(0:Int))) (
  .el x0.1 (x0.n) y1.2.2.1 fun y2 =>
  .ql14 (y2.add (Int.toNat y1.2.2.1*(1:Nat))) fun y3 =>
  .rq (x1≠(0:Int)) <|
 .rq ((0:Int)≤y1.2.2.1∧y1.2.2.1<(↑y1.1.1:Int)) <|
 .rq (Int.toNat y1.2.2.1*(1:Nat)+[Value.int IntKind.i64 (IntKind.i64.wrap ((IntKind.i64.wrap (IntKind.i64.wrap (y1.2.1*(1000000000:Int))+y3)).tdiv x1))].length≤y1.1.2.length) <|
 .rq (x1≠(0:Int)) <|
 .nx 0 [.a 3 y1.1.1 (setl y1.1.2 (Int.toNat y1.2.2.1*(1:Nat)) [Value.int IntKind.i64 (IntKind.i64.wrap ((IntKind.i64.wrap (IntKind.i64.wrap (y1.2.1*(1000000000:Int))+y3)).tdiv x1))]),.v (.int .i64 ((IntKind.i64.wrap (IntKind.i64.wrap (y1.2.1*(1000000000:Int))+y3)).tmod x1)),.v (.int .i64 (IntKind.i64.wrap (y1.2.2.1-(1:Int))))]) <|
 .fz y1.1.1 y1.1.2 3 fun b2 c2 =>
 .qc10 219 [.slice (some { block:=b2,off:=(0:Nat):Addr }) y1.1.1 (c2)] fun y3 =>
 .ret [Sc.val .l y3,.int .i64 y1.2.1]
theorem fI_natSmall x0 x1:qft aI_natSmall 215 [Sc.val .l x0,.int .i64 x1] (tI_natSmall x0 x1) :=fitK (by kernel_rfl)
def tI_NatOf (x0:Int):T :=
 .br (decide (x0<(0:Int))) (
  .ret [.slice none 0 0]) <|
 .qc10 220 [.int .u64 (IntKind.u64.wrap x0)] fun y1 =>
 .ret [Sc.val .l y1]
theorem fI_NatOf x0:qft qa0 216 [.int .i64 x0] (tI_NatOf x0) :=fitK (by kernel_rfl)
def aI_natMul:An:=⟨[(3,[.s 5,.s 21],[.a 3,.o (.o (.i .i64))]),(7,[.s 5,.s 8,.s 28],[.a 3,.o (.o (.i .i64)),.o (.o (.i .i64))]),(14,[.s 5,.s 8,.s 11],[.a 3,.o (.o (.i .i64)),.o (.o (.i .i64))])],[],[]⟩
def tI_natMul (x0:SlV) (x1:SlV):T :=
 .rq ((0:Int)≤IntKind.i64.wrap (IntKind.i64.wrap ((↑x0.n:Int)+(↑x1.n:Int))+(1:Int))∧IntKind.i64.wrap (IntKind.i64.wrap ((↑x0.n:Int)+(↑x1.n:Int))+(1:Int))≤IntKind.i64.wrap (IntKind.i64.wrap ((↑x0.n:Int)+(↑x1.n:Int))+(1:Int))∧(↑(8:Nat):Int)*IntKind.i64.wrap (IntKind.i64.wrap ((↑x0.n:Int)+(↑x1.n:Int))+(1:Int))≤(281474976710656:Int)∧IntKind.i64.wrap (IntKind.i64.wrap ((↑x0.n:Int)+(↑x1.n:Int))+(1:Int))≤(9223372036854775807:Int)) <|
 .lp [.a 3,.o (.o (.i .i64))] [.a 3 ((IntKind.i64.wrap (IntKind.i64.wrap ((↑x0.n:Int)+(↑x1.n:Int))+(1:Int))).toNat) ((madeCells { toList:=[Value.int IntKind.i64 (0:Int)]:Array Value } ((IntKind.i64.wrap (IntKind.i64.wrap ((↑x0.n:Int)+(↑x1.n:Int))+(1:Int))).toNat*(1:Nat))).toList),.v (.int .i64 0)] fun y1 =>
 .br (decide (y1.2.1<(↑x0.n:Int))) (
  .el x0.1 (x0.n) y1.2.1 fun y2 =>
  .ql14 (y2.add (Int.toNat y1.2.1*(1:Nat))) fun y3 =>
  .lp [.a 3,.o (.o (.i .i64)),.o (.o (.i .i64))] [.a 3 y1.1.1 y1.1.2,.v (.int .i64 0),.v (.int .i64 0)] fun y4 =>
  .br (decide (y4.2.2.1<(↑x1.n:Int))) (
   .el x1.1 (x1.n) y4.2.2.1 fun y5 =>
   .ql14 (y5.add (Int.toNat y4.2.2.1*(1:Nat))) fun y6 =>
   .rq ((0:Int)≤IntKind.i64.wrap (y1.2.1+y4.2.2.1)∧IntKind.i64.wrap (y1.2.1+y4.2.2.1)<(↑y4.1.1:Int)) <|
 .xs y4.1.2 ((IntKind.i64.wrap (y1.2.1+y4.2.2.1)).toNat*(1:Nat)) (.o (.i .i64)) fun y7 =>
   .rq ((1000000000:Int)≠(0:Int)) <|
 .rq ((0:Int)≤IntKind.i64.wrap (y1.2.1+y4.2.2.1)∧IntKind.i64.wrap (y1.2.1+y4.2.2.1)<(↑y4.1.1:Int)) <|
 .rq ((IntKind.i64.wrap (y1.2.1+y4.2.2.1)).toNat*(1:Nat)+[Value.int IntKind.i64 ((IntKind.i64.wrap (y4.2.1+IntKind.i64.wrap (y7+IntKind.i64.wrap (y3*y6)))).tmod (1000000000:Int))].length≤y4.1.2.length) <|
 .rq ((1000000000:Int)≠(0:Int)) <|
 .nx 1 [.a 3 y4.1.1 (setl y4.1.2 ((IntKind.i64.wrap (y1.2.1+y4.2.2.1)).toNat*(1:Nat)) [Value.int IntKind.i64 ((IntKind.i64.wrap (y4.2.1+IntKind.i64.wrap (y7+IntKind.i64.wrap (y3*y6)))).tmod (1000000000:Int))]),.v (.int .i64 (IntKind.i64.wrap ((IntKind.i64.wrap (y4.2.1+IntKind.i64.wrap (y7+IntKind.i64.wrap (y3*y6)))).tdiv (1000000000:Int)))),.v (.int .i64 (IntKind.i64.wrap (y4.2.2.1+(1:Int))))]) <|
 .lp [.a 3,.o (.o (.i .i64)),.o (.o (.i .i64))] [.a 3 y4.1.1 y4.1.2,.v (.int .i64 y4.2.1),.v (.int .i64 (IntKind.i64.wrap (y1.2.1+(↑x1.n:Int))))] fun y5 =>
  .br (decide (y5.2.1 > (0:Int))) (
   .rq ((0:Int)≤y5.2.2.1∧y5.2.2.1<(↑y5.1.1:Int)) <|
 .xs y5.1.2 (Int.toNat y5.2.2.1*(1:Nat)) (.o (.i .i64)) fun y6 =>
   .rq ((1000000000:Int)≠(0:Int)) <|
 .rq ((0:Int)≤y5.2.2.1∧y5.2.2.1<(↑y5.1.1:Int)) <|
 .rq (Int.toNat y5.2.2.1*(1:Nat)+[Value.int IntKind.i64 ((IntKind.i64.wrap (y5.2.1+y6)).tmod (1000000000:Int))].length≤y5.1.2.length) <|
 .rq ((1000000000:Int)≠(0:Int)) <|
 .nx 2 [.a 3 y5.1.1 (setl y5.1.2 (Int.toNat y5.2.2.1*(1:Nat)) [Value.int IntKind.i64 ((IntKind.i64.wrap (y5.2.1+y6)).tmod (1000000000:Int))]),.v (.int .i64 (IntKind.i64.wrap ((IntKind.i64.wrap (y5.2.1+y6)).tdiv (1000000000:Int)))),.v (.int .i64 (IntKind.i64.wrap (y5.2.2.1+(1:Int))))]) <|
 .nx 0 [.a 3 y5.1.1 y5.1.2,.v (.int .i64 (IntKind.i64.wrap (y1.2.1+(1:Int))))]) <|
 .fz y1.1.1 y1.1.2 3 fun b2 c2 =>
 .qc10 219 [.slice (some { block:=b2,off:=(0:Nat):Addr }) y1.1.1 (c2)] fun y3 =>
 .ret [Sc.val .l y3]
theorem fI_natMul x0 x1:qft aI_natMul 217 [Sc.val .l x0,Sc.val .l x1] (tI_natMul x0 x1) :=fitK (by kernel_rfl)
def aI_divStep:An:=⟨[(4,[.s 7],[.o (.o (.i .i64))])],[],[]⟩
def tI_divStep (x0:SlV) (x1:SlV):T :=
 .rg <|
 .el x0.1 (x0.n) ((↑x1.n:Int)) fun y1 =>
 .ql15 (y1.add ((↑x1.n:Int).toNat*(1:Nat))) fun y2 =>
 .el x0.1 (x0.n) (IntKind.i64.wrap ((↑x1.n:Int)-(1:Int))) fun y3 =>
 .ql15 (y3.add ((IntKind.i64.wrap ((↑x1.n:Int)-(1:Int))).toNat*(1:Nat))) fun y4 =>
 .el x1.1 (x1.n) (IntKind.i64.wrap ((↑x1.n:Int)-(1:Int))) fun y5 =>
 .ql14 (y5.add ((IntKind.i64.wrap ((↑x1.n:Int)-(1:Int))).toNat*(1:Nat))) fun y6 =>
 .rq (y6≠(0:Int)) <|
 .lp [.o (.o (.i .i64))] [.v (.int .i64 (if (999999999:Int)<IntKind.i64.wrap ((IntKind.i64.wrap (IntKind.i64.wrap (y2*(1000000000:Int))+y4)).tdiv y6) then (999999999:Int) else IntKind.i64.wrap ((IntKind.i64.wrap (IntKind.i64.wrap (y2*(1000000000:Int))+y4)).tdiv y6)))] fun y7 =>
 .rg <|
 .br (decide (y7.1 > (0:Int))) (
  .el x1.1 (x1.n) (IntKind.i64.wrap ((↑x1.n:Int)-(1:Int))) fun y8 =>
  .ql15 (y8.add ((IntKind.i64.wrap ((↑x1.n:Int)-(1:Int))).toNat*(1:Nat))) fun y9 =>
  .br (decide (IntKind.i64.wrap (IntKind.i64.wrap (IntKind.i64.wrap (y2*(1000000000:Int))+y4)-IntKind.i64.wrap (y7.1*y9))<(1000000000:Int))) (
   .el x1.1 (x1.n) (IntKind.i64.wrap ((↑x1.n:Int)-(2:Int))) fun y10 =>
   .ql15 (y10.add ((IntKind.i64.wrap ((↑x1.n:Int)-(2:Int))).toNat*(1:Nat))) fun y11 =>
   .el x1.1 (x1.n) (IntKind.i64.wrap ((↑x1.n:Int)-(1:Int))) fun y12 =>
   .ql15 (y12.add ((IntKind.i64.wrap ((↑x1.n:Int)-(1:Int))).toNat*(1:Nat))) fun y13 =>
   .el x0.1 (x0.n) (IntKind.i64.wrap ((↑x1.n:Int)-(2:Int))) fun y14 =>
   .ql15 (y14.add ((IntKind.i64.wrap ((↑x1.n:Int)-(2:Int))).toNat*(1:Nat))) fun y15 =>
   .br (decide (IntKind.i64.wrap (y7.1*y11) > IntKind.i64.wrap (IntKind.i64.wrap (IntKind.i64.wrap (IntKind.i64.wrap (IntKind.i64.wrap (y2*(1000000000:Int))+y4)-IntKind.i64.wrap (y7.1*y13))*(1000000000:Int))+y15))) (
    .nx 0 [.v (.int .i64 (IntKind.i64.wrap (y7.1-(1:Int))))]) <|
 .qc7 221 [Sc.val .l x0,Sc.val .l x1,.int .i64 y7.1] fun y16 =>
   .br y16 (
    .qc52 222 [Sc.val .l x0,Sc.val .l x1] fun _ =>
    .ret [.int .i64 (IntKind.i64.wrap (y7.1-(1:Int)))]) <|
 .ret [.int .i64 y7.1]) <|
 .qc7 221 [Sc.val .l x0,Sc.val .l x1,.int .i64 y7.1] fun y10 =>
  .br y10 (
   .qc52 222 [Sc.val .l x0,Sc.val .l x1] fun _ =>
   .ret [.int .i64 (IntKind.i64.wrap (y7.1-(1:Int)))]) <|
 .ret [.int .i64 y7.1]) <|
 .qc7 221 [Sc.val .l x0,Sc.val .l x1,.int .i64 y7.1] fun y8 =>
 .br y8 (
  .qc52 222 [Sc.val .l x0,Sc.val .l x1] fun _ =>
  .ret [.int .i64 (IntKind.i64.wrap (y7.1-(1:Int)))]) <|
 .ret [.int .i64 y7.1]
theorem fI_divStep x0 x1:qft aI_divStep 218 [Sc.val .l x0,Sc.val .l x1] (tI_divStep x0 x1) :=fitK (by kernel_rfl)
def aI_trim:An:=⟨[(1,[.s 0],[.o (.o (.l))])],[],[]⟩
def tI_trim (x0:SlV):T :=
 .lp [.o (.o (.l))] [.v (Sc.val .l x0)] fun y1 =>
 .br (decide ((↑y1.1.n:Int) > (0:Int))) (
  .el y1.1.1 (y1.1.n) (IntKind.i64.wrap ((↑y1.1.n:Int)-(1:Int))) fun y2 =>
  .ql14 (y2.add ((IntKind.i64.wrap ((↑y1.1.n:Int)-(1:Int))).toNat*(1:Nat))) fun y3 =>
  .br (y3 == (0:Int)) (
   .rq ((0:Int)≤(0:Int)∧(0:Int)≤IntKind.i64.wrap ((↑y1.1.n:Int)-(1:Int))∧IntKind.i64.wrap ((↑y1.1.n:Int)-(1:Int))≤(↑y1.1.c:Int)∧(↑y1.1.c:Int)≤(↑y1.1.c:Int)) <|
 .nx 0 [.v (.slice (if (↑y1.1.c:Int).toNat=Int.toNat (0:Int) then y1.1.1 else Option.map (fun x=>x.add (Int.toNat (0:Int)*Go.Proofs.Tryz.prog.types[(3:Nat)].size)) y1.1.1) ((IntKind.i64.wrap ((↑y1.1.n:Int)-(1:Int))).toNat-Int.toNat (0:Int)) ((↑y1.1.c:Int).toNat-Int.toNat (0:Int)))]) <|
 .ret [Sc.val .l y1.1]) <|
 .ret [Sc.val .l y1.1]
theorem fI_trim x0:qft aI_trim 219 [Sc.val .l x0] (tI_trim x0) :=fitK (by kernel_rfl)
def aI_natOf:An:=⟨[(2,[.s 0,.s 3],[.o (.o (.i .u64)),.a 3])],[],[]⟩
def tI_natOf (x0:Int):T :=
 .lp [.o (.o (.i .u64)),.a 3] [.v (.int .u64 x0),.a 3 ((0:Nat)) []] fun y1 =>
 .br (decide (y1.1 > (0:Int))) (
  .rq ((1000000000:Int)≠(0:Int)) <|
 .rq ([Value.int IntKind.i64 (IntKind.i64.wrap (Int.tmod y1.1 (1000000000:Int)))].length=(1:Nat)*(1:Nat)) <|
 .rq (one [Value.int IntKind.i64 (IntKind.i64.wrap (Int.tmod y1.1 (1000000000:Int)))]=true∧(y1.2.1.1+(1:Nat))*(8:Nat)≤(140737488355328:Nat)∧y1.2.1.1+(1:Nat)≤(9223372036854775807:Nat)) <|
 .rq ((1000000000:Int)≠(0:Int)) <|
 .nx 0 [.v (.int .u64 (IntKind.u64.wrap (Int.tdiv y1.1 (1000000000:Int)))),.a 3 (y1.2.1.1+(1:Nat)) (y1.2.1.2++[Value.int IntKind.i64 (IntKind.i64.wrap (Int.tmod y1.1 (1000000000:Int)))])]) <|
 .fz y1.2.1.1 y1.2.1.2 3 fun b2 c2 =>
 .ret [.slice (some { block:=b2,off:=(0:Nat):Addr }) y1.2.1.1 (c2)]
theorem fI_natOf x0:qft aI_natOf 220 [.int .u64 x0] (tI_natOf x0) :=fitK (by kernel_rfl)
def aI_subTimes:An:=⟨[(3,[.s 0,.s 7,.s 13],[.o (.o (.l)),.o (.o (.i .i64)),.o (.o (.i .i64))])],[],[]⟩
def tI_subTimes (x0:SlV) (x1:SlV) (x2:Int):T :=
 .lp [.o (.o (.l)),.o (.o (.i .i64)),.o (.o (.i .i64))] [.v (Sc.val .l x0),.v (.int .i64 0),.v (.int .i64 0)] fun y1 =>
 .br (decide (y1.2.2.1<(↑x1.n:Int))) (
  .el x1.1 (x1.n) y1.2.2.1 fun y2 =>
  .ql14 (y2.add (Int.toNat y1.2.2.1*(1:Nat))) fun y3 =>
  .el y1.1.1 (y1.1.n) y1.2.2.1 fun y4 =>
  .ql14 (y4.add (Int.toNat y1.2.2.1*(1:Nat))) fun y5 =>
  .br (decide (IntKind.i64.wrap (IntKind.i64.wrap (y5-IntKind.i64.wrap (y3*x2))-y1.2.1)<(0:Int))) (
   .rq ((1000000000:Int)≠(0:Int)) <|
 .el y1.1.1 (y1.1.n) y1.2.2.1 fun y6 =>
   .st (y6.add (Int.toNat y1.2.2.1*(1:Nat))) [.int .i64 (IntKind.i64.wrap (IntKind.i64.wrap (IntKind.i64.wrap (y5-IntKind.i64.wrap (y3*x2))-y1.2.1)+IntKind.i64.wrap (IntKind.i64.wrap ((IntKind.i64.wrap (IntKind.i64.wrap (IntKind.i64.wrap ((0:Int)-IntKind.i64.wrap (IntKind.i64.wrap (y5-IntKind.i64.wrap (y3*x2))-y1.2.1))+(1000000000:Int))-(1:Int))).tdiv (1000000000:Int))*(1000000000:Int))))] <|
 .nx 0 [.v (Sc.val .l y1.1),.v (.int .i64 (IntKind.i64.wrap ((IntKind.i64.wrap (IntKind.i64.wrap (IntKind.i64.wrap ((0:Int)-IntKind.i64.wrap (IntKind.i64.wrap (y5-IntKind.i64.wrap (y3*x2))-y1.2.1))+(1000000000:Int))-(1:Int))).tdiv (1000000000:Int)))),.v (.int .i64 (IntKind.i64.wrap (y1.2.2.1+(1:Int))))]) <|
 .el y1.1.1 (y1.1.n) y1.2.2.1 fun y6 =>
  .st (y6.add (Int.toNat y1.2.2.1*(1:Nat))) [.int .i64 (IntKind.i64.wrap (IntKind.i64.wrap (y5-IntKind.i64.wrap (y3*x2))-y1.2.1))] <|
 .nx 0 [.v (Sc.val .l y1.1),.v (.int .i64 0),.v (.int .i64 (IntKind.i64.wrap (y1.2.2.1+(1:Int))))]) <|
 .el y1.1.1 (y1.1.n) ((↑x1.n:Int)) fun y2 =>
 .ql14 (y2.add ((↑x1.n:Int).toNat*(1:Nat))) fun y3 =>
 .el y1.1.1 (y1.1.n) ((↑x1.n:Int)) fun y4 =>
 .st (y4.add ((↑x1.n:Int).toNat*(1:Nat))) [.int .i64 (IntKind.i64.wrap (y3-y1.2.1))] <|
 .el y1.1.1 (y1.1.n) ((↑x1.n:Int)) fun y5 =>
 .ql14 (y5.add ((↑x1.n:Int).toNat*(1:Nat))) fun y6 =>
 .ret [.bool (decide (y6<(0:Int)))]
theorem fI_subTimes x0 x1 x2:qft aI_subTimes 221 [Sc.val .l x0,Sc.val .l x1,.int .i64 x2] (tI_subTimes x0 x1 x2) :=fitK (by kernel_rfl)
def aI_addBack:An:=⟨[(2,[.s 0,.s 4,.s 9],[.o (.o (.l)),.o (.o (.i .i64)),.o (.o (.i .i64))])],[],[]⟩
def tI_addBack (x0:SlV) (x1:SlV):T :=
 .lp [.o (.o (.l)),.o (.o (.i .i64)),.o (.o (.i .i64))] [.v (Sc.val .l x0),.v (.int .i64 0),.v (.int .i64 0)] fun y1 =>
 .br (decide (y1.2.2.1<(↑x1.n:Int))) (
  .el x1.1 (x1.n) y1.2.2.1 fun y2 =>
  .ql14 (y2.add (Int.toNat y1.2.2.1*(1:Nat))) fun y3 =>
  .el y1.1.1 (y1.1.n) y1.2.2.1 fun y4 =>
  .ql14 (y4.add (Int.toNat y1.2.2.1*(1:Nat))) fun y5 =>
  .rq ((1000000000:Int)≠(0:Int)) <|
 .el y1.1.1 (y1.1.n) y1.2.2.1 fun y6 =>
  .st (y6.add (Int.toNat y1.2.2.1*(1:Nat))) [.int .i64 ((IntKind.i64.wrap (y1.2.1+IntKind.i64.wrap (y5+y3))).tmod (1000000000:Int))] <|
 .rq ((1000000000:Int)≠(0:Int)) <|
 .nx 0 [.v (Sc.val .l y1.1),.v (.int .i64 (IntKind.i64.wrap ((IntKind.i64.wrap (y1.2.1+IntKind.i64.wrap (y5+y3))).tdiv (1000000000:Int)))),.v (.int .i64 (IntKind.i64.wrap (y1.2.2.1+(1:Int))))]) <|
 .el y1.1.1 (y1.1.n) ((↑x1.n:Int)) fun y2 =>
 .ql14 (y2.add ((↑x1.n:Int).toNat*(1:Nat))) fun y3 =>
 .el y1.1.1 (y1.1.n) ((↑x1.n:Int)) fun y4 =>
 .st (y4.add ((↑x1.n:Int).toNat*(1:Nat))) [.int .i64 (IntKind.i64.wrap (y3+y1.2.1))] <|
 .ret []
theorem fI_addBack x0 x1:qft aI_addBack 222 [Sc.val .l x0,Sc.val .l x1] (tI_addBack x0 x1) :=fitK (by kernel_rfl)
def tI_Rat__num (x0:qy1) (x1:SlV):T :=
 .rg <|
 .qc21 217 [Sc.val .l x0.2.1,Sc.val .l x1] fun y1 =>
 .qc13 252 [.bool x0.1,Sc.val .l y1] fun y2 =>
 .ret [qv0 y2]
theorem fI_Rat__num x0 x1:qft qa0 239 [qv1 x0,Sc.val .l x1] (tI_Rat__num x0 x1) :=fitK (by kernel_rfl)
def tI_isMode (x0:Int):T :=
 .br (decide (x0≥(0:Int))) (
  .ret [.bool (decide (x0≤(6:Int)))]) <|
 .rF
theorem fI_isMode x0:qft qa0 241 [.int .i64 x0] (tI_isMode x0) :=fitK (by kernel_rfl)
def tI_BalanceOf (x0:qy5) (x1:ByteArray):T :=
 .qc0 246 [qv5 x0,.string x1] fun y1 =>
 .br (decide (y1<(0:Int))) (
  .ret [qv2 (({ data:={ toList:=[]:Array UInt8 }:ByteArray }),(false),nilS,()),.bool (false)]) <|
 .el x0.1.1 (x0.1.n) y1 fun y2 =>
 .ql53 ((y2.add (y1.toNat*(4:Nat))).add (1:Nat)) fun y3 =>
 .qc6 190 [qv2 y3] fun y4 =>
 .ret [qv2 y4,.bool (true)]
theorem fI_BalanceOf x0 x1:qft qa0 242 [qv5 x0,.string x1] (tI_BalanceOf x0 x1) :=fitK (by kernel_rfl)
def tI_moneyOf (x0:ByteArray) (x1:qy0):T :=
 .qc7 185 [qv2 (x0,x1.1,x1.2.1,())] fun y1 =>
 .br y1 (
  .ret [qv2 (x0,x1.1,x1.2.1,()),.bool (true)]) <|
 .ret [qv2 (({ data:={ toList:=[]:Array UInt8 }:ByteArray }),(false),nilS,()),.bool (false)]
theorem fI_moneyOf x0 x1:qft qa0 245 [.string x0,qv0 x1] (tI_moneyOf x0 x1) :=fitK (by kernel_rfl)
def tI_AcctAt (x0:qy5) (x1:ByteArray):T :=
 .es [.string x1] 9 fun b1 =>
 .qc0 253 [Sc.val .l x0.1,(Value.func (Fn.func (254:Nat)) { toList:=[]:Array Value } { toList:=[Value.pointer (some { block:=b1,off:=(0:Nat):Addr })]:Array Value })] fun y2 =>
 .ret [.int .i64 y2]
theorem fI_AcctAt x0 x1:qft qa0 246 [qv5 x0,.string x1] (tI_AcctAt x0 x1) :=fitK (by kernel_rfl)
def tI_RatInt (x0:qy0):T :=
 .rg <|
 .qc18 256 [.int .i64 1] fun y1 =>
 .qc19 255 [qv0 x0,qv0 y1] fun y2 =>
 .ret [qv1 y2.1,.bool y2.2.1]
theorem fI_RatInt x0:qft qa0 247 [qv0 x0] (tI_RatInt x0) :=fitK (by kernel_rfl)
def tI_intAdd (x0:qy0) (x1:qy0):T :=
 .br (x0.1 == x1.1) (
  .rg <|
 .qc21 257 [Sc.val .l x0.2.1,Sc.val .l x1.2.1] fun y1 =>
  .qc13 252 [.bool x0.1,Sc.val .l y1] fun y2 =>
  .ret [qv0 y2]) <|
 .qc0 214 [Sc.val .l x0.2.1,Sc.val .l x1.2.1] fun y1 =>
 .br (decide (y1<(0:Int))) (
  .rg <|
 .qc21 258 [Sc.val .l x1.2.1,Sc.val .l x0.2.1] fun y2 =>
  .qc13 252 [.bool x1.1,Sc.val .l y2] fun y3 =>
  .ret [qv0 y3]) <|
 .rg <|
 .qc21 258 [Sc.val .l x0.2.1,Sc.val .l x1.2.1] fun y2 =>
 .qc13 252 [.bool x0.1,Sc.val .l y2] fun y3 =>
 .ret [qv0 y3]
theorem fI_intAdd x0 x1:qft qa0 248 [qv0 x0,qv0 x1] (tI_intAdd x0 x1) :=fitK (by kernel_rfl)
def tI_intNeg (x0:qy0):T :=
 .rg <|
 .qc21 208 [Sc.val .l x0.2.1] fun y1 =>
 .qc13 252 [.bool (!x0.1),Sc.val .l y1] fun y2 =>
 .ret [qv0 y2]
theorem fI_intNeg x0:qft qa0 249 [qv0 x0] (tI_intNeg x0) :=fitK (by kernel_rfl)
def tI_roundQuotient (x0:qy0) (x1:SlV) (x2:Int):T :=
 .qc36 212 [Sc.val .l x0.2.1,Sc.val .l x1] fun y1 =>
 .rg <|
 .br (decide ((↑y1.2.1.n:Int) > (0:Int))) (
  .qc54 260 [] fun y2 =>
  .rq ((0:Int)≤x2∧x2<(↑(7:Nat):Int)) <|
 .xs [.string y2.1,(Value.func (Fn.func y2.2.1) { toList:=[]:Array Value } { toList:=[]:Array Value }),.string y2.2.2.1,(Value.func (Fn.func y2.2.2.2.1) { toList:=[]:Array Value } { toList:=[]:Array Value }),.string y2.2.2.2.2.1,(Value.func (Fn.func y2.2.2.2.2.2.1) { toList:=[]:Array Value } { toList:=[]:Array Value }),.string y2.2.2.2.2.2.2.1,(Value.func (Fn.func y2.2.2.2.2.2.2.2.1) { toList:=[]:Array Value } { toList:=[]:Array Value }),.string y2.2.2.2.2.2.2.2.2.1,(Value.func (Fn.func y2.2.2.2.2.2.2.2.2.2.1) { toList:=[]:Array Value } { toList:=[]:Array Value }),.string y2.2.2.2.2.2.2.2.2.2.2.1,(Value.func (Fn.func y2.2.2.2.2.2.2.2.2.2.2.2.1) { toList:=[]:Array Value } { toList:=[]:Array Value }),.string y2.2.2.2.2.2.2.2.2.2.2.2.2.1,(Value.func (Fn.func y2.2.2.2.2.2.2.2.2.2.2.2.2.2.1) { toList:=[]:Array Value } { toList:=[]:Array Value })] (x2.toNat*(2:Nat)) (.g [.s,.f]) fun y3 =>
  .qc21 257 [Sc.val .l y1.2.1,Sc.val .l y1.2.1] fun y4 =>
  .qc33 214 [Sc.val .l y4,Sc.val .l x1] fun y5 =>
  .qc29 261 [Sc.val .l y1.1] fun y6 =>
  .call false y3.2.1 [.bool x0.1,.int .i64 y5,.bool (!y6)] (.v (.o (.b))) fun y7 =>
  .br y7 (
   .fz ((1:Nat)) [.int .i64 1] 3 fun b8 c8 =>
   .qc10 257 [Sc.val .l y1.1,.slice (some { block:=b8,off:=(0:Nat):Addr }) ((1:Nat)) (c8)] fun y9 =>
   .qc13 252 [.bool x0.1,Sc.val .l y9] fun y10 =>
   .ret [qv0 y10]) <|
 .qc13 252 [.bool x0.1,Sc.val .l y1.1] fun y8 =>
  .ret [qv0 y8]) <|
 .qc13 252 [.bool x0.1,Sc.val .l y1.1] fun y2 =>
 .ret [qv0 y2]
theorem fI_roundQuotient x0 x1 x2:qft qa0 251 [qv0 x0,Sc.val .l x1,.int .i64 x2] (tI_roundQuotient x0 x1 x2) :=fitK (by kernel_rfl)
def tI_signed (x0:Bool) (x1:SlV):T :=
 .br x0 (
  .ret [qv0 ((decide ((↑x1.n:Int) > (0:Int))),x1,())]) <|
 .ret [qv0 ((false),x1,())]
theorem fI_signed x0 x1:qft qa0 252 [.bool x0,Sc.val .l x1] (tI_signed x0 x1) :=fitK (by kernel_rfl)
def aX_IndexFunc_Acct:An:=⟨[(2,[.s 8],[.o (.o (.i .i64))])],[],[]⟩
def tX_IndexFunc_Acct (x0:SlV) (x1:Nat × Addr):T :=
 .lp [.o (.o (.i .i64))] [.v (.int .i64 0)] fun y1 =>
 .br (decide (y1.1<(↑x0.n:Int))) (
  .el x0.1 (x0.n) y1.1 fun y2 =>
  .ql17 (y2.add (Int.toNat y1.1*(4:Nat))) fun y3 =>
  .call false x1.1 [qv8 y3,.pointer (some x1.2)] (.v (.o (.b))) fun y4 =>
  .br y4 (
   .ret [.int .i64 y1.1]) <|
 .nx 0 [.v (.int .i64 (IntKind.i64.wrap (y1.1+(1:Int))))]) <|
 .rM
theorem fX_IndexFunc_Acct x0 x1:qft aX_IndexFunc_Acct 253 [Sc.val .l x0,(Value.func (Fn.func x1.1) { toList:=[]:Array Value } { toList:=[Value.pointer (some x1.2)]:Array Value })] (tX_IndexFunc_Acct x0 x1) :=fitK (by kernel_rfl)
def tI_AcctAt_1 (x0:qy8) (x1:Addr):T :=
 .ld false x1 (.o (.s)) fun y1 =>
 .ret [.bool (ByteArray.toList x0.1 == y1.toList)]
theorem fI_AcctAt_1 x0 x1:qft qa0 254 [qv8 x0,.pointer (some x1)] (tI_AcctAt_1 x0 x1) :=fitK (by kernel_rfl)
def tI_RatMake (x0:qy0) (x1:qy0):T :=
 .qc7 262 [qv0 x0,qv0 x1] fun y1 =>
 .bn y1 (.ret [qv1 ((false),nilS,nilS,()),.bool (false)]) <|
 .br ((↑x1.2.1.n:Int) == (0:Int)) (
  .ret [qv1 ((false),nilS,nilS,()),.bool (false)]) <|
 .rg <|
 .qc18 252 [.bool (!x0.1 == x1.1),Sc.val .l x0.2.1] fun y2 =>
 .qc19 263 [qv0 y2,Sc.val .l x1.2.1] fun y3 =>
 .ret [qv1 y3.1,.bool y3.2.1]
theorem fI_RatMake x0 x1:qft qa0 255 [qv0 x0,qv0 x1] (tI_RatMake x0 x1) :=fitK (by kernel_rfl)
def tI_IntOf (x0:Int):T :=
 .br (decide (x0<(0:Int))) (
  .qc10 220 [.int .u64 (IntKind.u64.wrap ((0:Int)-IntKind.u64.wrap x0))] fun y1 =>
  .ret [qv0 ((true),y1,())]) <|
 .qc10 220 [.int .u64 (IntKind.u64.wrap x0)] fun y1 =>
 .ret [qv0 ((false),y1,())]
theorem fI_IntOf x0:qft qa0 256 [.int .i64 x0] (tI_IntOf x0) :=fitK (by kernel_rfl)
def aI_natAdd:An:=⟨[(4,[.s 5,.s 6,.s 7],[.a 3,.o (.o (.i .i64)),.o (.o (.i .i64))])],[],[]⟩
def tI_natAdd (x0:SlV) (x1:SlV):T :=
 .rq ((0:Int)≤(0:Int)∧(0:Int)≤IntKind.i64.wrap ((if (↑x1.n:Int) > (↑x0.n:Int) then (↑x1.n:Int) else (↑x0.n:Int))+(1:Int))∧(↑(8:Nat):Int)*IntKind.i64.wrap ((if (↑x1.n:Int) > (↑x0.n:Int) then (↑x1.n:Int) else (↑x0.n:Int))+(1:Int))≤(281474976710656:Int)∧IntKind.i64.wrap ((if (↑x1.n:Int) > (↑x0.n:Int) then (↑x1.n:Int) else (↑x0.n:Int))+(1:Int))≤(9223372036854775807:Int)) <|
 .lp [.a 3,.o (.o (.i .i64)),.o (.o (.i .i64))] [.a 3 (Int.toNat (0:Int)) [],.v (.int .i64 0),.v (.int .i64 0)] fun y1 =>
 .br (decide (y1.2.2.1<if (↑x1.n:Int) > (↑x0.n:Int) then (↑x1.n:Int) else (↑x0.n:Int))) (
  .br (decide (y1.2.2.1<(↑x0.n:Int))) (
   .el x0.1 (x0.n) y1.2.2.1 fun y2 =>
   .ql14 (y2.add (Int.toNat y1.2.2.1*(1:Nat))) fun y3 =>
   .br (decide (y1.2.2.1<(↑x1.n:Int))) (
    .el x1.1 (x1.n) y1.2.2.1 fun y4 =>
    .ql14 (y4.add (Int.toNat y1.2.2.1*(1:Nat))) fun y5 =>
    .rq ((1000000000:Int)≠(0:Int)) <|
 .rq ([Value.int IntKind.i64 ((IntKind.i64.wrap (IntKind.i64.wrap (y1.2.1+y3)+y5)).tmod (1000000000:Int))].length=(1:Nat)*(1:Nat)) <|
 .rq (one [Value.int IntKind.i64 ((IntKind.i64.wrap (IntKind.i64.wrap (y1.2.1+y3)+y5)).tmod (1000000000:Int))]=true∧(y1.1.1+(1:Nat))*(8:Nat)≤(140737488355328:Nat)∧y1.1.1+(1:Nat)≤(9223372036854775807:Nat)) <|
 .rq ((1000000000:Int)≠(0:Int)) <|
 .nx 0 [.a 3 (y1.1.1+(1:Nat)) (y1.1.2++[Value.int IntKind.i64 ((IntKind.i64.wrap (IntKind.i64.wrap (y1.2.1+y3)+y5)).tmod (1000000000:Int))]),.v (.int .i64 (IntKind.i64.wrap ((IntKind.i64.wrap (IntKind.i64.wrap (y1.2.1+y3)+y5)).tdiv (1000000000:Int)))),.v (.int .i64 (IntKind.i64.wrap (y1.2.2.1+(1:Int))))]) <|
 .rq ((1000000000:Int)≠(0:Int)) <|
 .rq ([Value.int IntKind.i64 ((IntKind.i64.wrap (y1.2.1+y3)).tmod (1000000000:Int))].length=(1:Nat)*(1:Nat)) <|
 .rq (one [Value.int IntKind.i64 ((IntKind.i64.wrap (y1.2.1+y3)).tmod (1000000000:Int))]=true∧(y1.1.1+(1:Nat))*(8:Nat)≤(140737488355328:Nat)∧y1.1.1+(1:Nat)≤(9223372036854775807:Nat)) <|
 .rq ((1000000000:Int)≠(0:Int)) <|
 .nx 0 [.a 3 (y1.1.1+(1:Nat)) (y1.1.2++[Value.int IntKind.i64 ((IntKind.i64.wrap (y1.2.1+y3)).tmod (1000000000:Int))]),.v (.int .i64 (IntKind.i64.wrap ((IntKind.i64.wrap (y1.2.1+y3)).tdiv (1000000000:Int)))),.v (.int .i64 (IntKind.i64.wrap (y1.2.2.1+(1:Int))))]) <|
 .br (decide (y1.2.2.1<(↑x1.n:Int))) (
   .el x1.1 (x1.n) y1.2.2.1 fun y2 =>
   .ql14 (y2.add (Int.toNat y1.2.2.1*(1:Nat))) fun y3 =>
   .rq ((1000000000:Int)≠(0:Int)) <|
 .rq ([Value.int IntKind.i64 ((IntKind.i64.wrap (y1.2.1+y3)).tmod (1000000000:Int))].length=(1:Nat)*(1:Nat)) <|
 .rq (one [Value.int IntKind.i64 ((IntKind.i64.wrap (y1.2.1+y3)).tmod (1000000000:Int))]=true∧(y1.1.1+(1:Nat))*(8:Nat)≤(140737488355328:Nat)∧y1.1.1+(1:Nat)≤(9223372036854775807:Nat)) <|
 .rq ((1000000000:Int)≠(0:Int)) <|
 .nx 0 [.a 3 (y1.1.1+(1:Nat)) (y1.1.2++[Value.int IntKind.i64 ((IntKind.i64.wrap (y1.2.1+y3)).tmod (1000000000:Int))]),.v (.int .i64 (IntKind.i64.wrap ((IntKind.i64.wrap (y1.2.1+y3)).tdiv (1000000000:Int)))),.v (.int .i64 (IntKind.i64.wrap (y1.2.2.1+(1:Int))))]) <|
 .rq ((1000000000:Int)≠(0:Int)) <|
 .rq ([Value.int IntKind.i64 (Int.tmod y1.2.1 (1000000000:Int))].length=(1:Nat)*(1:Nat)) <|
 .rq (one [Value.int IntKind.i64 (Int.tmod y1.2.1 (1000000000:Int))]=true∧(y1.1.1+(1:Nat))*(8:Nat)≤(140737488355328:Nat)∧y1.1.1+(1:Nat)≤(9223372036854775807:Nat)) <|
 .rq ((1000000000:Int)≠(0:Int)) <|
 .nx 0 [.a 3 (y1.1.1+(1:Nat)) (y1.1.2++[Value.int IntKind.i64 (Int.tmod y1.2.1 (1000000000:Int))]),.v (.int .i64 (IntKind.i64.wrap (Int.tdiv y1.2.1 (1000000000:Int)))),.v (.int .i64 (IntKind.i64.wrap (y1.2.2.1+(1:Int))))]) <|
 .rq ([Value.int IntKind.i64 y1.2.1].length=(1:Nat)*(1:Nat)) <|
 .rq (one [Value.int IntKind.i64 y1.2.1]=true∧(y1.1.1+(1:Nat))*(8:Nat)≤(140737488355328:Nat)∧y1.1.1+(1:Nat)≤(9223372036854775807:Nat)) <|
 .fz (y1.1.1+(1:Nat)) (y1.1.2++[Value.int IntKind.i64 y1.2.1]) 3 fun b2 c2 =>
 .qc10 219 [.slice (some { block:=b2,off:=(0:Nat):Addr }) (y1.1.1+(1:Nat)) (c2)] fun y3 =>
 .ret [Sc.val .l y3]
theorem fI_natAdd x0 x1:qft aI_natAdd 257 [Sc.val .l x0,Sc.val .l x1] (tI_natAdd x0 x1) :=fitK (by kernel_rfl)
def aI_natSub:An:=⟨[(4,[.s 5,.s 6,.s 14],[.a 3,.o (.o (.i .i64)),.o (.o (.i .i64))])],[],[]⟩
def tI_natSub (x0:SlV) (x1:SlV):T :=
 .rq ((0:Int)≤(↑x0.n:Int)∧(↑x0.n:Int)≤(↑x0.n:Int)∧(↑(8:Nat):Int)*(↑x0.n:Int)≤(281474976710656:Int)∧(↑x0.n:Int)≤(9223372036854775807:Int)) <|
 .lp [.a 3,.o (.o (.i .i64)),.o (.o (.i .i64))] [.a 3 ((↑x0.n:Int).toNat) ((madeCells { toList:=[Value.int IntKind.i64 (0:Int)]:Array Value } ((↑x0.n:Int).toNat*(1:Nat))).toList),.v (.int .i64 0),.v (.int .i64 0)] fun y1 =>
 .br (decide (y1.2.2.1<(↑x0.n:Int))) (
  .el x0.1 (x0.n) y1.2.2.1 fun y2 =>
  .ql14 (y2.add (Int.toNat y1.2.2.1*(1:Nat))) fun y3 =>
  .br (decide (y1.2.2.1<(↑x1.n:Int))) (
   .el x1.1 (x1.n) y1.2.2.1 fun y4 =>
   .ql14 (y4.add (Int.toNat y1.2.2.1*(1:Nat))) fun y5 =>
   .br (decide (IntKind.i64.wrap (IntKind.i64.wrap (y3-y1.2.1)-y5)<(0:Int))) (
    .rq ((0:Int)≤y1.2.2.1∧y1.2.2.1<(↑y1.1.1:Int)) <|
 .rq (Int.toNat y1.2.2.1*(1:Nat)+[Value.int IntKind.i64 (IntKind.i64.wrap (IntKind.i64.wrap (IntKind.i64.wrap (y3-y1.2.1)-y5)+(1000000000:Int)))].length≤y1.1.2.length) <|
 .nx 0 [.a 3 y1.1.1 (setl y1.1.2 (Int.toNat y1.2.2.1*(1:Nat)) [Value.int IntKind.i64 (IntKind.i64.wrap (IntKind.i64.wrap (IntKind.i64.wrap (y3-y1.2.1)-y5)+(1000000000:Int)))]),.v (.int .i64 1),.v (.int .i64 (IntKind.i64.wrap (y1.2.2.1+(1:Int))))]) <|
 .rq ((0:Int)≤y1.2.2.1∧y1.2.2.1<(↑y1.1.1:Int)) <|
 .rq (Int.toNat y1.2.2.1*(1:Nat)+[Value.int IntKind.i64 (IntKind.i64.wrap (IntKind.i64.wrap (y3-y1.2.1)-y5))].length≤y1.1.2.length) <|
 .nx 0 [.a 3 y1.1.1 (setl y1.1.2 (Int.toNat y1.2.2.1*(1:Nat)) [Value.int IntKind.i64 (IntKind.i64.wrap (IntKind.i64.wrap (y3-y1.2.1)-y5))]),.v (.int .i64 0),.v (.int .i64 (IntKind.i64.wrap (y1.2.2.1+(1:Int))))]) <|
 .br (decide (IntKind.i64.wrap (y3-y1.2.1)<(0:Int))) (
   .rq ((0:Int)≤y1.2.2.1∧y1.2.2.1<(↑y1.1.1:Int)) <|
 .rq (Int.toNat y1.2.2.1*(1:Nat)+[Value.int IntKind.i64 (IntKind.i64.wrap (IntKind.i64.wrap (y3-y1.2.1)+(1000000000:Int)))].length≤y1.1.2.length) <|
 .nx 0 [.a 3 y1.1.1 (setl y1.1.2 (Int.toNat y1.2.2.1*(1:Nat)) [Value.int IntKind.i64 (IntKind.i64.wrap (IntKind.i64.wrap (y3-y1.2.1)+(1000000000:Int)))]),.v (.int .i64 1),.v (.int .i64 (IntKind.i64.wrap (y1.2.2.1+(1:Int))))]) <|
 .rq ((0:Int)≤y1.2.2.1∧y1.2.2.1<(↑y1.1.1:Int)) <|
 .rq (Int.toNat y1.2.2.1*(1:Nat)+[Value.int IntKind.i64 (IntKind.i64.wrap (y3-y1.2.1))].length≤y1.1.2.length) <|
 .nx 0 [.a 3 y1.1.1 (setl y1.1.2 (Int.toNat y1.2.2.1*(1:Nat)) [Value.int IntKind.i64 (IntKind.i64.wrap (y3-y1.2.1))]),.v (.int .i64 0),.v (.int .i64 (IntKind.i64.wrap (y1.2.2.1+(1:Int))))]) <|
 .fz y1.1.1 y1.1.2 3 fun b2 c2 =>
 .qc10 219 [.slice (some { block:=b2,off:=(0:Nat):Addr }) y1.1.1 (c2)] fun y3 =>
 .ret [Sc.val .l y3]
theorem fI_natSub x0 x1:qft aI_natSub 258 [Sc.val .l x0,Sc.val .l x1] (tI_natSub x0 x1) :=fitK (by kernel_rfl)
def tI_roundModes :T :=
 .ret [.agg #[.string ({ data:={ toList:=[(100:UInt8),(111:UInt8),(119:UInt8),(110:UInt8)]:Array UInt8 }:ByteArray }),(Value.func (Fn.func (267:Nat)) { toList:=[]:Array Value } { toList:=[]:Array Value }),.string ({ data:={ toList:=[(117:UInt8),(112:UInt8)]:Array UInt8 }:ByteArray }),(Value.func (Fn.func (268:Nat)) { toList:=[]:Array Value } { toList:=[]:Array Value }),.string ({ data:={ toList:=[(102:UInt8),(108:UInt8),(111:UInt8),(111:UInt8),(114:UInt8)]:Array UInt8 }:ByteArray }),(Value.func (Fn.func (269:Nat)) { toList:=[]:Array Value } { toList:=[]:Array Value }),.string ({ data:={ toList:=[(99:UInt8),(101:UInt8),(105:UInt8),(108:UInt8)]:Array UInt8 }:ByteArray }),(Value.func (Fn.func (270:Nat)) { toList:=[]:Array Value } { toList:=[]:Array Value }),.string ({ data:={ toList:=[(104:UInt8),(97:UInt8),(108:UInt8),(102:UInt8),(100:UInt8),(111:UInt8),(119:UInt8),(110:UInt8)]:Array UInt8 }:ByteArray }),(Value.func (Fn.func (271:Nat)) { toList:=[]:Array Value } { toList:=[]:Array Value }),.string ({ data:={ toList:=[(104:UInt8),(97:UInt8),(108:UInt8),(102:UInt8),(117:UInt8),(112:UInt8)]:Array UInt8 }:ByteArray }),(Value.func (Fn.func (272:Nat)) { toList:=[]:Array Value } { toList:=[]:Array Value }),.string ({ data:={ toList:=[(104:UInt8),(97:UInt8),(108:UInt8),(102:UInt8),(101:UInt8),(118:UInt8),(101:UInt8),(110:UInt8)]:Array UInt8 }:ByteArray }),(Value.func (Fn.func (273:Nat)) { toList:=[]:Array Value } { toList:=[]:Array Value })]]
theorem fI_roundModes :qft qa0 260 [] (tI_roundModes ) :=fitK (by kernel_rfl)
def tI_NatEven (x0:SlV):T :=
 .qc7 203 [Sc.val .l x0] fun y1 =>
 .br y1 (
  .br ((↑x0.n:Int) == (0:Int)) (
   .rT) <|
 .el x0.1 (x0.n) ((0:Int)) fun y2 =>
  .ql14 (y2.add (Int.toNat (0:Int)*(1:Nat))) fun y3 =>
  .rq ((2:Int)≠(0:Int)) <|
 .ret [.bool (y3.tmod (2:Int) == (0:Int))]) <|
 .rF
theorem fI_NatEven x0:qft qa0 261 [Sc.val .l x0] (tI_NatEven x0) :=fitK (by kernel_rfl)
def tI_intsOk (x0:qy0) (x1:qy0):T :=
 .qc7 201 [qv0 x0] fun y1 =>
 .br y1 (
  .qc7 201 [qv0 x1] fun y2 =>
  .ret [.bool y2]) <|
 .rF
theorem fI_intsOk x0 x1:qft qa0 262 [qv0 x0,qv0 x1] (tI_intsOk x0 x1) :=fitK (by kernel_rfl)
def tI_reduce (x0:qy0) (x1:SlV):T :=
 .qc10 204 [Sc.val .l x0.2.1,Sc.val .l x1] fun y1 =>
 .qc36 212 [Sc.val .l x0.2.1,Sc.val .l y1] fun y2 =>
 .qc36 212 [Sc.val .l x1,Sc.val .l y1] fun y3 =>
 .br (decide ((↑y2.1.n:Int) > (18:Int))) (
  .ret [qv1 ((false),nilS,nilS,()),.bool (false)]) <|
 .br (decide ((↑y3.1.n:Int) > (18:Int))) (
  .ret [qv1 ((false),nilS,nilS,()),.bool (false)]) <|
 .qc13 252 [.bool x0.1,Sc.val .l y2.1] fun y4 =>
 .ret [qv1 (y4.1,y4.2.1,y3.1,()),.bool (true)]
theorem fI_reduce x0 x1:qft qa0 263 [qv0 x0,Sc.val .l x1] (tI_reduce x0 x1) :=fitK (by kernel_rfl)
def tI_RatAdd (x0:qy1) (x1:qy1):T :=
 .qc7 274 [qv1 x0,qv1 x1] fun y1 =>
 .bn y1 (.ret [qv1 ((false),nilS,nilS,()),.bool (false)]) <|
 .rg <|
 .rg <|
 .qc18 239 [qv1 x0,Sc.val .l x1.2.2.1] fun y2 =>
 .qc18 239 [qv1 x1,Sc.val .l x0.2.2.1] fun y3 =>
 .qc18 248 [qv0 y2,qv0 y3] fun y4 =>
 .qc10 217 [Sc.val .l x0.2.2.1,Sc.val .l x1.2.2.1] fun y5 =>
 .qc19 263 [qv0 y4,Sc.val .l y5] fun y6 =>
 .ret [qv1 y6.1,.bool y6.2.1]
theorem fI_RatAdd x0 x1:qft qa0 264 [qv1 x0,qv1 x1] (tI_RatAdd x0 x1) :=fitK (by kernel_rfl)
def tI_roundModes_1 (_x0:Bool) (_x1:Int) (_x2:Bool):T :=
 .rF
theorem fI_roundModes_1 x0 x1 x2:qft qa0 267 [.bool x0,.int .i64 x1,.bool x2] (tI_roundModes_1 x0 x1 x2) :=fitK (by kernel_rfl)
def tI_roundModes_2 (_x0:Bool) (_x1:Int) (_x2:Bool):T :=
 .rT
theorem fI_roundModes_2 x0 x1 x2:qft qa0 268 [.bool x0,.int .i64 x1,.bool x2] (tI_roundModes_2 x0 x1 x2) :=fitK (by kernel_rfl)
def tI_roundModes_3 (x0:Bool) (_x1:Int) (_x2:Bool):T :=
 .ret [.bool x0]
theorem fI_roundModes_3 x0 x1 x2:qft qa0 269 [.bool x0,.int .i64 x1,.bool x2] (tI_roundModes_3 x0 x1 x2) :=fitK (by kernel_rfl)
def tI_roundModes_4 (x0:Bool) (_x1:Int) (_x2:Bool):T :=
 .ret [.bool (!x0)]
theorem fI_roundModes_4 x0 x1 x2:qft qa0 270 [.bool x0,.int .i64 x1,.bool x2] (tI_roundModes_4 x0 x1 x2) :=fitK (by kernel_rfl)
def tI_roundModes_5 (_x0:Bool) (x1:Int) (_x2:Bool):T :=
 .ret [.bool (decide (x1 > (0:Int)))]
theorem fI_roundModes_5 x0 x1 x2:qft qa0 271 [.bool x0,.int .i64 x1,.bool x2] (tI_roundModes_5 x0 x1 x2) :=fitK (by kernel_rfl)
def tI_roundModes_6 (_x0:Bool) (x1:Int) (_x2:Bool):T :=
 .ret [.bool (decide (x1≥(0:Int)))]
theorem fI_roundModes_6 x0 x1 x2:qft qa0 272 [.bool x0,.int .i64 x1,.bool x2] (tI_roundModes_6 x0 x1 x2) :=fitK (by kernel_rfl)
def tI_roundModes_7 (_x0:Bool) (x1:Int) (x2:Bool):T :=
 .br (decide (x1 > (0:Int))) (
  .rT) <|
 .br (x1 == (0:Int)) (
  .ret [.bool x2]) <|
 .rF
theorem fI_roundModes_7 x0 x1 x2:qft qa0 273 [.bool x0,.int .i64 x1,.bool x2] (tI_roundModes_7 x0 x1 x2) :=fitK (by kernel_rfl)
def tI_ratsOk (x0:qy1) (x1:qy1):T :=
 .qc7 187 [qv1 x0] fun y1 =>
 .br y1 (
  .qc7 187 [qv1 x1] fun y2 =>
  .ret [.bool y2]) <|
 .rF
theorem fI_ratsOk x0 x1:qft qa0 274 [qv1 x0,qv1 x1] (tI_ratsOk x0 x1) :=fitK (by kernel_rfl)
def tI_opTax__run (x0:ByteArray × ByteArray × ByteArray × ByteArray × Bool × SlV × Bool × SlV × Int × Int × PUnit) (x1:qy4):T :=
 .fz ((3:Nat)) [.string x0.1,.string x0.2.1,.string x0.2.2.1] 9 fun b1 c1 =>
 .qc7 299 [.slice (some { block:=b1,off:=(0:Nat):Addr }) ((3:Nat)) (c1)] fun y2 =>
 .bn y2 (.ret [qv3 (nilS,nilS,({ data:={ toList:=[]:Array UInt8 }:ByteArray }),nilS,()),.int .i64 1]) <|
 .qc7 300 [qv2 (x0.2.2.2.1,x0.2.2.2.2.1,x0.2.2.2.2.2.1,())] fun y3 =>
 .bn y3 (.ret [qv3 (nilS,nilS,({ data:={ toList:=[]:Array UInt8 }:ByteArray }),nilS,()),.int .i64 1]) <|
 .qc7 301 [qv4 (x0.2.2.2.2.2.2.1,x0.2.2.2.2.2.2.2.1,((x0.2.2.2.2.2.2.2.2.1):Int),())] fun y4 =>
 .bn y4 (.ret [qv3 (nilS,nilS,({ data:={ toList:=[]:Array UInt8 }:ByteArray }),nilS,()),.int .i64 1]) <|
 .qc7 241 [.int .i64 x0.2.2.2.2.2.2.2.2.2.1] fun y5 =>
 .bn y5 (.ret [qv3 (nilS,nilS,({ data:={ toList:=[]:Array UInt8 }:ByteArray }),nilS,()),.int .i64 1]) <|
 .fz ((3:Nat)) [.string x0.1,.string x0.2.1,.string x0.2.2.1] 9 fun b6 c6 =>
 .qc0 302 [qv3 x1,.string x0.2.2.2.1,.slice (some { block:=b6,off:=(0:Nat):Addr }) ((3:Nat)) (c6)] fun y7 =>
 .br (y7 != (0:Int)) (
  .ret [qv3 (nilS,nilS,({ data:={ toList:=[]:Array UInt8 }:ByteArray }),nilS,()),.int .i64 y7]) <|
 .qc12 303 [qv2 (x0.2.2.2.1,x0.2.2.2.2.1,x0.2.2.2.2.2.1,()),qv4 (x0.2.2.2.2.2.2.1,x0.2.2.2.2.2.2.2.1,((x0.2.2.2.2.2.2.2.2.1):Int),()),.int .i64 x0.2.2.2.2.2.2.2.2.2.1] fun y8 =>
 .bn y8.2.2.2.1 (.ret [qv3 (nilS,nilS,({ data:={ toList:=[]:Array UInt8 }:ByteArray }),nilS,()),.int .i64 8]) <|
 .rg <|
 .qc2 305 [qv2 (x0.2.2.2.1,x0.2.2.2.2.1,x0.2.2.2.2.2.1,())] fun y9 =>
 .es [.string x0.1,.string y9.1,.bool y9.2.1,Sc.val .l y9.2.2.1,.string x0.2.1,.string y8.1.1,.bool y8.1.2.1,Sc.val .l y8.1.2.2.1,.string x0.2.2.1,.string y8.2.1.1,.bool y8.2.1.2.1,Sc.val .l y8.2.1.2.2.1] 121 fun b10 =>
 .qc4 304 [qv3 x1,.slice (some { block:=b10,off:=(0:Nat):Addr }) ((3:Nat)) ((3:Nat))] fun y11 =>
 .ret [qv3 y11.1,.int .i64 y11.2.1]
theorem fI_opTax__run x0 x1:qft qa0 298 [qv10 x0,qv3 x1] (tI_opTax__run x0 x1) :=fitK (by kernel_rfl)
def aI_areNames:An:=⟨[(2,[.s 7],[.o (.o (.i .i64))])],[],[]⟩
def tI_areNames (x0:SlV):T :=
 .lp [.o (.o (.i .i64))] [.v (.int .i64 0)] fun y1 =>
 .br (decide (y1.1<(↑x0.n:Int))) (
  .el x0.1 (x0.n) y1.1 fun y2 =>
  .ql55 (y2.add (Int.toNat y1.1*(1:Nat))) fun y3 =>
  .qc7 184 [.string y3] fun y4 =>
  .bF y4 <|
 .nx 0 [.v (.int .i64 (IntKind.i64.wrap (y1.1+(1:Int))))]) <|
 .rT
theorem fI_areNames x0:qft aI_areNames 299 [Sc.val .l x0] (tI_areNames x0) :=fitK (by kernel_rfl)
def tI_payable (x0:qy2):T :=
 .qc7 185 [qv2 x0] fun y1 =>
 .br y1 (
  .ret [.bool (!x0.2.1)]) <|
 .rF
theorem fI_payable x0:qft qa0 300 [qv2 x0] (tI_payable x0) :=fitK (by kernel_rfl)
def tI_TaxRateOk (x0:qy3):T :=
 .rg <|
 .qc29 206 [qv4 x0] fun y1 =>
 .br y1 (
  .br (decide ((↑x0.2.1.n:Int)≤(1:Int))) (
   .br (!x0.1) (
    .qc18 256 [.int .i64 1] fun y2 =>
    .qc0 306 [qv4 x0,qv4 (y2.1,y2.2.1,(((0:Int)):Int),())] fun y3 =>
    .ret [.bool (decide (y3≤(0:Int)))]) <|
 .rF) <|
 .rF) <|
 .rF
theorem fI_TaxRateOk x0:qft qa0 301 [qv4 x0] (tI_TaxRateOk x0) :=fitK (by kernel_rfl)
def tI_fits (x0:qy4) (x1:ByteArray) (x2:SlV):T :=
 .qc0 307 [qv3 x0,Sc.val .l x2] fun y1 =>
 .br (y1 != (0:Int)) (
  .ret [.int .i64 y1]) <|
 .qc0 308 [qv3 x0,.string x1,Sc.val .l x2] fun y2 =>
 .ret [.int .i64 y2]
theorem fI_fits x0 x1 x2:qft qa0 302 [qv3 x0,.string x1,Sc.val .l x2] (tI_fits x0 x1 x2) :=fitK (by kernel_rfl)
end
end Go.Proofs.YtceoihhldnnenaaGreatDoor
