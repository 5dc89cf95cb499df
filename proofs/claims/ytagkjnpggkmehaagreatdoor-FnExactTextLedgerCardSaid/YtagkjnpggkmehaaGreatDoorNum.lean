/-
  What the program's functions on lists of limbs give: trim, copy, comparison, sum, difference.
-/
import Derived.Test.YtagkjnpggkmehaaGreatDoorTB
import Derived.Test.YtagkjnpggkmehaaGreatDoorMath
namespace Go.Proofs.YtagkjnpggkmehaaGreatDoor
open Sx
set_option maxRecDepth 100000
noncomputable section
def aS_l02Sub:An:=⟨[(4,[.s 5,.s 6,.s 12],[.a 3,.o (.o (.i .i64)),.o (.o (.i .i64))])],[],[]⟩
def tS_l02Sub (x0:SlV) (x1:SlV):T :=
 .lp [.a 3,.o (.o (.i .i64)),.o (.o (.i .i64))] [.a 3 ((0:Nat)) [],.v (.int .i64 0),.v (.int .i64 0)] fun y1 =>
 .br (decide (y1.2.2.1<(↑x0.n:Int))) (
  .el x0.1 (x0.n) y1.2.2.1 fun y2 =>
  .ql23 (y2.add (Int.toNat y1.2.2.1*(1:Nat))) fun y3 =>
  .br (decide (y1.2.2.1<(↑x1.n:Int))) (
   .el x1.1 (x1.n) y1.2.2.1 fun y4 =>
   .ql23 (y4.add (Int.toNat y1.2.2.1*(1:Nat))) fun y5 =>
   .br (decide (IntKind.i64.wrap (IntKind.i64.wrap (y3-y1.2.1)-y5)<(0:Int))) (
    .rq ([Value.int IntKind.i64 (IntKind.i64.wrap (IntKind.i64.wrap (IntKind.i64.wrap (y3-y1.2.1)-y5)+(1000000000:Int)))].length=(1:Nat)*(1:Nat)) <|
 .rq (one [Value.int IntKind.i64 (IntKind.i64.wrap (IntKind.i64.wrap (IntKind.i64.wrap (y3-y1.2.1)-y5)+(1000000000:Int)))]=true∧(y1.1.1+(1:Nat))*(8:Nat)≤(140737488355328:Nat)∧y1.1.1+(1:Nat)≤(9223372036854775807:Nat)) <|
 .nx 0 [.a 3 (y1.1.1+(1:Nat)) (y1.1.2++[Value.int IntKind.i64 (IntKind.i64.wrap (IntKind.i64.wrap (IntKind.i64.wrap (y3-y1.2.1)-y5)+(1000000000:Int)))]),.v (.int .i64 1),.v (.int .i64 (IntKind.i64.wrap (y1.2.2.1+(1:Int))))]) <|
 .rq ([Value.int IntKind.i64 (IntKind.i64.wrap (IntKind.i64.wrap (y3-y1.2.1)-y5))].length=(1:Nat)*(1:Nat)) <|
 .rq (one [Value.int IntKind.i64 (IntKind.i64.wrap (IntKind.i64.wrap (y3-y1.2.1)-y5))]=true∧(y1.1.1+(1:Nat))*(8:Nat)≤(140737488355328:Nat)∧y1.1.1+(1:Nat)≤(9223372036854775807:Nat)) <|
 .nx 0 [.a 3 (y1.1.1+(1:Nat)) (y1.1.2++[Value.int IntKind.i64 (IntKind.i64.wrap (IntKind.i64.wrap (y3-y1.2.1)-y5))]),.v (.int .i64 0),.v (.int .i64 (IntKind.i64.wrap (y1.2.2.1+(1:Int))))]) <|
 .br (decide (IntKind.i64.wrap (y3-y1.2.1)<(0:Int))) (
   .rq ([Value.int IntKind.i64 (IntKind.i64.wrap (IntKind.i64.wrap (y3-y1.2.1)+(1000000000:Int)))].length=(1:Nat)*(1:Nat)) <|
 .rq (one [Value.int IntKind.i64 (IntKind.i64.wrap (IntKind.i64.wrap (y3-y1.2.1)+(1000000000:Int)))]=true∧(y1.1.1+(1:Nat))*(8:Nat)≤(140737488355328:Nat)∧y1.1.1+(1:Nat)≤(9223372036854775807:Nat)) <|
 .nx 0 [.a 3 (y1.1.1+(1:Nat)) (y1.1.2++[Value.int IntKind.i64 (IntKind.i64.wrap (IntKind.i64.wrap (y3-y1.2.1)+(1000000000:Int)))]),.v (.int .i64 1),.v (.int .i64 (IntKind.i64.wrap (y1.2.2.1+(1:Int))))]) <|
 .rq ([Value.int IntKind.i64 (IntKind.i64.wrap (y3-y1.2.1))].length=(1:Nat)*(1:Nat)) <|
 .rq (one [Value.int IntKind.i64 (IntKind.i64.wrap (y3-y1.2.1))]=true∧(y1.1.1+(1:Nat))*(8:Nat)≤(140737488355328:Nat)∧y1.1.1+(1:Nat)≤(9223372036854775807:Nat)) <|
 .nx 0 [.a 3 (y1.1.1+(1:Nat)) (y1.1.2++[Value.int IntKind.i64 (IntKind.i64.wrap (y3-y1.2.1))]),.v (.int .i64 0),.v (.int .i64 (IntKind.i64.wrap (y1.2.2.1+(1:Int))))]) <|
 .fz y1.1.1 y1.1.2 3 fun b2 c2 =>
 .qc13 151 [.slice (some { block:=b2,off:=(0:Nat):Addr }) y1.1.1 (c2)] fun y3 =>
 .ret [Sc.val .l y3]
theorem fS_l02Sub x0 x1:qft aS_l02Sub 253 [Sc.val .l x0,Sc.val .l x1] (tS_l02Sub x0 x1) :=fitK (by kernel_rfl)
def tS_l02Cap (x0:SlV):T :=
 .qc13 151 [Sc.val .l x0] fun y1 =>
 .br (decide ((↑y1.n:Int) > (50:Int))) (
  .ret [.slice none 0 0]) <|
 .ret [Sc.val .l y1]
theorem fS_l02Cap x0:qft qa0 254 [Sc.val .l x0] (tS_l02Cap x0) :=fitK (by kernel_rfl)
def aS_l02Add:An:=⟨[(4,[.s 5,.s 6,.s 7],[.a 3,.o (.o (.i .i64)),.o (.o (.i .i64))])],[],[]⟩
def tS_l02Add (x0:SlV) (x1:SlV):T :=
 .lp [.a 3,.o (.o (.i .i64)),.o (.o (.i .i64))] [.a 3 ((0:Nat)) [],.v (.int .i64 0),.v (.int .i64 0)] fun y1 =>
 .br (decide (y1.2.2.1<(↑x0.n:Int))) (
  .br (decide (y1.2.2.1<(↑x0.n:Int))) (
   .el x0.1 (x0.n) y1.2.2.1 fun y2 =>
   .ql23 (y2.add (Int.toNat y1.2.2.1*(1:Nat))) fun y3 =>
   .br (decide (y1.2.2.1<(↑x1.n:Int))) (
    .el x1.1 (x1.n) y1.2.2.1 fun y4 =>
    .ql23 (y4.add (Int.toNat y1.2.2.1*(1:Nat))) fun y5 =>
    .rq ((1000000000:Int)≠(0:Int)) <|
 .rq ([Value.int IntKind.i64 ((IntKind.i64.wrap (IntKind.i64.wrap (y1.2.1+y3)+y5)).tmod (1000000000:Int))].length=(1:Nat)*(1:Nat)) <|
 .rq (one [Value.int IntKind.i64 ((IntKind.i64.wrap (IntKind.i64.wrap (y1.2.1+y3)+y5)).tmod (1000000000:Int))]=true∧(y1.1.1+(1:Nat))*(8:Nat)≤(140737488355328:Nat)∧y1.1.1+(1:Nat)≤(9223372036854775807:Nat)) <|
 .rq ((1000000000:Int)≠(0:Int)) <|
 .nx 0 [.a 3 (y1.1.1+(1:Nat)) (y1.1.2++[Value.int IntKind.i64 ((IntKind.i64.wrap (IntKind.i64.wrap (y1.2.1+y3)+y5)).tmod (1000000000:Int))]),.v (.int .i64 (IntKind.i64.wrap ((IntKind.i64.wrap (IntKind.i64.wrap (y1.2.1+y3)+y5)).tdiv (1000000000:Int)))),.v (.int .i64 (IntKind.i64.wrap (y1.2.2.1+(1:Int))))]) <|
 .rq ((1000000000:Int)≠(0:Int)) <|
 .rq ([Value.int IntKind.i64 ((IntKind.i64.wrap (y1.2.1+y3)).tmod (1000000000:Int))].length=(1:Nat)*(1:Nat)) <|
 .rq (one [Value.int IntKind.i64 ((IntKind.i64.wrap (y1.2.1+y3)).tmod (1000000000:Int))]=true∧(y1.1.1+(1:Nat))*(8:Nat)≤(140737488355328:Nat)∧y1.1.1+(1:Nat)≤(9223372036854775807:Nat)) <|
 .rq ((1000000000:Int)≠(0:Int)) <|
 .nx 0 [.a 3 (y1.1.1+(1:Nat)) (y1.1.2++[Value.int IntKind.i64 ((IntKind.i64.wrap (y1.2.1+y3)).tmod (1000000000:Int))]),.v (.int .i64 (IntKind.i64.wrap ((IntKind.i64.wrap (y1.2.1+y3)).tdiv (1000000000:Int)))),.v (.int .i64 (IntKind.i64.wrap (y1.2.2.1+(1:Int))))]) <|
 .br (decide (y1.2.2.1<(↑x1.n:Int))) (
   .el x1.1 (x1.n) y1.2.2.1 fun y2 =>
   .ql23 (y2.add (Int.toNat y1.2.2.1*(1:Nat))) fun y3 =>
   .rq ((1000000000:Int)≠(0:Int)) <|
 .rq ([Value.int IntKind.i64 ((IntKind.i64.wrap (y1.2.1+y3)).tmod (1000000000:Int))].length=(1:Nat)*(1:Nat)) <|
 .rq (one [Value.int IntKind.i64 ((IntKind.i64.wrap (y1.2.1+y3)).tmod (1000000000:Int))]=true∧(y1.1.1+(1:Nat))*(8:Nat)≤(140737488355328:Nat)∧y1.1.1+(1:Nat)≤(9223372036854775807:Nat)) <|
 .rq ((1000000000:Int)≠(0:Int)) <|
 .nx 0 [.a 3 (y1.1.1+(1:Nat)) (y1.1.2++[Value.int IntKind.i64 ((IntKind.i64.wrap (y1.2.1+y3)).tmod (1000000000:Int))]),.v (.int .i64 (IntKind.i64.wrap ((IntKind.i64.wrap (y1.2.1+y3)).tdiv (1000000000:Int)))),.v (.int .i64 (IntKind.i64.wrap (y1.2.2.1+(1:Int))))]) <|
 .rq ((1000000000:Int)≠(0:Int)) <|
 .rq ([Value.int IntKind.i64 (Int.tmod y1.2.1 (1000000000:Int))].length=(1:Nat)*(1:Nat)) <|
 .rq (one [Value.int IntKind.i64 (Int.tmod y1.2.1 (1000000000:Int))]=true∧(y1.1.1+(1:Nat))*(8:Nat)≤(140737488355328:Nat)∧y1.1.1+(1:Nat)≤(9223372036854775807:Nat)) <|
 .rq ((1000000000:Int)≠(0:Int)) <|
 .nx 0 [.a 3 (y1.1.1+(1:Nat)) (y1.1.2++[Value.int IntKind.i64 (Int.tmod y1.2.1 (1000000000:Int))]),.v (.int .i64 (IntKind.i64.wrap (Int.tdiv y1.2.1 (1000000000:Int)))),.v (.int .i64 (IntKind.i64.wrap (y1.2.2.1+(1:Int))))]) <|
 .br (decide (y1.2.2.1<(↑x1.n:Int))) (
  .br (decide (y1.2.2.1<(↑x0.n:Int))) (
   .el x0.1 (x0.n) y1.2.2.1 fun y2 =>
   .ql23 (y2.add (Int.toNat y1.2.2.1*(1:Nat))) fun y3 =>
   .br (decide (y1.2.2.1<(↑x1.n:Int))) (
    .el x1.1 (x1.n) y1.2.2.1 fun y4 =>
    .ql23 (y4.add (Int.toNat y1.2.2.1*(1:Nat))) fun y5 =>
    .rq ((1000000000:Int)≠(0:Int)) <|
 .rq ([Value.int IntKind.i64 ((IntKind.i64.wrap (IntKind.i64.wrap (y1.2.1+y3)+y5)).tmod (1000000000:Int))].length=(1:Nat)*(1:Nat)) <|
 .rq (one [Value.int IntKind.i64 ((IntKind.i64.wrap (IntKind.i64.wrap (y1.2.1+y3)+y5)).tmod (1000000000:Int))]=true∧(y1.1.1+(1:Nat))*(8:Nat)≤(140737488355328:Nat)∧y1.1.1+(1:Nat)≤(9223372036854775807:Nat)) <|
 .rq ((1000000000:Int)≠(0:Int)) <|
 .nx 0 [.a 3 (y1.1.1+(1:Nat)) (y1.1.2++[Value.int IntKind.i64 ((IntKind.i64.wrap (IntKind.i64.wrap (y1.2.1+y3)+y5)).tmod (1000000000:Int))]),.v (.int .i64 (IntKind.i64.wrap ((IntKind.i64.wrap (IntKind.i64.wrap (y1.2.1+y3)+y5)).tdiv (1000000000:Int)))),.v (.int .i64 (IntKind.i64.wrap (y1.2.2.1+(1:Int))))]) <|
 .rq ((1000000000:Int)≠(0:Int)) <|
 .rq ([Value.int IntKind.i64 ((IntKind.i64.wrap (y1.2.1+y3)).tmod (1000000000:Int))].length=(1:Nat)*(1:Nat)) <|
 .rq (one [Value.int IntKind.i64 ((IntKind.i64.wrap (y1.2.1+y3)).tmod (1000000000:Int))]=true∧(y1.1.1+(1:Nat))*(8:Nat)≤(140737488355328:Nat)∧y1.1.1+(1:Nat)≤(9223372036854775807:Nat)) <|
 .rq ((1000000000:Int)≠(0:Int)) <|
 .nx 0 [.a 3 (y1.1.1+(1:Nat)) (y1.1.2++[Value.int IntKind.i64 ((IntKind.i64.wrap (y1.2.1+y3)).tmod (1000000000:Int))]),.v (.int .i64 (IntKind.i64.wrap ((IntKind.i64.wrap (y1.2.1+y3)).tdiv (1000000000:Int)))),.v (.int .i64 (IntKind.i64.wrap (y1.2.2.1+(1:Int))))]) <|
 .br (decide (y1.2.2.1<(↑x1.n:Int))) (
   .el x1.1 (x1.n) y1.2.2.1 fun y2 =>
   .ql23 (y2.add (Int.toNat y1.2.2.1*(1:Nat))) fun y3 =>
   .rq ((1000000000:Int)≠(0:Int)) <|
 .rq ([Value.int IntKind.i64 ((IntKind.i64.wrap (y1.2.1+y3)).tmod (1000000000:Int))].length=(1:Nat)*(1:Nat)) <|
 .rq (one [Value.int IntKind.i64 ((IntKind.i64.wrap (y1.2.1+y3)).tmod (1000000000:Int))]=true∧(y1.1.1+(1:Nat))*(8:Nat)≤(140737488355328:Nat)∧y1.1.1+(1:Nat)≤(9223372036854775807:Nat)) <|
 .rq ((1000000000:Int)≠(0:Int)) <|
 .nx 0 [.a 3 (y1.1.1+(1:Nat)) (y1.1.2++[Value.int IntKind.i64 ((IntKind.i64.wrap (y1.2.1+y3)).tmod (1000000000:Int))]),.v (.int .i64 (IntKind.i64.wrap ((IntKind.i64.wrap (y1.2.1+y3)).tdiv (1000000000:Int)))),.v (.int .i64 (IntKind.i64.wrap (y1.2.2.1+(1:Int))))]) <|
 .rq ((1000000000:Int)≠(0:Int)) <|
 .rq ([Value.int IntKind.i64 (Int.tmod y1.2.1 (1000000000:Int))].length=(1:Nat)*(1:Nat)) <|
 .rq (one [Value.int IntKind.i64 (Int.tmod y1.2.1 (1000000000:Int))]=true∧(y1.1.1+(1:Nat))*(8:Nat)≤(140737488355328:Nat)∧y1.1.1+(1:Nat)≤(9223372036854775807:Nat)) <|
 .rq ((1000000000:Int)≠(0:Int)) <|
 .nx 0 [.a 3 (y1.1.1+(1:Nat)) (y1.1.2++[Value.int IntKind.i64 (Int.tmod y1.2.1 (1000000000:Int))]),.v (.int .i64 (IntKind.i64.wrap (Int.tdiv y1.2.1 (1000000000:Int)))),.v (.int .i64 (IntKind.i64.wrap (y1.2.2.1+(1:Int))))]) <|
 .br (decide (y1.2.1 > (0:Int))) (
  .br (decide (y1.2.2.1<(↑x0.n:Int))) (
   .el x0.1 (x0.n) y1.2.2.1 fun y2 =>
   .ql23 (y2.add (Int.toNat y1.2.2.1*(1:Nat))) fun y3 =>
   .br (decide (y1.2.2.1<(↑x1.n:Int))) (
    .el x1.1 (x1.n) y1.2.2.1 fun y4 =>
    .ql23 (y4.add (Int.toNat y1.2.2.1*(1:Nat))) fun y5 =>
    .rq ((1000000000:Int)≠(0:Int)) <|
 .rq ([Value.int IntKind.i64 ((IntKind.i64.wrap (IntKind.i64.wrap (y1.2.1+y3)+y5)).tmod (1000000000:Int))].length=(1:Nat)*(1:Nat)) <|
 .rq (one [Value.int IntKind.i64 ((IntKind.i64.wrap (IntKind.i64.wrap (y1.2.1+y3)+y5)).tmod (1000000000:Int))]=true∧(y1.1.1+(1:Nat))*(8:Nat)≤(140737488355328:Nat)∧y1.1.1+(1:Nat)≤(9223372036854775807:Nat)) <|
 .rq ((1000000000:Int)≠(0:Int)) <|
 .nx 0 [.a 3 (y1.1.1+(1:Nat)) (y1.1.2++[Value.int IntKind.i64 ((IntKind.i64.wrap (IntKind.i64.wrap (y1.2.1+y3)+y5)).tmod (1000000000:Int))]),.v (.int .i64 (IntKind.i64.wrap ((IntKind.i64.wrap (IntKind.i64.wrap (y1.2.1+y3)+y5)).tdiv (1000000000:Int)))),.v (.int .i64 (IntKind.i64.wrap (y1.2.2.1+(1:Int))))]) <|
 .rq ((1000000000:Int)≠(0:Int)) <|
 .rq ([Value.int IntKind.i64 ((IntKind.i64.wrap (y1.2.1+y3)).tmod (1000000000:Int))].length=(1:Nat)*(1:Nat)) <|
 .rq (one [Value.int IntKind.i64 ((IntKind.i64.wrap (y1.2.1+y3)).tmod (1000000000:Int))]=true∧(y1.1.1+(1:Nat))*(8:Nat)≤(140737488355328:Nat)∧y1.1.1+(1:Nat)≤(9223372036854775807:Nat)) <|
 .rq ((1000000000:Int)≠(0:Int)) <|
 .nx 0 [.a 3 (y1.1.1+(1:Nat)) (y1.1.2++[Value.int IntKind.i64 ((IntKind.i64.wrap (y1.2.1+y3)).tmod (1000000000:Int))]),.v (.int .i64 (IntKind.i64.wrap ((IntKind.i64.wrap (y1.2.1+y3)).tdiv (1000000000:Int)))),.v (.int .i64 (IntKind.i64.wrap (y1.2.2.1+(1:Int))))]) <|
 .br (decide (y1.2.2.1<(↑x1.n:Int))) (
   .el x1.1 (x1.n) y1.2.2.1 fun y2 =>
   .ql23 (y2.add (Int.toNat y1.2.2.1*(1:Nat))) fun y3 =>
   .rq ((1000000000:Int)≠(0:Int)) <|
 .rq ([Value.int IntKind.i64 ((IntKind.i64.wrap (y1.2.1+y3)).tmod (1000000000:Int))].length=(1:Nat)*(1:Nat)) <|
 .rq (one [Value.int IntKind.i64 ((IntKind.i64.wrap (y1.2.1+y3)).tmod (1000000000:Int))]=true∧(y1.1.1+(1:Nat))*(8:Nat)≤(140737488355328:Nat)∧y1.1.1+(1:Nat)≤(9223372036854775807:Nat)) <|
 .rq ((1000000000:Int)≠(0:Int)) <|
 .nx 0 [.a 3 (y1.1.1+(1:Nat)) (y1.1.2++[Value.int IntKind.i64 ((IntKind.i64.wrap (y1.2.1+y3)).tmod (1000000000:Int))]),.v (.int .i64 (IntKind.i64.wrap ((IntKind.i64.wrap (y1.2.1+y3)).tdiv (1000000000:Int)))),.v (.int .i64 (IntKind.i64.wrap (y1.2.2.1+(1:Int))))]) <|
 .rq ((1000000000:Int)≠(0:Int)) <|
 .rq ([Value.int IntKind.i64 (Int.tmod y1.2.1 (1000000000:Int))].length=(1:Nat)*(1:Nat)) <|
 .rq (one [Value.int IntKind.i64 (Int.tmod y1.2.1 (1000000000:Int))]=true∧(y1.1.1+(1:Nat))*(8:Nat)≤(140737488355328:Nat)∧y1.1.1+(1:Nat)≤(9223372036854775807:Nat)) <|
 .rq ((1000000000:Int)≠(0:Int)) <|
 .nx 0 [.a 3 (y1.1.1+(1:Nat)) (y1.1.2++[Value.int IntKind.i64 (Int.tmod y1.2.1 (1000000000:Int))]),.v (.int .i64 (IntKind.i64.wrap (Int.tdiv y1.2.1 (1000000000:Int)))),.v (.int .i64 (IntKind.i64.wrap (y1.2.2.1+(1:Int))))]) <|
 .fz y1.1.1 y1.1.2 3 fun b2 c2 =>
 .ret [.slice (some { block:=b2,off:=(0:Nat):Addr }) y1.1.1 (c2)]
theorem fS_l02Add x0 x1:qft aS_l02Add 259 [Sc.val .l x0,Sc.val .l x1] (tS_l02Add x0 x1) :=fitK (by kernel_rfl)
def aS_l05Gcd:An:=⟨[(3,[.s 5,.s 6],[.o (.o (.l)),.o (.o (.l))])],[],[]⟩
def tS_l05Gcd (x0:SlV) (x1:SlV):T :=
 .lp [.o (.o (.l)),.o (.o (.l))] [.v (Sc.val .l x0),.v (Sc.val .l x1)] fun y1 =>
 .br (decide ((↑y1.2.1.n:Int) > (0:Int))) (
  .qc39 216 [Sc.val .l y1.1,Sc.val .l y1.2.1] fun y2 =>
  .nx 0 [.v (Sc.val .l y1.2.1),.v (Sc.val .l y2.2.1)]) <|
 .ret [Sc.val .l y1.1]
theorem fS_l05Gcd x0 x1:qft aS_l05Gcd 260 [Sc.val .l x0,Sc.val .l x1] (tS_l05Gcd x0 x1) :=fitK (by kernel_rfl)
def tS_l17Money (x0:qy3):T :=
 .rg <|
 .es [] 3 fun b1 =>
 .ra ({ a:=x0.2.2.1.1,n:=x0.2.2.1.n,c:=x0.2.2.1.c:SlV }) ((1:Nat)) fun y2 =>
 .rq (one y2=true∧x0.2.2.1.n*(8:Nat)≤(140737488355328:Nat)∧x0.2.2.1.n≤(9223372036854775807:Nat)) <|
 .br (decide (x0.2.2.1.n=(0:Nat))) (
  .ret [qv4 (x0.1,x0.2.1,(⟨(some { block:=b1,off:=(0:Nat):Addr }),((0:Nat)),((0:Nat))⟩:SlV),())]) <|
 .fz (x0.2.2.1.n) y2 3 fun b3 c3 =>
 .ret [qv4 (x0.1,x0.2.1,(⟨(some { block:=b3,off:=(0:Nat):Addr }),(x0.2.2.1.n),(c3)⟩:SlV),())]
theorem fS_l17Money x0:qft qa0 275 [qv4 x0] (tS_l17Money x0) :=fitK (by kernel_rfl)
def tS_l09Both (x0:qy3) (x1:qy3):T :=
 .qc1 193 [qv4 x0] fun y1 =>
 .br y1 (
  .qc1 193 [qv4 x1] fun y2 =>
  .br y2 (
   .ret [.bool (ByteArray.toList x0.1 == ByteArray.toList x1.1)]) <|
 .rF) <|
 .rF
theorem fS_l09Both x0 x1:qft qa0 276 [qv4 x0,qv4 x1] (tS_l09Both x0 x1) :=fitK (by kernel_rfl)
def tS_IntAdd (x0:qy0) (x1:qy0):T :=
 .qc1 156 [qv0 x0] fun y1 =>
 .bn y1 (.ret [qv0 ((false),nilS,())]) <|
 .qc1 156 [qv0 x1] fun y2 =>
 .bn y2 (.ret [qv0 ((false),nilS,())]) <|
 .qc35 225 [qv0 x0,qv0 x1] fun y3 =>
 .ret [qv0 y3]
theorem fS_IntAdd x0 x1:qft qa0 277 [qv0 x0,qv0 x1] (tS_IntAdd x0 x1) :=fitK (by kernel_rfl)
end
end Go.Proofs.YtagkjnpggkmehaaGreatDoor

namespace Go.Proofs.YtagkjnpggkmehaaGreatDoor
open Sx
set_option maxRecDepth 100000
theorem Tryz.mix:Tryz.prog.follows .mixedOrders=true:=Tryz.checked.mixed
abbrev CurRow:Type:=Scs [.s,.s,.i .i64,.i .i64]
def curI:List CurRow:=[
 (⟨#[67,72,70]⟩,⟨#[55,53,54]⟩,2,5,()),
 (⟨#[69,85,82]⟩,⟨#[57,55,56]⟩,2,1,()),
 (⟨#[85,83,68]⟩,⟨#[56,52,48]⟩,2,1,()),
 (⟨#[71,66,80]⟩,⟨#[56,50,54]⟩,2,1,()),
 (⟨#[74,80,89]⟩,⟨#[51,57,50]⟩,0,1,()),
 (⟨#[83,69,75]⟩,⟨#[55,53,50]⟩,2,100,()),
 (⟨#[78,79,75]⟩,⟨#[53,55,56]⟩,2,100,()),
 (⟨#[68,75,75]⟩,⟨#[50,48,56]⟩,2,50,()),
 (⟨#[67,90,75]⟩,⟨#[50,48,51]⟩,2,100,()),
 (⟨#[72,85,70]⟩,⟨#[51,52,56]⟩,2,500,()),
 (⟨#[80,76,78]⟩,⟨#[57,56,53]⟩,2,1,()),
 (⟨#[67,65,68]⟩,⟨#[49,50,52]⟩,2,5,()),
 (⟨#[65,85,68]⟩,⟨#[48,51,54]⟩,2,5,()),
 (⟨#[78,90,68]⟩,⟨#[53,53,52]⟩,2,10,()),
 (⟨#[75,87,68]⟩,⟨#[52,49,52]⟩,3,5,()),
 (⟨#[66,72,68]⟩,⟨#[48,52,56]⟩,3,5,()),
 (⟨#[84,78,68]⟩,⟨#[55,56,56]⟩,3,10,()),
 (⟨#[73,83,75]⟩,⟨#[51,53,50]⟩,0,1,()),
 (⟨#[75,82,87]⟩,⟨#[52,49,48]⟩,0,10,()),
 (⟨#[67,76,70]⟩,⟨#[57,57,48]⟩,4,1,())]
def curS:List CurRow:=[
 (⟨#[65,85,68]⟩,⟨#[48,51,54]⟩,2,5,()),
 (⟨#[66,72,68]⟩,⟨#[48,52,56]⟩,3,5,()),
 (⟨#[67,65,68]⟩,⟨#[49,50,52]⟩,2,5,()),
 (⟨#[67,72,70]⟩,⟨#[55,53,54]⟩,2,5,()),
 (⟨#[67,76,70]⟩,⟨#[57,57,48]⟩,4,1,()),
 (⟨#[67,90,75]⟩,⟨#[50,48,51]⟩,2,100,()),
 (⟨#[68,75,75]⟩,⟨#[50,48,56]⟩,2,50,()),
 (⟨#[69,85,82]⟩,⟨#[57,55,56]⟩,2,1,()),
 (⟨#[71,66,80]⟩,⟨#[56,50,54]⟩,2,1,()),
 (⟨#[72,85,70]⟩,⟨#[51,52,56]⟩,2,500,()),
 (⟨#[73,83,75]⟩,⟨#[51,53,50]⟩,0,1,()),
 (⟨#[74,80,89]⟩,⟨#[51,57,50]⟩,0,1,()),
 (⟨#[75,82,87]⟩,⟨#[52,49,48]⟩,0,10,()),
 (⟨#[75,87,68]⟩,⟨#[52,49,52]⟩,3,5,()),
 (⟨#[78,79,75]⟩,⟨#[53,55,56]⟩,2,100,()),
 (⟨#[78,90,68]⟩,⟨#[53,53,52]⟩,2,10,()),
 (⟨#[80,76,78]⟩,⟨#[57,56,53]⟩,2,1,()),
 (⟨#[83,69,75]⟩,⟨#[55,53,50]⟩,2,100,()),
 (⟨#[84,78,68]⟩,⟨#[55,56,56]⟩,3,10,()),
 (⟨#[85,83,68]⟩,⟨#[56,52,48]⟩,2,1,())]
def rowC (r:CurRow):List Value:=Scs.vals [.s,.s,.i .i64,.i .i64] r
def curCells (l:List CurRow):List Value:=l.flatMap rowC
theorem rowC_len (r:CurRow):(rowC r).length=4:=rfl
theorem cur_at {l:List CurRow} {n:Nat} (h:n<l.length) (r:List Value):cutv (curCells l++r) (n*4) 4=some (rowC l[n]):=cutv_flat rowC_len h r
theorem cur_at' {l:List CurRow} {n:Nat} (h:n<l.length):cutv (curCells l) (n*4) 4=some (rowC l[n]):=by
 have:=cur_at h []
 rwa [List.append_nil] at this
def curHas (x:ByteArray) (r:CurRow):Bool:=r.1.toList == x.toList
def curFrom (l:List CurRow) (x:ByteArray) (n:Nat):Option CurRow:=(l.drop n).find? (curHas x)
theorem curFrom_step {l:List CurRow} {x:ByteArray} {n:Nat} (h:n<l.length):curFrom l x n=if curHas x l[n] then some l[n] else curFrom l x (n+1):=by
 unfold curFrom
 rw [List.drop_eq_getElem_cons h,List.find?_cons]
 cases curHas x l[n] <;> rfl
theorem curFrom_end {l:List CurRow} {x:ByteArray}:curFrom l x l.length=none:=by
 unfold curFrom; rw [List.drop_length]; rfl
def curRow0:CurRow:=(⟨#[]⟩,⟨#[]⟩,0,0,())
def curRowOf (x:ByteArray):CurRow:=(curFrom curI x 0).getD curRow0
def known (x:ByteArray):Bool:=(curFrom curI x 0).isSome
theorem cur_both (x:ByteArray):curFrom curS x 0=curFrom curI x 0:=by
 have key:∀ c∈curI.map (fun r=>r.1.toList),(curS.find? fun r=>r.1.toList == c)=(curI.find? fun r=>r.1.toList == c):=by decide +kernel
 by_cases h:x.toList∈curI.map (fun r=>r.1.toList)
 ·exact key _ h
 ·have hS:∀ r∈curS,r.1.toList∈curI.map (fun r=>r.1.toList):=by decide +kernel
  have h1:curFrom curS x 0=none:=by
   refine List.find?_eq_none.2 fun r hr hx=>h ?_
   have:=hS r hr
   rw [show x.toList=r.1.toList from(beq_iff_eq.1 hx).symm]; exact this
  have h2:curFrom curI x 0=none:=by
   refine List.find?_eq_none.2 fun r hr hx=>h ?_
   rw [show x.toList=r.1.toList from(beq_iff_eq.1 hx).symm]
   exact List.mem_map_of_mem hr
  rw [h1,h2]
theorem known_iff (x:ByteArray):known x=!((curRowOf x).1.toList == (⟨#[]⟩:ByteArray).toList):=by
 unfold known curRowOf
 cases h:curFrom curI x 0 with
 | none=>simp [curRow0]
 | some r =>
  have hm:r∈curI:=List.mem_of_find?_eq_some h
  have:∀ r∈curI,(!(r.1.toList == (⟨#[]⟩:ByteArray).toList))=true:=by decide +kernel
  exact(this r hm).symm
theorem cS_l08Table (V:Know):CallX Tryz.prog V 214 [] (fun V' r=>∃ b c spare t,V b=none∧V'=kset V b (curCells curS++spare,t)∧r=.slice (some ⟨b,0,none⟩) 20 c):=by
 refine CallX.of_fits Tryz.mix fS_l08Table fun _=>?_
 simp only [tS_l08Table,T.wp]
 intro b c spare hb hc _
 exact⟨b,c,spare,_,hb,rfl,rfl⟩
theorem cS_l08Find (V:Know) (x:ByteArray):CallX Tryz.prog V 155 [.string x] (fun V' r=>V.le V'∧r=qv10 (curRowOf x)):=by
 refine CallX.of_fits Tryz.mix (fS_l08Find x) fun _=>?_
 simp only [tS_l08Find,T.wp]
 refine(cS_l08Table V).mono ?_
 rintro V1 r ⟨b,c,spare,t,hb,rfl,rfl⟩
 refine⟨nofun,⟨some ⟨b,0,none⟩,20,c⟩,rfl,?_⟩
 refine⟨fun y V'=>V'=kset V b (curCells curS++spare,t)∧∃ n:Nat,y.1=(n:Int)∧n≤20∧curFrom curS x n=curFrom curS x 0,fun y=>(20-(y.1:Int)).toNat,
  ⟨((0:Int),⟨#[]⟩,⟨#[]⟩,(0:Int),(0:Int),()),rfl,rfl,0,rfl,by omega,rfl⟩,?_⟩
 rintro⟨(i:Int),s1,s2,(i1:Int),(i2:Int),u⟩ V' ⟨rfl,n,hi,hn,hf⟩
 replace hi:i=(n:Int):=hi
 subst hi
 have hlen:curS.length=20:=rfl
 refine⟨fun h=>?_,fun h=>?_⟩
 ·have hb1:n<curS.length:=by (have:(n:Int)<20:=(by simpa using h); omega)
  refine⟨_,rfl,by omega,(by omega:(n:Int)<20),curS[n],?_,fun h=>?_,fun h=>?_⟩
  ·simp only [addr_add_eq,loadV,kset_same,Bool.false_eq_true,if_false,Nat.zero_add,Int.toNat_natCast]
   exact cur_at hb1 spare
  ·have h2:curFrom curS x 0=some curS[n]:=by
    rw [← hf,curFrom_step hb1,if_pos (show curHas x _=true from h)]
   refine⟨kset_le hb,?_⟩
   rw [curRowOf,← cur_both,h2]; rfl
  ·have h2:curFrom curS x (n+1)=curFrom curS x 0:=by
    rw [← hf,curFrom_step hb1,if_neg (by rw [curHas,h]; decide)]
   have hw:IntKind.i64.wrap ((n:Int)+1)=((n+1:Nat):Int):=by rw [wrap_i64 (by omega)]; omega
   refine⟨_,rfl,(((n+1:Nat):Int),s1,s2,i1,i2,()),by rw [hw]; rfl,⟨rfl,n+1,rfl,by omega,h2⟩,?_⟩
   show(20-((n+1:Nat):Int)).toNat<(20-(n:Int)).toNat
   omega
 ·have hn20:n=20:=by (have:¬ (n:Int)<20:=(by simpa using h); omega)
  subst hn20
  refine⟨kset_le hb,?_⟩
  have h2:curFrom curS x 0=none:=by rw [← hf]; exact curFrom_end
  rw [curRowOf,← cur_both,h2]; rfl
theorem cS_CurKnown (V:Know) (x:ByteArray):CallX Tryz.prog V 89 [.string x] (fun V' r=>V.le V'∧r=.bool (known x)):=by
 refine CallX.of_fits Tryz.mix (fS_CurKnown x) fun _=>?_
 simp only [tS_CurKnown,T.wp]
 refine(cS_l08Find V x).mono ?_
 rintro V1 r ⟨hle,rfl⟩
 exact⟨nofun,_,rfl,hle,by rw [known_iff]; rfl⟩
def curY:Scs (List.replicate 20 [Sc.s,.s,.i .i64,.i .i64]).flatten:=(⟨#[67,72,70]⟩,⟨#[55,53,54]⟩,2,5,⟨#[69,85,82]⟩,⟨#[57,55,56]⟩,2,1,⟨#[85,83,68]⟩,⟨#[56,52,48]⟩,2,1,⟨#[71,66,80]⟩,⟨#[56,50,54]⟩,2,1,⟨#[74,80,89]⟩,⟨#[51,57,50]⟩,0,1,⟨#[83,69,75]⟩,⟨#[55,53,50]⟩,2,100,⟨#[78,79,75]⟩,⟨#[53,55,56]⟩,2,100,⟨#[68,75,75]⟩,⟨#[50,48,56]⟩,2,50,⟨#[67,90,75]⟩,⟨#[50,48,51]⟩,2,100,⟨#[72,85,70]⟩,⟨#[51,52,56]⟩,2,500,⟨#[80,76,78]⟩,⟨#[57,56,53]⟩,2,1,⟨#[67,65,68]⟩,⟨#[49,50,52]⟩,2,5,⟨#[65,85,68]⟩,⟨#[48,51,54]⟩,2,5,⟨#[78,90,68]⟩,⟨#[53,53,52]⟩,2,10,⟨#[75,87,68]⟩,⟨#[52,49,52]⟩,3,5,⟨#[66,72,68]⟩,⟨#[48,52,56]⟩,3,5,⟨#[84,78,68]⟩,⟨#[55,56,56]⟩,3,10,⟨#[73,83,75]⟩,⟨#[51,53,50]⟩,0,1,⟨#[75,82,87]⟩,⟨#[52,49,48]⟩,0,10,⟨#[67,76,70]⟩,⟨#[57,57,48]⟩,4,1,())
def hasCur (V:Know):Prop:=∃ t,V 0=some (curCells curI,t)
theorem hasCur.le {V V':Know} (h:hasCur V) (hle:V.le V'):hasCur V':=let ⟨t,ht⟩:=h; ⟨t,hle _ _ ht⟩
theorem cI_currencyOf {V:Know} (hV:hasCur V) (x:ByteArray):CallX Tryz.prog V 107 [.string x] (fun V' r=>V'=V∧r=.tuple #[qv10 (curRowOf x),.bool (known x)]):=by
 obtain⟨t,hV⟩:=hV
 refine CallX.of_fits Tryz.mix (fI_currencyOf x) fun _=>?_
 simp only [tI_currencyOf,T.wp]
 refine⟨curY,by simp only [loadV,hV,Bool.false_eq_true,if_false]; exact by kernel_rfl,?_⟩
 refine⟨fun y V'=>V'=V∧∃ n:Nat,y.1=(n:Int)∧n≤20∧curFrom curI x n=curFrom curI x 0,fun y=>(20-(y.1:Int)).toNat,
  ⟨((0:Int),⟨#[]⟩,⟨#[]⟩,(0:Int),(0:Int),()),rfl,rfl,0,rfl,by omega,rfl⟩,?_⟩
 rintro⟨(i:Int),s1,s2,(i1:Int),(i2:Int),u⟩ V' ⟨rfl,n,hi,hn,hf⟩
 replace hi:i=(n:Int):=hi
 subst hi
 have hlen:curI.length=20:=rfl
 refine⟨fun h=>?_,fun h=>?_⟩
 ·have hb1:n<curI.length:=by (have:(n:Int)<20:=(by simpa using h); omega)
  refine⟨⟨by omega,(by omega:(n:Int)<20)⟩,curI[n],?_,fun h=>?_,fun h=>?_⟩
  ·simp only [Int.toNat_natCast]
   exact cur_at' hb1
  ·have h2:curFrom curI x 0=some curI[n]:=by
    rw [← hf,curFrom_step hb1,if_pos (show curHas x _=true from h)]
   refine⟨rfl,?_⟩
   rw [curRowOf,known,h2]; rfl
  ·have h2:curFrom curI x (n+1)=curFrom curI x 0:=by
    rw [← hf,curFrom_step hb1,if_neg (by rw [curHas,h]; decide)]
   have hw:IntKind.i64.wrap ((n:Int)+1)=((n+1:Nat):Int):=by rw [wrap_i64 (by omega)]; omega
   refine⟨_,rfl,(((n+1:Nat):Int),s1,s2,i1,i2,()),by rw [hw]; rfl,⟨rfl,n+1,rfl,by omega,h2⟩,?_⟩
   show(20-((n+1:Nat):Int)).toNat<(20-(n:Int)).toNat
   omega
 ·have hn20:n=20:=by (have:¬ (n:Int)<20:=(by simpa using h); omega)
  subst hn20
  refine⟨rfl,?_⟩
  have h2:curFrom curI x 0=none:=by rw [← hf]; exact curFrom_end
  rw [curRowOf,known,h2]; rfl
theorem cI_CurKnown {V:Know} (hV:hasCur V) (x:ByteArray):CallX Tryz.prog V 52 [.string x] (fun V' r=>V'=V∧r=.bool (known x)):=by
 refine CallX.of_fits Tryz.mix (fI_CurKnown x) fun _=>?_
 simp only [tI_CurKnown,T.wp]
 refine(cI_currencyOf hV x).mono ?_
 rintro V1 r ⟨rfl,rfl⟩
 exact⟨nofun,(curRowOf x,known x,()),rfl,rfl,rfl⟩
end Go.Proofs.YtagkjnpggkmehaaGreatDoor
namespace Go.Proofs.YtagkjnpggkmehaaGreatDoor
open Sx
set_option maxRecDepth 100000
theorem els_int {V:Know}:∀ o:List Lim,Els rI V o o []
 | []=>rfl
 | _ :: o=>⟨[],[],rfl,⟨rfl,rfl⟩,els_int o⟩
theorem els_int_eq {V:Know}:∀ {cs l:List Lim} {f:List Nat},Els rI V cs l f→cs=l∧f=[]
 | [],[],_,h=>⟨rfl,h⟩
 | (c,()) :: cs,(x,()) :: l,_,⟨f,g,rfl,h1,h2⟩=>by
  obtain⟨rfl,rfl⟩:=els_int_eq h2
  have e1:c=x:=h1.1
  have e2:f=[]:=h1.2
  subst e1; subst e2
  exact⟨rfl,rfl⟩
def cellI (x:Lim):Value:=.int .i64 x.1
theorem flat_int:∀ o:List Lim,o.flatMap (Scs.vals [.i .i64])=o.map cellI
 | []=>rfl
 | x :: o=>by rw [List.flatMap_cons,flat_int o]; rfl
theorem one_int:∀ o:List Lim,one (o.map cellI)=true
 | []=>rfl
 | x :: o=>by
  have:=one_int o
  unfold one at this ⊢
  rw [List.map_cons,List.all_cons,this]; rfl
theorem LR.shrink {V:Know} {s:SlV} {l:List Lim} {f:List Nat} (h:LR rI V s l f) {k:Nat} (hk:k≤l.length):LR rI V ⟨s.a,k,s.c⟩ (l.take k) f:=by
 obtain⟨h1,h2,h3,h4⟩:=h
 refine⟨by simp; omega,(by omega:k≤s.c),(by omega:k≤9223372036854775807),?_⟩
 rcases h4 with ⟨h0,hc,hf⟩ | ⟨b,pre,post,t,fps,cs,k1,k2,k3,rfl⟩
 ·exact .inl ⟨(by omega:k=0),hc,hf⟩
 ·obtain⟨rfl,rfl⟩:=els_int_eq k3
  refine .inr ⟨b,pre,(cs.drop k).flatMap (Scs.vals [.i .i64])++post,t,[],cs.take k,k1,?_,els_int _,rfl⟩
  have e:(cs.take k).flatMap (Scs.vals [.i .i64])++((cs.drop k).flatMap (Scs.vals [.i .i64])++post)=cs.flatMap (Scs.vals [.i .i64])++post:=by
   rw [← List.append_assoc,← List.flatMap_append,List.take_append_drop]
  rw [k2,e]
theorem LR.rdI {V:Know} {s:SlV} {l:List Lim} {f:List Nat} (h:LR rI V s l f) :
  ((s.n=0∧(s.a=none→s.c=0)∧l.map cellI=[])∨∃ ad,s.a=some ad∧loadV V ad (s.n*1)=some (l.map cellI))∧one (l.map cellI)=true:=by
 obtain⟨h1,h2,h3,h4⟩:=h
 refine⟨?_,one_int l⟩
 rcases h4 with ⟨h0,hc,hf⟩ | ⟨b,pre,post,t,fps,cs,k1,k2,k3,rfl⟩
 ·have:l=[]:=List.eq_nil_of_length_eq_zero (by omega)
  subst this
  exact .inl ⟨h0,hc,rfl⟩
 ·obtain⟨rfl,rfl⟩:=els_int_eq k3
  refine .inr ⟨_,k1,?_⟩
  simp only [loadV,k2]
  have:=cutv_skip (x:=pre) (y:=cs.flatMap (Scs.vals [.i .i64])++post) (o:=0) (n:=s.n*1)
  rw [Nat.add_zero] at this
  rw [this,flat_int,h1,Nat.mul_one]
  have:=cutv_head (x:=cs.map cellI) (y:=post)
  rwa [List.length_map] at this
theorem newI {V:Know} {b cap:Nat} {o:List Lim} {spare:List Value} {t:TypeId} (hb:V b=none) (hc:o.length≤cap) (hl:o.length≤9223372036854775807) :
  LR rI (kset V b (o.map cellI++spare,(t,(0,0)))) ⟨some ⟨b,0,none⟩,o.length,cap⟩ o [b]∧Own V (kset V b (o.map cellI++spare,(t,(0,0)))) [b]:=by
 refine⟨⟨rfl,hc,hl,.inr ⟨b,[],spare,(t,(0,0)),[],o,rfl,?_,els_int o,rfl⟩⟩,by simp,?_,?_⟩
 ·rw [kset_same,flat_int]; rfl
 ·intro b' hb'; simp at hb'; subst hb'; exact hb
 ·intro b' hb'; simp at hb'; subst hb'; exact⟨_,_,kset_same⟩
theorem cI_trim (V:Know) (s:SlV) (l:List Lim) (f:List Nat) (h:LR rI V s l f) :
  CallX Tryz.prog V 121 [Sc.val .l s] (fun V' r=>V'=V∧∃ s',r=Sc.val .l s'∧LR rI V s' (trimL l) f):=by
 refine CallX.of_fits Tryz.mix (fI_trim s) fun _=>?_
 simp only [tI_trim,T.wp]
 refine⟨fun y V'=>V'=V∧∃ m:Nat,m≤l.length∧tl l m=tl l l.length∧LR rI V y.1 (l.take m) f,fun y=>y.1.n,
  ⟨(s,()),rfl,rfl,l.length,Nat.le_refl _,rfl,by rw [List.take_length]; exact h⟩,?_⟩
 rintro⟨s1,u⟩ V' ⟨rfl,m,hm,htl,hL⟩
 replace hL:LR rI V' s1 (l.take m) f:=hL
 have hn:s1.n=m:=by have:=hL.1; simp at this; omega
 have hcap:=hL.2.1
 have h63:=hL.2.2.1
 refine⟨fun hpos=>?_,fun hz=>?_⟩
 ·have hp:(s1.n:Int) > 0:=of_decide_eq_true hpos
  obtain⟨j,rfl⟩:∃ j,m=j+1:=⟨m-1,by omega⟩
  have hj:j<(l.take (j+1)).length:=by simp; omega
  have hjl:j<l.length:=by omega
  obtain⟨b,o,a1,l1⟩:=hL.int hj
  have hw:IntKind.i64.wrap ((s1.n:Int)-1)=(j:Int):=by rw [wrap_i64 (by omega)]; omega
  show ∃ ad,s1.a=some ad∧_
  rw [hw]
  refine⟨_,a1,(by omega:(0:Int)≤(j:Int)),(by omega:(j:Int)<(s1.n:Int)),(l.take (j+1))[j].1,l1,fun h0=>?_,fun h0=>?_⟩
  ·have e0:limb l j=0:=by
    rw [limb_lt hjl]
    have:(l.take (j+1))[j].1=0:=by simpa using h0
    simpa using this
   have hsame:(if (s1.c:Int).toNat=Int.toNat (0:Int) then s1.a else Option.map (fun x=>x.add (Int.toNat (0:Int)*Tryz.prog.types[(3:Nat)].size)) s1.a)=s1.a:=by
    split
    ·rfl
    ·cases s1.a with
     | none=>rfl
     | some ad=>simp [Addr.add]
   have hL2:=hL.shrink (k:=j) (by simp; omega)
   refine⟨⟨(by omega:(0:Int)≤0),(by omega:(0:Int)≤(j:Int)),(by omega:(j:Int)≤(s1.c:Int)),(by omega:(s1.c:Int)≤(s1.c:Int))⟩,_,rfl,((⟨if (s1.c:Int).toNat=Int.toNat (0:Int) then s1.a else Option.map (fun x=>x.add (Int.toNat (0:Int)*Tryz.prog.types[(3:Nat)].size)) s1.a,(j:Int).toNat-Int.toNat (0:Int),(s1.c:Int).toNat-Int.toNat (0:Int)⟩:SlV),()),rfl,⟨rfl,j,by omega,?_,?_⟩,?_⟩
   ·rw [← htl,tl,if_pos e0]
   ·have e3:((j:Int).toNat-Int.toNat (0:Int))=j:=by omega
    have e4:((s1.c:Int).toNat-Int.toNat (0:Int))=s1.c:=by omega
    show LR rI V' ⟨if (s1.c:Int).toNat=Int.toNat (0:Int) then s1.a else Option.map (fun x=>x.add (Int.toNat (0:Int)*Tryz.prog.types[(3:Nat)].size)) s1.a,(j:Int).toNat-Int.toNat (0:Int),(s1.c:Int).toNat-Int.toNat (0:Int)⟩ _ _
    rw [hsame,e3,e4]
    rw [List.take_take] at hL2
    rwa [Nat.min_eq_left (by omega)] at hL2
   ·show(j:Int).toNat-Int.toNat (0:Int)<s1.n
    omega
  ·have e0:limb l j≠0:=by
    rw [limb_lt hjl]
    have:¬ (l.take (j+1))[j].1=0:=by simpa using h0
    simpa using this
   refine⟨rfl,s1,rfl,?_⟩
   rw [tl,if_neg e0] at htl
   unfold trimL
   rw [← htl]; exact hL
 ·have hz':¬ (s1.n:Int) > 0:=of_decide_eq_false hz
  have:m=0:=by omega
  subst this
  refine⟨rfl,s1,rfl,?_⟩
  unfold trimL
  rw [← htl]; exact hL
theorem cI_natCopy (V:Know) (s:SlV) (l:List Lim) (f:List Nat) (h:LR rI V s l f) (hl:l.length≤1048576) :
  CallX Tryz.prog V 102 [Sc.val .l s] (fun V' r=>V.le V'∧∃ s' f',r=Sc.val .l s'∧LR rI V' s' l f'∧Own V V' f'):=by
 refine CallX.of_fits Tryz.mix (fI_natCopy s) fun _=>?_
 simp only [tI_natCopy,T.wp]
 obtain⟨h1,h2⟩:=h.rdI
 have hn:=h.1
 refine⟨_,h1,h2,⟨h2,(by omega:(0+s.n)*8≤140737488355328),(by omega:0+s.n≤9223372036854775807)⟩,?_⟩
 intro b cap spare hb hc _
 have hk:=newI (o:=l) (spare:=spare) (t:=3) (cap:=cap) hb (by omega) (by omega)
 refine⟨kset_le hb,⟨some ⟨b,0,none⟩,0+s.n,cap⟩,[b],rfl,?_,hk.2⟩
 rw [Nat.zero_add,hn]; exact hk.1
theorem cmp_body {l l':List Lim} {n:Nat}:cmpAt l l' (n+1)=if limb l n<limb l' n then -1 else if limb l n > limb l' n then 1 else cmpAt l l' n:=rfl
theorem cI_natCmp (V:Know) (s s':SlV) (l l':List Lim) (f f':List Nat) (h:LR rI V s l f) (h':LR rI V s' l' f') :
  CallX Tryz.prog V 119 [Sc.val .l s,Sc.val .l s'] (fun V' r=>V'=V∧r=.int .i64 (cmpL l l')):=by
 refine CallX.of_fits Tryz.mix (fI_natCmp _ _) fun _=>?_
 simp only [tI_natCmp,T.wp]
 have hn:=h.1
 have hn':=h'.1
 have hb:=h.2.2.1
 refine⟨fun hne=>?_,fun heq=>?_⟩
 ·have hne':l.length≠l'.length:=by
   have:((s.n:Nat):Int)≠((s'.n:Nat):Int):=by simpa using hne
   omega
  refine⟨fun hlt=>⟨by trivial,?_⟩,fun hge=>⟨by trivial,?_⟩⟩
  ·have:(s.n:Int)<(s'.n:Int):=of_decide_eq_true hlt
   rw [cmpL,if_pos hne',if_pos (by omega)]; rfl
  ·have:¬ (s.n:Int)<(s'.n:Int):=of_decide_eq_false hge
   rw [cmpL,if_pos hne',if_neg (by omega)]; rfl
 have hl:l.length=l'.length:=by
  have:((s.n:Nat):Int)=((s'.n:Nat):Int):=by simpa using heq
  omega
 have hc:cmpL l l'=cmpAt l l' l.length:=by rw [cmpL,if_neg (by simpa using hl)]
 rw [hc]
 have hw:IntKind.i64.wrap ((s.n:Int)-1)=(s.n:Int)-1:=wrap_i64 (by omega)
 refine⟨fun y V'=>V'=V∧∃ n:Nat,y.1=(n:Int)-1∧n≤l.length∧cmpAt l l' n=cmpAt l l' l.length,fun y=>((y.1:Int)+1).toNat,
  ⟨((s.n:Int)-1,()),by rw [hw]; rfl,rfl,l.length,by rw [hn],Nat.le_refl _,rfl⟩,?_⟩
 rintro⟨(i:Int),u⟩ V' ⟨rfl,n,hi,hle,hcm⟩
 replace hi:i=(n:Int)-1:=hi
 refine⟨fun hge=>?_,fun hlt=>?_⟩
 ·have hge':i≥0:=of_decide_eq_true hge
  obtain⟨m,rfl⟩:∃ m,n=m+1:=⟨n-1,by omega⟩
  have hi:i=(m:Int):=by omega
  subst hi
  have h1:m<l.length:=hle
  have h2:m<l'.length:=by omega
  obtain⟨b1,o1,a1,l1⟩:=h.int h1
  obtain⟨b2,o2,a2,l2⟩:=h'.int h2
  rw [cmp_body,limb_lt h1,limb_lt h2] at hcm
  refine⟨_,a1,by omega,(by omega:(m:Int)<(s.n:Int)),l[m].1,l1,_,a2,by omega,(by omega:(m:Int)<(s'.n:Int)),l'[m].1,l2,fun hne=>?_,fun heq=>?_⟩
  ·have hne':l[m].1≠l'[m].1:=by simpa using hne
   refine⟨_,a1,by omega,(by omega:(m:Int)<(s.n:Int)),l[m].1,l1,_,a2,by omega,(by omega:(m:Int)<(s'.n:Int)),l'[m].1,l2,fun hlt=>⟨rfl,?_⟩,fun hge1=>⟨rfl,?_⟩⟩
   ·rw [if_pos (of_decide_eq_true hlt)] at hcm
    rw [← hcm]; rfl
   ·have:¬ l[m].1<l'[m].1:=of_decide_eq_false hge1
    rw [if_neg this,if_pos (by omega)] at hcm
    rw [← hcm]; rfl
  ·have heq':l[m].1=l'[m].1:=by simpa using heq
   rw [if_neg (by omega),if_neg (by omega)] at hcm
   refine⟨_,rfl,((m:Int)-1,()),by rw [show IntKind.i64.wrap ((m:Int)-1)=(m:Int)-1 from wrap_i64 (by omega)]; rfl,⟨rfl,m,rfl,by omega,hcm⟩,?_⟩
   show((m:Int)-1+1).toNat<((m:Int)+1).toNat
   omega
 ·have:¬ i≥0:=of_decide_eq_false hlt
  have hz:n=0:=by omega
  subst hz
  refine⟨rfl,?_⟩
  rw [← hcm]; rfl
theorem cS_l02Cmp (V:Know) (s s':SlV) (l l':List Lim) (f f':List Nat) (h:LR rI V s l f) (h':LR rI V s' l' f') :
  CallX Tryz.prog V 152 [Sc.val .l s,Sc.val .l s'] (fun V' r=>V'=V∧r=.int .i64 (cmpL l l')):=by
 refine CallX.of_fits Tryz.mix (fS_l02Cmp _ _) fun _=>?_
 simp only [tS_l02Cmp,T.wp]
 have hn:=h.1
 have hn':=h'.1
 have hb:=h.2.2.1
 refine⟨fun hne=>?_,fun heq=>?_⟩
 ·have hne':l.length≠l'.length:=by
   have:((s.n:Nat):Int)≠((s'.n:Nat):Int):=by simpa using hne
   omega
  refine⟨fun hlt=>⟨by trivial,?_⟩,fun hge=>⟨by trivial,?_⟩⟩
  ·have:(s.n:Int)<(s'.n:Int):=of_decide_eq_true hlt
   rw [cmpL,if_pos hne',if_pos (by omega)]; rfl
  ·have:¬ (s.n:Int)<(s'.n:Int):=of_decide_eq_false hge
   rw [cmpL,if_pos hne',if_neg (by omega)]; rfl
 have hl:l.length=l'.length:=by
  have:((s.n:Nat):Int)=((s'.n:Nat):Int):=by simpa using heq
  omega
 have hc:cmpL l l'=cmpAt l l' l.length:=by rw [cmpL,if_neg (by simpa using hl)]
 rw [hc]
 have hw:IntKind.i64.wrap ((s.n:Int)-1)=(s.n:Int)-1:=wrap_i64 (by omega)
 refine⟨fun y V'=>V'=V∧∃ n:Nat,y.1=(n:Int)-1∧n≤l.length∧cmpAt l l' n=cmpAt l l' l.length,fun y=>((y.1:Int)+1).toNat,
  ⟨((s.n:Int)-1,()),by rw [hw]; rfl,rfl,l.length,by rw [hn],Nat.le_refl _,rfl⟩,?_⟩
 rintro⟨(i:Int),u⟩ V' ⟨rfl,n,hi,hle,hcm⟩
 replace hi:i=(n:Int)-1:=hi
 refine⟨fun hge=>?_,fun hlt=>?_⟩
 ·have hge':i≥0:=of_decide_eq_true hge
  obtain⟨m,rfl⟩:∃ m,n=m+1:=⟨n-1,by omega⟩
  have hi:i=(m:Int):=by omega
  subst hi
  have h1:m<l.length:=hle
  have h2:m<l'.length:=by omega
  obtain⟨b1,o1,a1,l1⟩:=h.int h1
  obtain⟨b2,o2,a2,l2⟩:=h'.int h2
  rw [cmp_body,limb_lt h1,limb_lt h2] at hcm
  refine⟨_,a1,by omega,(by omega:(m:Int)<(s.n:Int)),l[m].1,l1,_,a2,by omega,(by omega:(m:Int)<(s'.n:Int)),l'[m].1,l2,fun hlt=>⟨rfl,?_⟩,fun hge1=>?_⟩
  ·rw [if_pos (of_decide_eq_true hlt)] at hcm
   rw [← hcm]; rfl
  rw [if_neg (of_decide_eq_false hge1)] at hcm
  refine⟨_,a1,by omega,(by omega:(m:Int)<(s.n:Int)),l[m].1,l1,_,a2,by omega,(by omega:(m:Int)<(s'.n:Int)),l'[m].1,l2,fun hgt=>⟨rfl,?_⟩,fun hle1=>?_⟩
  ·rw [if_pos (of_decide_eq_true hgt)] at hcm
   rw [← hcm]; rfl
  rw [if_neg (of_decide_eq_false hle1)] at hcm
  refine⟨_,rfl,((m:Int)-1,()),by rw [show IntKind.i64.wrap ((m:Int)-1)=(m:Int)-1 from wrap_i64 (by omega)]; rfl,⟨rfl,m,rfl,by omega,hcm⟩,?_⟩
  show((m:Int)-1+1).toNat<((m:Int)+1).toNat
  omega
 ·have:¬ i≥0:=of_decide_eq_false hlt
  have hz:n=0:=by omega
  subst hz
  refine⟨rfl,?_⟩
  rw [← hcm]; rfl
end Go.Proofs.YtagkjnpggkmehaaGreatDoor
