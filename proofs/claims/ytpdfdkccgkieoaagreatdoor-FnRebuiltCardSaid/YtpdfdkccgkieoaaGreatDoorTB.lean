/-
  What each function of the seat comes to, as a tree; each tree is checked against the code.
-/
import Derived.Test.YtpdfdkccgkieoaaGreatDoorTA
namespace Go.Proofs.YtpdfdkccgkieoaaGreatDoor
open Sx
set_option maxRecDepth 100000
noncomputable section
def tS_IntAdd (x0:qy1) (x1:qy1):T :=
 .qc6 115 [qv1 x0] fun y1 =>
 .bn y1 (.ret [qv1 ((false),nilS,())]) <|
 .qc6 115 [qv1 x1] fun y2 =>
 .bn y2 (.ret [qv1 ((false),nilS,())]) <|
 .qc31 109 [qv1 x0,qv1 x1] fun y3 =>
 .ret [qv1 y3]
theorem fS_IntAdd x0 x1:qft qa0 152 [qv1 x0,qv1 x1] (tS_IntAdd x0 x1) :=fitK (by kernel_rfl)
def tS_l02Cap (x0:SlV):T :=
 .qc22 114 [Sc.val .l x0] fun y1 =>
 .br (decide ((↑y1.n:Int) > (50:Int))) (
  .ret [.slice none 0 0]) <|
 .ret [Sc.val .l y1]
theorem fS_l02Cap x0:qft qa0 153 [Sc.val .l x0] (tS_l02Cap x0) :=fitK (by kernel_rfl)
def tS_DecOk (x0:qy6):T :=
 .qc6 115 [qv1 (x0.1,x0.2.1,())] fun y1 =>
 .br y1 (
  .br (decide ((↑x0.2.1.n:Int)≤(6:Int))) (
   .qc6 195 [.int .i64 x0.2.2.1,.int .i64 0,.int .i64 30] fun y2 =>
   .ret [.bool y2]) <|
 .rF) <|
 .rF
theorem fS_DecOk x0:qft qa0 154 [qv3 x0] (tS_DecOk x0) :=fitK (by kernel_rfl)
def tS_IntSign (x0:qy1):T :=
 .qc4 164 [qv1 x0,qv1 ((false),nilS,())] fun y1 =>
 .ret [.int .i64 y1]
theorem fS_IntSign x0:qft qa0 155 [qv1 x0] (tS_IntSign x0) :=fitK (by kernel_rfl)
def aS_NatOk:An:=⟨[(2,[.s 7],[.o (.o (.i .i64))])],[],[]⟩
def tS_NatOk (x0:SlV):T :=
 .lp [.o (.o (.i .i64))] [.v (.int .i64 0)] fun y1 =>
 .br (decide (y1.1<(↑x0.n:Int))) (
  .el x0.1 (x0.n) y1.1 fun y2 =>
  .ql23 (y2.add (Int.toNat y1.1*(1:Nat))) fun y3 =>
  .qc6 195 [.int .i64 y3,.int .i64 0,.int .i64 999999999] fun y4 =>
  .bF y4 <|
 .nx 0 [.v (.int .i64 (IntKind.i64.wrap (y1.1+(1:Int))))]) <|
 .br (decide ((↑x0.n:Int)≤(50:Int))) (
  .br ((↑x0.n:Int) == (0:Int)) (
   .rT) <|
 .el x0.1 (x0.n) (IntKind.i64.wrap ((↑x0.n:Int)-(1:Int))) fun y2 =>
  .ql23 (y2.add ((IntKind.i64.wrap ((↑x0.n:Int)-(1:Int))).toNat*(1:Nat))) fun y3 =>
  .ret [.bool (y3 != (0:Int))]) <|
 .rF
theorem fS_NatOk x0:qft aS_NatOk 156 [Sc.val .l x0] (tS_NatOk x0) :=fitK (by kernel_rfl)
def aS_l02Cmp:An:=⟨[(6,[.s 5],[.o (.o (.i .i64))])],[],[]⟩
def tS_l02Cmp (x0:SlV) (x1:SlV):T :=
 .br ((↑x0.n:Int) != (↑x1.n:Int)) (
  .br (decide ((↑x0.n:Int)<(↑x1.n:Int))) (
   .rM) <|
 .ret [.int .i64 1]) <|
 .lp [.o (.o (.i .i64))] [.v (.int .i64 (IntKind.i64.wrap ((↑x0.n:Int)-(1:Int))))] fun y1 =>
 .br (decide (y1.1≥(0:Int))) (
  .rg <|
 .el x0.1 (x0.n) y1.1 fun y2 =>
  .ql45 (y2.add (Int.toNat y1.1*(1:Nat))) fun y3 =>
  .el x1.1 (x1.n) y1.1 fun y4 =>
  .ql45 (y4.add (Int.toNat y1.1*(1:Nat))) fun y5 =>
  .br (decide (y3<y5)) (
   .rM) <|
 .rg <|
 .el x0.1 (x0.n) y1.1 fun y6 =>
  .ql45 (y6.add (Int.toNat y1.1*(1:Nat))) fun y7 =>
  .el x1.1 (x1.n) y1.1 fun y8 =>
  .ql45 (y8.add (Int.toNat y1.1*(1:Nat))) fun y9 =>
  .br (decide (y7 > y9)) (
   .ret [.int .i64 1]) <|
 .nx 0 [.v (.int .i64 (IntKind.i64.wrap (y1.1-(1:Int))))]) <|
 .ret [.int .i64 0]
theorem fS_l02Cmp x0 x1:qft aS_l02Cmp 157 [Sc.val .l x0,Sc.val .l x1] (tS_l02Cmp x0 x1) :=fitK (by kernel_rfl)
def aS_NatGcd:An:=⟨[(5,[.s 5,.s 6],[.o (.o (.l)),.o (.o (.l))])],[],[]⟩
def tS_NatGcd (x0:SlV) (x1:SlV):T :=
 .qc6 156 [Sc.val .l x0] fun y1 =>
 .bn y1 (.ret [.slice none 0 0]) <|
 .qc6 156 [Sc.val .l x1] fun y2 =>
 .bn y2 (.ret [.slice none 0 0]) <|
 .rd ({ a:=x0.1,n:=x0.n,c:=x0.c:SlV }) ((1:Nat)) fun y3 =>
 .rq (one y3=true∧((0:Nat)+x0.n)*(8:Nat)≤(140737488355328:Nat)∧(0:Nat)+x0.n≤(9223372036854775807:Nat)) <|
 .rd ({ a:=x1.1,n:=x1.n,c:=x1.c:SlV }) ((1:Nat)) fun y4 =>
 .rq (one y4=true∧((0:Nat)+x1.n)*(8:Nat)≤(140737488355328:Nat)∧(0:Nat)+x1.n≤(9223372036854775807:Nat)) <|
 .fz ((0:Nat)+x0.n) ([]++y3) 3 fun b5 c5 =>
 .fz ((0:Nat)+x1.n) ([]++y4) 3 fun b6 c6 =>
 .lp [.o (.o (.l)),.o (.o (.l))] [.v (.slice (some { block:=b5,off:=(0:Nat):Addr }) ((0:Nat)+x0.n) (c5)),.v (.slice (some { block:=b6,off:=(0:Nat):Addr }) ((0:Nat)+x1.n) (c6))] fun y7 =>
 .br (decide ((↑y7.2.1.n:Int) > (0:Int))) (
  .qc8 162 [Sc.val .l y7.1,Sc.val .l y7.2.1] fun y8 =>
  .nx 0 [.v (Sc.val .l y7.2.1),.v (Sc.val .l y8.2.1)]) <|
 .ret [Sc.val .l y7.1]
theorem fS_NatGcd x0 x1:qft aS_NatGcd 158 [Sc.val .l x0,Sc.val .l x1] (tS_NatGcd x0 x1) :=fitK (by kernel_rfl)
def aS_l02Add:An:=⟨[(4,[.s 5,.s 6,.s 7],[.a 3,.o (.o (.i .i64)),.o (.o (.i .i64))])],[],[]⟩
def tS_l02Add (x0:SlV) (x1:SlV):T :=
 .lp [.a 3,.o (.o (.i .i64)),.o (.o (.i .i64))] [.a 3 ((0:Nat)) [],.v (.int .i64 0),.v (.int .i64 0)] fun y1 =>
 .br (decide (y1.2.2.1<(↑x0.n:Int))) (
  .br (decide (y1.2.2.1<(↑x0.n:Int))) (
   .el x0.1 (x0.n) y1.2.2.1 fun y2 =>
   .ql23 (y2.add (Int.toNat y1.2.2.1*(1:Nat))) fun y3 =>
   .br (decide (y1.2.2.1<(↑x1.n:Int))) (
    .el x1.1 (x1.n) y1.2.2.1 fun y4 =>
    .ql23 (y4.add (Int.toNat y1.2.2.1*(1:Nat))) fun y5 =>
    .rq ((1000000000:Int)≠(0:Int)) <|
 .rq ([Value.int IntKind.i64 ((IntKind.i64.wrap (IntKind.i64.wrap (y1.2.1+y3)+y5)).tmod (1000000000:Int))].length=(1:Nat)*(1:Nat)) <|
 .rq (one [Value.int IntKind.i64 ((IntKind.i64.wrap (IntKind.i64.wrap (y1.2.1+y3)+y5)).tmod (1000000000:Int))]=true∧(y1.1.1+(1:Nat))*(8:Nat)≤(140737488355328:Nat)∧y1.1.1+(1:Nat)≤(9223372036854775807:Nat)) <|
 .rq ((1000000000:Int)≠(0:Int)) <|
 .nx 0 [.a 3 (y1.1.1+(1:Nat)) (y1.1.2++[Value.int IntKind.i64 ((IntKind.i64.wrap (IntKind.i64.wrap (y1.2.1+y3)+y5)).tmod (1000000000:Int))]),.v (.int .i64 (IntKind.i64.wrap ((IntKind.i64.wrap (IntKind.i64.wrap (y1.2.1+y3)+y5)).tdiv (1000000000:Int)))),.v (.int .i64 (IntKind.i64.wrap (y1.2.2.1+(1:Int))))]) <|
 .rq ((1000000000:Int)≠(0:Int)) <|
 .rq ([Value.int IntKind.i64 ((IntKind.i64.wrap (y1.2.1+y3)).tmod (1000000000:Int))].length=(1:Nat)*(1:Nat)) <|
 .rq (one [Value.int IntKind.i64 ((IntKind.i64.wrap (y1.2.1+y3)).tmod (1000000000:Int))]=true∧(y1.1.1+(1:Nat))*(8:Nat)≤(140737488355328:Nat)∧y1.1.1+(1:Nat)≤(9223372036854775807:Nat)) <|
 .rq ((1000000000:Int)≠(0:Int)) <|
 .nx 0 [.a 3 (y1.1.1+(1:Nat)) (y1.1.2++[Value.int IntKind.i64 ((IntKind.i64.wrap (y1.2.1+y3)).tmod (1000000000:Int))]),.v (.int .i64 (IntKind.i64.wrap ((IntKind.i64.wrap (y1.2.1+y3)).tdiv (1000000000:Int)))),.v (.int .i64 (IntKind.i64.wrap (y1.2.2.1+(1:Int))))]) <|
 .br (decide (y1.2.2.1<(↑x1.n:Int))) (
   .el x1.1 (x1.n) y1.2.2.1 fun y2 =>
   .ql23 (y2.add (Int.toNat y1.2.2.1*(1:Nat))) fun y3 =>
   .rq ((1000000000:Int)≠(0:Int)) <|
 .rq ([Value.int IntKind.i64 ((IntKind.i64.wrap (y1.2.1+y3)).tmod (1000000000:Int))].length=(1:Nat)*(1:Nat)) <|
 .rq (one [Value.int IntKind.i64 ((IntKind.i64.wrap (y1.2.1+y3)).tmod (1000000000:Int))]=true∧(y1.1.1+(1:Nat))*(8:Nat)≤(140737488355328:Nat)∧y1.1.1+(1:Nat)≤(9223372036854775807:Nat)) <|
 .rq ((1000000000:Int)≠(0:Int)) <|
 .nx 0 [.a 3 (y1.1.1+(1:Nat)) (y1.1.2++[Value.int IntKind.i64 ((IntKind.i64.wrap (y1.2.1+y3)).tmod (1000000000:Int))]),.v (.int .i64 (IntKind.i64.wrap ((IntKind.i64.wrap (y1.2.1+y3)).tdiv (1000000000:Int)))),.v (.int .i64 (IntKind.i64.wrap (y1.2.2.1+(1:Int))))]) <|
 .rq ((1000000000:Int)≠(0:Int)) <|
 .rq ([Value.int IntKind.i64 (Int.tmod y1.2.1 (1000000000:Int))].length=(1:Nat)*(1:Nat)) <|
 .rq (one [Value.int IntKind.i64 (Int.tmod y1.2.1 (1000000000:Int))]=true∧(y1.1.1+(1:Nat))*(8:Nat)≤(140737488355328:Nat)∧y1.1.1+(1:Nat)≤(9223372036854775807:Nat)) <|
 .rq ((1000000000:Int)≠(0:Int)) <|
 .nx 0 [.a 3 (y1.1.1+(1:Nat)) (y1.1.2++[Value.int IntKind.i64 (Int.tmod y1.2.1 (1000000000:Int))]),.v (.int .i64 (IntKind.i64.wrap (Int.tdiv y1.2.1 (1000000000:Int)))),.v (.int .i64 (IntKind.i64.wrap (y1.2.2.1+(1:Int))))]) <|
 .br (decide (y1.2.2.1<(↑x1.n:Int))) (
  .br (decide (y1.2.2.1<(↑x0.n:Int))) (
   .el x0.1 (x0.n) y1.2.2.1 fun y2 =>
   .ql23 (y2.add (Int.toNat y1.2.2.1*(1:Nat))) fun y3 =>
   .br (decide (y1.2.2.1<(↑x1.n:Int))) (
    .el x1.1 (x1.n) y1.2.2.1 fun y4 =>
    .ql23 (y4.add (Int.toNat y1.2.2.1*(1:Nat))) fun y5 =>
    .rq ((1000000000:Int)≠(0:Int)) <|
 .rq ([Value.int IntKind.i64 ((IntKind.i64.wrap (IntKind.i64.wrap (y1.2.1+y3)+y5)).tmod (1000000000:Int))].length=(1:Nat)*(1:Nat)) <|
 .rq (one [Value.int IntKind.i64 ((IntKind.i64.wrap (IntKind.i64.wrap (y1.2.1+y3)+y5)).tmod (1000000000:Int))]=true∧(y1.1.1+(1:Nat))*(8:Nat)≤(140737488355328:Nat)∧y1.1.1+(1:Nat)≤(9223372036854775807:Nat)) <|
 .rq ((1000000000:Int)≠(0:Int)) <|
 .nx 0 [.a 3 (y1.1.1+(1:Nat)) (y1.1.2++[Value.int IntKind.i64 ((IntKind.i64.wrap (IntKind.i64.wrap (y1.2.1+y3)+y5)).tmod (1000000000:Int))]),.v (.int .i64 (IntKind.i64.wrap ((IntKind.i64.wrap (IntKind.i64.wrap (y1.2.1+y3)+y5)).tdiv (1000000000:Int)))),.v (.int .i64 (IntKind.i64.wrap (y1.2.2.1+(1:Int))))]) <|
 .rq ((1000000000:Int)≠(0:Int)) <|
 .rq ([Value.int IntKind.i64 ((IntKind.i64.wrap (y1.2.1+y3)).tmod (1000000000:Int))].length=(1:Nat)*(1:Nat)) <|
 .rq (one [Value.int IntKind.i64 ((IntKind.i64.wrap (y1.2.1+y3)).tmod (1000000000:Int))]=true∧(y1.1.1+(1:Nat))*(8:Nat)≤(140737488355328:Nat)∧y1.1.1+(1:Nat)≤(9223372036854775807:Nat)) <|
 .rq ((1000000000:Int)≠(0:Int)) <|
 .nx 0 [.a 3 (y1.1.1+(1:Nat)) (y1.1.2++[Value.int IntKind.i64 ((IntKind.i64.wrap (y1.2.1+y3)).tmod (1000000000:Int))]),.v (.int .i64 (IntKind.i64.wrap ((IntKind.i64.wrap (y1.2.1+y3)).tdiv (1000000000:Int)))),.v (.int .i64 (IntKind.i64.wrap (y1.2.2.1+(1:Int))))]) <|
 .br (decide (y1.2.2.1<(↑x1.n:Int))) (
   .el x1.1 (x1.n) y1.2.2.1 fun y2 =>
   .ql23 (y2.add (Int.toNat y1.2.2.1*(1:Nat))) fun y3 =>
   .rq ((1000000000:Int)≠(0:Int)) <|
 .rq ([Value.int IntKind.i64 ((IntKind.i64.wrap (y1.2.1+y3)).tmod (1000000000:Int))].length=(1:Nat)*(1:Nat)) <|
 .rq (one [Value.int IntKind.i64 ((IntKind.i64.wrap (y1.2.1+y3)).tmod (1000000000:Int))]=true∧(y1.1.1+(1:Nat))*(8:Nat)≤(140737488355328:Nat)∧y1.1.1+(1:Nat)≤(9223372036854775807:Nat)) <|
 .rq ((1000000000:Int)≠(0:Int)) <|
 .nx 0 [.a 3 (y1.1.1+(1:Nat)) (y1.1.2++[Value.int IntKind.i64 ((IntKind.i64.wrap (y1.2.1+y3)).tmod (1000000000:Int))]),.v (.int .i64 (IntKind.i64.wrap ((IntKind.i64.wrap (y1.2.1+y3)).tdiv (1000000000:Int)))),.v (.int .i64 (IntKind.i64.wrap (y1.2.2.1+(1:Int))))]) <|
 .rq ((1000000000:Int)≠(0:Int)) <|
 .rq ([Value.int IntKind.i64 (Int.tmod y1.2.1 (1000000000:Int))].length=(1:Nat)*(1:Nat)) <|
 .rq (one [Value.int IntKind.i64 (Int.tmod y1.2.1 (1000000000:Int))]=true∧(y1.1.1+(1:Nat))*(8:Nat)≤(140737488355328:Nat)∧y1.1.1+(1:Nat)≤(9223372036854775807:Nat)) <|
 .rq ((1000000000:Int)≠(0:Int)) <|
 .nx 0 [.a 3 (y1.1.1+(1:Nat)) (y1.1.2++[Value.int IntKind.i64 (Int.tmod y1.2.1 (1000000000:Int))]),.v (.int .i64 (IntKind.i64.wrap (Int.tdiv y1.2.1 (1000000000:Int)))),.v (.int .i64 (IntKind.i64.wrap (y1.2.2.1+(1:Int))))]) <|
 .br (decide (y1.2.1 > (0:Int))) (
  .br (decide (y1.2.2.1<(↑x0.n:Int))) (
   .el x0.1 (x0.n) y1.2.2.1 fun y2 =>
   .ql23 (y2.add (Int.toNat y1.2.2.1*(1:Nat))) fun y3 =>
   .br (decide (y1.2.2.1<(↑x1.n:Int))) (
    .el x1.1 (x1.n) y1.2.2.1 fun y4 =>
    .ql23 (y4.add (Int.toNat y1.2.2.1*(1:Nat))) fun y5 =>
    .rq ((1000000000:Int)≠(0:Int)) <|
 .rq ([Value.int IntKind.i64 ((IntKind.i64.wrap (IntKind.i64.wrap (y1.2.1+y3)+y5)).tmod (1000000000:Int))].length=(1:Nat)*(1:Nat)) <|
 .rq (one [Value.int IntKind.i64 ((IntKind.i64.wrap (IntKind.i64.wrap (y1.2.1+y3)+y5)).tmod (1000000000:Int))]=true∧(y1.1.1+(1:Nat))*(8:Nat)≤(140737488355328:Nat)∧y1.1.1+(1:Nat)≤(9223372036854775807:Nat)) <|
 .rq ((1000000000:Int)≠(0:Int)) <|
 .nx 0 [.a 3 (y1.1.1+(1:Nat)) (y1.1.2++[Value.int IntKind.i64 ((IntKind.i64.wrap (IntKind.i64.wrap (y1.2.1+y3)+y5)).tmod (1000000000:Int))]),.v (.int .i64 (IntKind.i64.wrap ((IntKind.i64.wrap (IntKind.i64.wrap (y1.2.1+y3)+y5)).tdiv (1000000000:Int)))),.v (.int .i64 (IntKind.i64.wrap (y1.2.2.1+(1:Int))))]) <|
 .rq ((1000000000:Int)≠(0:Int)) <|
 .rq ([Value.int IntKind.i64 ((IntKind.i64.wrap (y1.2.1+y3)).tmod (1000000000:Int))].length=(1:Nat)*(1:Nat)) <|
 .rq (one [Value.int IntKind.i64 ((IntKind.i64.wrap (y1.2.1+y3)).tmod (1000000000:Int))]=true∧(y1.1.1+(1:Nat))*(8:Nat)≤(140737488355328:Nat)∧y1.1.1+(1:Nat)≤(9223372036854775807:Nat)) <|
 .rq ((1000000000:Int)≠(0:Int)) <|
 .nx 0 [.a 3 (y1.1.1+(1:Nat)) (y1.1.2++[Value.int IntKind.i64 ((IntKind.i64.wrap (y1.2.1+y3)).tmod (1000000000:Int))]),.v (.int .i64 (IntKind.i64.wrap ((IntKind.i64.wrap (y1.2.1+y3)).tdiv (1000000000:Int)))),.v (.int .i64 (IntKind.i64.wrap (y1.2.2.1+(1:Int))))]) <|
 .br (decide (y1.2.2.1<(↑x1.n:Int))) (
   .el x1.1 (x1.n) y1.2.2.1 fun y2 =>
   .ql23 (y2.add (Int.toNat y1.2.2.1*(1:Nat))) fun y3 =>
   .rq ((1000000000:Int)≠(0:Int)) <|
 .rq ([Value.int IntKind.i64 ((IntKind.i64.wrap (y1.2.1+y3)).tmod (1000000000:Int))].length=(1:Nat)*(1:Nat)) <|
 .rq (one [Value.int IntKind.i64 ((IntKind.i64.wrap (y1.2.1+y3)).tmod (1000000000:Int))]=true∧(y1.1.1+(1:Nat))*(8:Nat)≤(140737488355328:Nat)∧y1.1.1+(1:Nat)≤(9223372036854775807:Nat)) <|
 .rq ((1000000000:Int)≠(0:Int)) <|
 .nx 0 [.a 3 (y1.1.1+(1:Nat)) (y1.1.2++[Value.int IntKind.i64 ((IntKind.i64.wrap (y1.2.1+y3)).tmod (1000000000:Int))]),.v (.int .i64 (IntKind.i64.wrap ((IntKind.i64.wrap (y1.2.1+y3)).tdiv (1000000000:Int)))),.v (.int .i64 (IntKind.i64.wrap (y1.2.2.1+(1:Int))))]) <|
 .rq ((1000000000:Int)≠(0:Int)) <|
 .rq ([Value.int IntKind.i64 (Int.tmod y1.2.1 (1000000000:Int))].length=(1:Nat)*(1:Nat)) <|
 .rq (one [Value.int IntKind.i64 (Int.tmod y1.2.1 (1000000000:Int))]=true∧(y1.1.1+(1:Nat))*(8:Nat)≤(140737488355328:Nat)∧y1.1.1+(1:Nat)≤(9223372036854775807:Nat)) <|
 .rq ((1000000000:Int)≠(0:Int)) <|
 .nx 0 [.a 3 (y1.1.1+(1:Nat)) (y1.1.2++[Value.int IntKind.i64 (Int.tmod y1.2.1 (1000000000:Int))]),.v (.int .i64 (IntKind.i64.wrap (Int.tdiv y1.2.1 (1000000000:Int)))),.v (.int .i64 (IntKind.i64.wrap (y1.2.2.1+(1:Int))))]) <|
 .fz y1.1.1 y1.1.2 3 fun b2 c2 =>
 .ret [.slice (some { block:=b2,off:=(0:Nat):Addr }) y1.1.1 (c2)]
theorem fS_l02Add x0 x1:qft aS_l02Add 159 [Sc.val .l x0,Sc.val .l x1] (tS_l02Add x0 x1) :=fitK (by kernel_rfl)
def aS_l02Sub:An:=⟨[(4,[.s 5,.s 6,.s 12],[.a 3,.o (.o (.i .i64)),.o (.o (.i .i64))])],[],[]⟩
def tS_l02Sub (x0:SlV) (x1:SlV):T :=
 .lp [.a 3,.o (.o (.i .i64)),.o (.o (.i .i64))] [.a 3 ((0:Nat)) [],.v (.int .i64 0),.v (.int .i64 0)] fun y1 =>
 .br (decide (y1.2.2.1<(↑x0.n:Int))) (
  .el x0.1 (x0.n) y1.2.2.1 fun y2 =>
  .ql23 (y2.add (Int.toNat y1.2.2.1*(1:Nat))) fun y3 =>
  .br (decide (y1.2.2.1<(↑x1.n:Int))) (
   .el x1.1 (x1.n) y1.2.2.1 fun y4 =>
   .ql23 (y4.add (Int.toNat y1.2.2.1*(1:Nat))) fun y5 =>
   .br (decide (IntKind.i64.wrap (IntKind.i64.wrap (y3-y1.2.1)-y5)<(0:Int))) (
    .rq ([Value.int IntKind.i64 (IntKind.i64.wrap (IntKind.i64.wrap (IntKind.i64.wrap (y3-y1.2.1)-y5)+(1000000000:Int)))].length=(1:Nat)*(1:Nat)) <|
 .rq (one [Value.int IntKind.i64 (IntKind.i64.wrap (IntKind.i64.wrap (IntKind.i64.wrap (y3-y1.2.1)-y5)+(1000000000:Int)))]=true∧(y1.1.1+(1:Nat))*(8:Nat)≤(140737488355328:Nat)∧y1.1.1+(1:Nat)≤(9223372036854775807:Nat)) <|
 .nx 0 [.a 3 (y1.1.1+(1:Nat)) (y1.1.2++[Value.int IntKind.i64 (IntKind.i64.wrap (IntKind.i64.wrap (IntKind.i64.wrap (y3-y1.2.1)-y5)+(1000000000:Int)))]),.v (.int .i64 1),.v (.int .i64 (IntKind.i64.wrap (y1.2.2.1+(1:Int))))]) <|
 .rq ([Value.int IntKind.i64 (IntKind.i64.wrap (IntKind.i64.wrap (y3-y1.2.1)-y5))].length=(1:Nat)*(1:Nat)) <|
 .rq (one [Value.int IntKind.i64 (IntKind.i64.wrap (IntKind.i64.wrap (y3-y1.2.1)-y5))]=true∧(y1.1.1+(1:Nat))*(8:Nat)≤(140737488355328:Nat)∧y1.1.1+(1:Nat)≤(9223372036854775807:Nat)) <|
 .nx 0 [.a 3 (y1.1.1+(1:Nat)) (y1.1.2++[Value.int IntKind.i64 (IntKind.i64.wrap (IntKind.i64.wrap (y3-y1.2.1)-y5))]),.v (.int .i64 0),.v (.int .i64 (IntKind.i64.wrap (y1.2.2.1+(1:Int))))]) <|
 .br (decide (IntKind.i64.wrap (y3-y1.2.1)<(0:Int))) (
   .rq ([Value.int IntKind.i64 (IntKind.i64.wrap (IntKind.i64.wrap (y3-y1.2.1)+(1000000000:Int)))].length=(1:Nat)*(1:Nat)) <|
 .rq (one [Value.int IntKind.i64 (IntKind.i64.wrap (IntKind.i64.wrap (y3-y1.2.1)+(1000000000:Int)))]=true∧(y1.1.1+(1:Nat))*(8:Nat)≤(140737488355328:Nat)∧y1.1.1+(1:Nat)≤(9223372036854775807:Nat)) <|
 .nx 0 [.a 3 (y1.1.1+(1:Nat)) (y1.1.2++[Value.int IntKind.i64 (IntKind.i64.wrap (IntKind.i64.wrap (y3-y1.2.1)+(1000000000:Int)))]),.v (.int .i64 1),.v (.int .i64 (IntKind.i64.wrap (y1.2.2.1+(1:Int))))]) <|
 .rq ([Value.int IntKind.i64 (IntKind.i64.wrap (y3-y1.2.1))].length=(1:Nat)*(1:Nat)) <|
 .rq (one [Value.int IntKind.i64 (IntKind.i64.wrap (y3-y1.2.1))]=true∧(y1.1.1+(1:Nat))*(8:Nat)≤(140737488355328:Nat)∧y1.1.1+(1:Nat)≤(9223372036854775807:Nat)) <|
 .nx 0 [.a 3 (y1.1.1+(1:Nat)) (y1.1.2++[Value.int IntKind.i64 (IntKind.i64.wrap (y3-y1.2.1))]),.v (.int .i64 0),.v (.int .i64 (IntKind.i64.wrap (y1.2.2.1+(1:Int))))]) <|
 .fz y1.1.1 y1.1.2 3 fun b2 c2 =>
 .qc22 114 [.slice (some { block:=b2,off:=(0:Nat):Addr }) y1.1.1 (c2)] fun y3 =>
 .ret [Sc.val .l y3]
theorem fS_l02Sub x0 x1:qft aS_l02Sub 160 [Sc.val .l x0,Sc.val .l x1] (tS_l02Sub x0 x1) :=fitK (by kernel_rfl)
def aS_l05Gcd:An:=⟨[(3,[.s 5,.s 6],[.o (.o (.l)),.o (.o (.l))])],[],[]⟩
def tS_l05Gcd (x0:SlV) (x1:SlV):T :=
 .lp [.o (.o (.l)),.o (.o (.l))] [.v (Sc.val .l x0),.v (Sc.val .l x1)] fun y1 =>
 .br (decide ((↑y1.2.1.n:Int) > (0:Int))) (
  .qc8 162 [Sc.val .l y1.1,Sc.val .l y1.2.1] fun y2 =>
  .nx 0 [.v (Sc.val .l y1.2.1),.v (Sc.val .l y2.2.1)]) <|
 .ret [Sc.val .l y1.1]
theorem fS_l05Gcd x0 x1:qft aS_l05Gcd 161 [Sc.val .l x0,Sc.val .l x1] (tS_l05Gcd x0 x1) :=fitK (by kernel_rfl)
def aS_l03Div:An:=⟨[(7,[.s 8,.s 9,.s 10],[.a 3,.o (.o (.l)),.o (.o (.i .i64))])],[],[]⟩
def tS_l03Div (x0:SlV) (x1:SlV):T :=
 .br ((↑x1.n:Int) == (1:Int)) (
  .el x1.1 (x1.n) ((0:Int)) fun y1 =>
  .ql23 (y1.add (Int.toNat (0:Int)*(1:Nat))) fun y2 =>
  .qc56 196 [Sc.val .l x0,.int .i64 y2] fun y3 =>
  .qc22 69 [.int .i64 y3.2.1] fun y4 =>
  .ret [Sc.val .l y3.1,Sc.val .l y4]) <|
 .rq ((0:Int)≤(↑x0.n:Int)∧(↑x0.n:Int)≤(↑x0.n:Int)∧(↑(8:Nat):Int)*(↑x0.n:Int)≤(281474976710656:Int)∧(↑x0.n:Int)≤(9223372036854775807:Int)) <|
 .fz ((0:Nat)) [] 3 fun b1 c1 =>
 .lp [.a 3,.o (.o (.l)),.o (.o (.i .i64))] [.a 3 ((↑x0.n:Int).toNat) ((madeCells { toList:=[Value.int IntKind.i64 (0:Int)]:Array Value } ((↑x0.n:Int).toNat*(1:Nat))).toList),.v (.slice (some { block:=b1,off:=(0:Nat):Addr }) ((0:Nat)) (c1)),.v (.int .i64 (IntKind.i64.wrap ((↑x0.n:Int)-(1:Int))))] fun y2 =>
 .br (decide (y2.2.2.1≥(0:Int))) (
  .el x0.1 (x0.n) y2.2.2.1 fun y3 =>
  .ql23 (y3.add (Int.toNat y2.2.2.1*(1:Nat))) fun y4 =>
  .rd ({ a:=y2.2.1.1,n:=y2.2.1.n,c:=y2.2.1.c:SlV }) ((1:Nat)) fun y5 =>
  .rq (one y5=true∧((1:Nat)+y2.2.1.n)*(8:Nat)≤(140737488355328:Nat)∧(1:Nat)+y2.2.1.n≤(9223372036854775807:Nat)) <|
 .fz ((1:Nat)+y2.2.1.n) ([Value.int IntKind.i64 y4]++y5) 3 fun b6 c6 =>
  .qc22 114 [.slice (some { block:=b6,off:=(0:Nat):Addr }) ((1:Nat)+y2.2.1.n) (c6)] fun y7 =>
  .qc4 157 [Sc.val .l y7,Sc.val .l x1] fun y8 =>
  .br (decide (y8<(0:Int))) (
   .nx 0 [.a 3 y2.1.1 y2.1.2,.v (Sc.val .l y7),.v (.int .i64 (IntKind.i64.wrap (y2.2.2.1-(1:Int))))]) <|
 .qc4 197 [Sc.val .l y7,Sc.val .l x1] fun y9 =>
  .rq ((0:Int)≤y2.2.2.1∧y2.2.2.1<(↑y2.1.1:Int)) <|
 .rq (Int.toNat y2.2.2.1*(1:Nat)+[Value.int IntKind.i64 y9].length≤y2.1.2.length) <|
 .qc22 69 [.int .i64 y9] fun y10 =>
  .qc22 108 [Sc.val .l x1,Sc.val .l y10] fun y11 =>
  .qc22 160 [Sc.val .l y7,Sc.val .l y11] fun y12 =>
  .nx 0 [.a 3 y2.1.1 (setl y2.1.2 (Int.toNat y2.2.2.1*(1:Nat)) [Value.int IntKind.i64 y9]),.v (Sc.val .l y12),.v (.int .i64 (IntKind.i64.wrap (y2.2.2.1-(1:Int))))]) <|
 .fz y2.1.1 y2.1.2 3 fun b3 c3 =>
 .qc22 114 [.slice (some { block:=b3,off:=(0:Nat):Addr }) y2.1.1 (c3)] fun y4 =>
 .ret [Sc.val .l y4,Sc.val .l y2.2.1]
theorem fS_l03Div x0 x1:qft aS_l03Div 162 [Sc.val .l x0,Sc.val .l x1] (tS_l03Div x0 x1) :=fitK (by kernel_rfl)
def tS_l08Table :T :=
 .fz ((20:Nat)) [.string ({ data:={ toList:=[(65:UInt8),(85:UInt8),(68:UInt8)]:Array UInt8 }:ByteArray }),.string ({ data:={ toList:=[(48:UInt8),(51:UInt8),(54:UInt8)]:Array UInt8 }:ByteArray }),.int .i64 2,.int .i64 5,.string ({ data:={ toList:=[(66:UInt8),(72:UInt8),(68:UInt8)]:Array UInt8 }:ByteArray }),.string ({ data:={ toList:=[(48:UInt8),(52:UInt8),(56:UInt8)]:Array UInt8 }:ByteArray }),.int .i64 3,.int .i64 5,.string ({ data:={ toList:=[(67:UInt8),(65:UInt8),(68:UInt8)]:Array UInt8 }:ByteArray }),.string ({ data:={ toList:=[(49:UInt8),(50:UInt8),(52:UInt8)]:Array UInt8 }:ByteArray }),.int .i64 2,.int .i64 5,.string ({ data:={ toList:=[(67:UInt8),(72:UInt8),(70:UInt8)]:Array UInt8 }:ByteArray }),.string ({ data:={ toList:=[(55:UInt8),(53:UInt8),(54:UInt8)]:Array UInt8 }:ByteArray }),.int .i64 2,.int .i64 5,.string ({ data:={ toList:=[(67:UInt8),(76:UInt8),(70:UInt8)]:Array UInt8 }:ByteArray }),.string ({ data:={ toList:=[(57:UInt8),(57:UInt8),(48:UInt8)]:Array UInt8 }:ByteArray }),.int .i64 4,.int .i64 1,.string ({ data:={ toList:=[(67:UInt8),(90:UInt8),(75:UInt8)]:Array UInt8 }:ByteArray }),.string ({ data:={ toList:=[(50:UInt8),(48:UInt8),(51:UInt8)]:Array UInt8 }:ByteArray }),.int .i64 2,.int .i64 100,.string ({ data:={ toList:=[(68:UInt8),(75:UInt8),(75:UInt8)]:Array UInt8 }:ByteArray }),.string ({ data:={ toList:=[(50:UInt8),(48:UInt8),(56:UInt8)]:Array UInt8 }:ByteArray }),.int .i64 2,.int .i64 50,.string ({ data:={ toList:=[(69:UInt8),(85:UInt8),(82:UInt8)]:Array UInt8 }:ByteArray }),.string ({ data:={ toList:=[(57:UInt8),(55:UInt8),(56:UInt8)]:Array UInt8 }:ByteArray }),.int .i64 2,.int .i64 1,.string ({ data:={ toList:=[(71:UInt8),(66:UInt8),(80:UInt8)]:Array UInt8 }:ByteArray }),.string ({ data:={ toList:=[(56:UInt8),(50:UInt8),(54:UInt8)]:Array UInt8 }:ByteArray }),.int .i64 2,.int .i64 1,.string ({ data:={ toList:=[(72:UInt8),(85:UInt8),(70:UInt8)]:Array UInt8 }:ByteArray }),.string ({ data:={ toList:=[(51:UInt8),(52:UInt8),(56:UInt8)]:Array UInt8 }:ByteArray }),.int .i64 2,.int .i64 500,.string ({ data:={ toList:=[(73:UInt8),(83:UInt8),(75:UInt8)]:Array UInt8 }:ByteArray }),.string ({ data:={ toList:=[(51:UInt8),(53:UInt8),(50:UInt8)]:Array UInt8 }:ByteArray }),.int .i64 0,.int .i64 1,.string ({ data:={ toList:=[(74:UInt8),(80:UInt8),(89:UInt8)]:Array UInt8 }:ByteArray }),.string ({ data:={ toList:=[(51:UInt8),(57:UInt8),(50:UInt8)]:Array UInt8 }:ByteArray }),.int .i64 0,.int .i64 1,.string ({ data:={ toList:=[(75:UInt8),(82:UInt8),(87:UInt8)]:Array UInt8 }:ByteArray }),.string ({ data:={ toList:=[(52:UInt8),(49:UInt8),(48:UInt8)]:Array UInt8 }:ByteArray }),.int .i64 0,.int .i64 10,.string ({ data:={ toList:=[(75:UInt8),(87:UInt8),(68:UInt8)]:Array UInt8 }:ByteArray }),.string ({ data:={ toList:=[(52:UInt8),(49:UInt8),(52:UInt8)]:Array UInt8 }:ByteArray }),.int .i64 3,.int .i64 5,.string ({ data:={ toList:=[(78:UInt8),(79:UInt8),(75:UInt8)]:Array UInt8 }:ByteArray }),.string ({ data:={ toList:=[(53:UInt8),(55:UInt8),(56:UInt8)]:Array UInt8 }:ByteArray }),.int .i64 2,.int .i64 100,.string ({ data:={ toList:=[(78:UInt8),(90:UInt8),(68:UInt8)]:Array UInt8 }:ByteArray }),.string ({ data:={ toList:=[(53:UInt8),(53:UInt8),(52:UInt8)]:Array UInt8 }:ByteArray }),.int .i64 2,.int .i64 10,.string ({ data:={ toList:=[(80:UInt8),(76:UInt8),(78:UInt8)]:Array UInt8 }:ByteArray }),.string ({ data:={ toList:=[(57:UInt8),(56:UInt8),(53:UInt8)]:Array UInt8 }:ByteArray }),.int .i64 2,.int .i64 1,.string ({ data:={ toList:=[(83:UInt8),(69:UInt8),(75:UInt8)]:Array UInt8 }:ByteArray }),.string ({ data:={ toList:=[(55:UInt8),(53:UInt8),(50:UInt8)]:Array UInt8 }:ByteArray }),.int .i64 2,.int .i64 100,.string ({ data:={ toList:=[(84:UInt8),(78:UInt8),(68:UInt8)]:Array UInt8 }:ByteArray }),.string ({ data:={ toList:=[(55:UInt8),(56:UInt8),(56:UInt8)]:Array UInt8 }:ByteArray }),.int .i64 3,.int .i64 10,.string ({ data:={ toList:=[(85:UInt8),(83:UInt8),(68:UInt8)]:Array UInt8 }:ByteArray }),.string ({ data:={ toList:=[(56:UInt8),(52:UInt8),(48:UInt8)]:Array UInt8 }:ByteArray }),.int .i64 2,.int .i64 1] 174 fun b1 c1 =>
 .ret [.slice (some { block:=b1,off:=(0:Nat):Addr }) ((20:Nat)) (c1)]
theorem fS_l08Table :qft qa0 163 [] (tS_l08Table ) :=fitK (by kernel_rfl)
def tS_IntCmp (x0:qy1) (x1:qy1):T :=
 .qc6 115 [qv1 x0] fun y1 =>
 .bn y1 (.ret [.int .i64 0]) <|
 .qc6 115 [qv1 x1] fun y2 =>
 .bn y2 (.ret [.int .i64 0]) <|
 .br x0.1 (
  .br (!x1.1) (
   .rM) <|
 .br (!x0.1) (
   .br x1.1 (
    .ret [.int .i64 1]) <|
 .br x0.1 (
    .qc4 157 [Sc.val .l x1.2.1,Sc.val .l x0.2.1] fun y3 =>
    .ret [.int .i64 y3]) <|
 .qc4 157 [Sc.val .l x0.2.1,Sc.val .l x1.2.1] fun y3 =>
   .ret [.int .i64 y3]) <|
 .br x0.1 (
   .qc4 157 [Sc.val .l x1.2.1,Sc.val .l x0.2.1] fun y3 =>
   .ret [.int .i64 y3]) <|
 .qc4 157 [Sc.val .l x0.2.1,Sc.val .l x1.2.1] fun y3 =>
  .ret [.int .i64 y3]) <|
 .br (!x0.1) (
  .br x1.1 (
   .ret [.int .i64 1]) <|
 .br x0.1 (
   .qc4 157 [Sc.val .l x1.2.1,Sc.val .l x0.2.1] fun y3 =>
   .ret [.int .i64 y3]) <|
 .qc4 157 [Sc.val .l x0.2.1,Sc.val .l x1.2.1] fun y3 =>
  .ret [.int .i64 y3]) <|
 .br x0.1 (
  .qc4 157 [Sc.val .l x1.2.1,Sc.val .l x0.2.1] fun y3 =>
  .ret [.int .i64 y3]) <|
 .qc4 157 [Sc.val .l x0.2.1,Sc.val .l x1.2.1] fun y3 =>
 .ret [.int .i64 y3]
theorem fS_IntCmp x0 x1:qft qa0 164 [qv1 x0,qv1 x1] (tS_IntCmp x0 x1) :=fitK (by kernel_rfl)
def aI_natDiv:An:=⟨[(9,[.s 9],[.o (.o (.l))]),(14,[.s 12,.s 13],[.a 3,.o (.o (.i .i64))])],[],[]⟩
def tI_natDiv (x0:SlV) (x1:SlV):T :=
 .qc4 198 [Sc.val .l x0,Sc.val .l x1] fun y1 =>
 .br (decide (y1<(0:Int))) (
  .qc22 95 [Sc.val .l x0] fun y2 =>
  .fz ((0:Nat)) [] 3 fun b3 c3 =>
  .ret [.slice (some { block:=b3,off:=(0:Nat):Addr }) ((0:Nat)) (c3),Sc.val .l y2]) <|
 .br ((↑x1.n:Int) == (1:Int)) (
  .el x1.1 (x1.n) ((0:Int)) fun y2 =>
  .ql23 (y2.add (Int.toNat (0:Int)*(1:Nat))) fun y3 =>
  .qc56 199 [Sc.val .l x0,.int .i64 y3] fun y4 =>
  .qc22 200 [.int .i64 y4.2.1] fun y5 =>
  .ret [Sc.val .l y4.1,Sc.val .l y5]) <|
 .el x1.1 (x1.n) (IntKind.i64.wrap ((↑x1.n:Int)-(1:Int))) fun y2 =>
 .ql23 (y2.add ((IntKind.i64.wrap ((↑x1.n:Int)-(1:Int))).toNat*(1:Nat))) fun y3 =>
 .rq (IntKind.i64.wrap (y3+(1:Int))≠(0:Int)) <|
 .fz ((1:Nat)) [.int .i64 (IntKind.i64.wrap (Int.tdiv (1000000000:Int) (IntKind.i64.wrap (y3+(1:Int)))))] 3 fun b4 c4 =>
 .qc22 201 [Sc.val .l x0,.slice (some { block:=b4,off:=(0:Nat):Addr }) ((1:Nat)) (c4)] fun y5 =>
 .fz ((1:Nat)) [.int .i64 (IntKind.i64.wrap (Int.tdiv (1000000000:Int) (IntKind.i64.wrap (y3+(1:Int)))))] 3 fun b6 c6 =>
 .qc22 201 [Sc.val .l x1,.slice (some { block:=b6,off:=(0:Nat):Addr }) ((1:Nat)) (c6)] fun y7 =>
 .lp [.o (.o (.l))] [.v (Sc.val .l y5)] fun y8 =>
 .br (decide ((↑y8.1.n:Int)≤(↑x0.n:Int))) (
  .rq ([Value.int IntKind.i64 (0:Int)].length=(1:Nat)*(1:Nat)) <|
 .rq (one [Value.int IntKind.i64 (0:Int)]=true) <|
 .ap ({ a:=y8.1.1,n:=y8.1.n,c:=y8.1.c:SlV }) 1 8 [.int .i64 0] ((1:Nat)) 3 fun y9 =>
  .nx 0 [.v (Sc.val .l y9)]) <|
 .rq ((0:Int)≤IntKind.i64.wrap ((↑y8.1.n:Int)-(↑y7.n:Int))∧IntKind.i64.wrap ((↑y8.1.n:Int)-(↑y7.n:Int))≤IntKind.i64.wrap ((↑y8.1.n:Int)-(↑y7.n:Int))∧(↑(8:Nat):Int)*IntKind.i64.wrap ((↑y8.1.n:Int)-(↑y7.n:Int))≤(281474976710656:Int)∧IntKind.i64.wrap ((↑y8.1.n:Int)-(↑y7.n:Int))≤(9223372036854775807:Int)) <|
 .lp [.a 3,.o (.o (.i .i64))] [.a 3 ((IntKind.i64.wrap ((↑y8.1.n:Int)-(↑y7.n:Int))).toNat) ((madeCells { toList:=[Value.int IntKind.i64 (0:Int)]:Array Value } ((IntKind.i64.wrap ((↑y8.1.n:Int)-(↑y7.n:Int))).toNat*(1:Nat))).toList),.v (.int .i64 (IntKind.i64.wrap ((↑(IntKind.i64.wrap ((↑y8.1.n:Int)-(↑y7.n:Int))).toNat:Int)-(1:Int))))] fun y9 =>
 .br (decide (y9.2.1≥(0:Int))) (
  .rq ((0:Int)≤y9.2.1∧y9.2.1≤IntKind.i64.wrap (IntKind.i64.wrap (y9.2.1+(↑y7.n:Int))+(1:Int))∧IntKind.i64.wrap (IntKind.i64.wrap (y9.2.1+(↑y7.n:Int))+(1:Int))≤(↑y8.1.c:Int)∧(↑y8.1.c:Int)≤(↑y8.1.c:Int)) <|
 .qc4 202 [.slice (if (↑y8.1.c:Int).toNat=Int.toNat y9.2.1 then y8.1.1 else Option.map (fun x=>x.add (Int.toNat y9.2.1*Go.Proofs.Tryz.prog.types[(3:Nat)].size)) y8.1.1) ((IntKind.i64.wrap (IntKind.i64.wrap (y9.2.1+(↑y7.n:Int))+(1:Int))).toNat-Int.toNat y9.2.1) ((↑y8.1.c:Int).toNat-Int.toNat y9.2.1),Sc.val .l y7] fun y10 =>
  .rq ((0:Int)≤y9.2.1∧y9.2.1<(↑y9.1.1:Int)) <|
 .rq (Int.toNat y9.2.1*(1:Nat)+[Value.int IntKind.i64 y10].length≤y9.1.2.length) <|
 .nx 1 [.a 3 y9.1.1 (setl y9.1.2 (Int.toNat y9.2.1*(1:Nat)) [Value.int IntKind.i64 y10]),.v (.int .i64 (IntKind.i64.wrap (y9.2.1-(1:Int))))]) <|
 .qc22 203 [Sc.val .l y8.1] fun y10 =>
 .qc56 199 [Sc.val .l y10,.int .i64 (IntKind.i64.wrap (Int.tdiv (1000000000:Int) (IntKind.i64.wrap (y3+(1:Int)))))] fun y11 =>
 .fz y9.1.1 y9.1.2 3 fun b12 c12 =>
 .qc22 203 [.slice (some { block:=b12,off:=(0:Nat):Addr }) y9.1.1 (c12)] fun y13 =>
 .ret [Sc.val .l y13,Sc.val .l y11.1]
theorem fI_natDiv x0 x1:qft aI_natDiv 165 [Sc.val .l x0,Sc.val .l x1] (tI_natDiv x0 x1) :=fitK (by kernel_rfl)
def tI_isScale (x0:Int):T :=
 .br (decide (x0≥(0:Int))) (
  .ret [.bool (decide (x0≤(30:Int)))]) <|
 .rF
theorem fI_isScale x0:qft qa0 166 [.int .i64 x0] (tI_isScale x0) :=fitK (by kernel_rfl)
def tI_intCopy (x0:qy1):T :=
 .rg <|
 .qc3 95 [Sc.val .l x0.2.1] fun y1 =>
 .ret [qv1 (x0.1,y1,())]
theorem fI_intCopy x0:qft qa0 167 [qv1 x0] (tI_intCopy x0) :=fitK (by kernel_rfl)
def tI_decCopy (x0:qy6):T :=
 .rg <|
 .qc24 167 [qv1 (x0.1,x0.2.1,())] fun y1 =>
 .ret [qv3 (y1.1,y1.2.1,((x0.2.2.1):Int),())]
theorem fI_decCopy x0:qft qa0 168 [qv3 x0] (tI_decCopy x0) :=fitK (by kernel_rfl)
def aI_CutAt:An:=⟨[(4,[.s 5,.s 6,.s 7],[.a 9,.o (.o (.i .i64)),.o (.o (.i .i64))])],[],[]⟩
def tI_CutAt (x0:ByteArray) (x1:ByteArray):T :=
 .lp [.a 9,.o (.o (.i .i64)),.o (.o (.i .i64))] [.a 9 ((0:Nat)) [],.v (.int .i64 0),.v (.int .i64 0)] fun y1 =>
 .br (decide (y1.2.2.1<(↑x0.size:Int))) (
  .rq ((0:Int)≤y1.2.2.1∧y1.2.2.1<(↑x0.size:Int)) <|
 .qc4 204 [.string x1,.int .u8 (at0 x0 (Int.toNat y1.2.2.1))] fun y2 =>
  .br (decide (y2≥(0:Int))) (
   .rq ((0:Int)≤y1.2.1∧y1.2.1≤y1.2.2.1∧y1.2.2.1≤(↑x0.size:Int)) <|
 .rq ([Value.string (x0.extract (Int.toNat y1.2.1) (Int.toNat y1.2.2.1))].length=(1:Nat)*(1:Nat)) <|
 .rq (one [Value.string (x0.extract (Int.toNat y1.2.1) (Int.toNat y1.2.2.1))]=true∧(y1.1.1+(1:Nat))*(16:Nat)≤(140737488355328:Nat)∧y1.1.1+(1:Nat)≤(9223372036854775807:Nat)) <|
 .nx 0 [.a 9 (y1.1.1+(1:Nat)) (y1.1.2++[Value.string (x0.extract (Int.toNat y1.2.1) (Int.toNat y1.2.2.1))]),.v (.int .i64 (IntKind.i64.wrap (y1.2.2.1+(1:Int)))),.v (.int .i64 (IntKind.i64.wrap (y1.2.2.1+(1:Int))))]) <|
 .nx 0 [.a 9 y1.1.1 y1.1.2,.v (.int .i64 y1.2.1),.v (.int .i64 (IntKind.i64.wrap (y1.2.2.1+(1:Int))))]) <|
 .rq ((0:Int)≤y1.2.1∧y1.2.1≤(↑x0.size:Int)∧(↑x0.size:Int)≤(↑x0.size:Int)) <|
 .rq ([Value.string (x0.extract (Int.toNat y1.2.1) (↑x0.size:Int).toNat)].length=(1:Nat)*(1:Nat)) <|
 .rq (one [Value.string (x0.extract (Int.toNat y1.2.1) (↑x0.size:Int).toNat)]=true∧(y1.1.1+(1:Nat))*(16:Nat)≤(140737488355328:Nat)∧y1.1.1+(1:Nat)≤(9223372036854775807:Nat)) <|
 .fz (y1.1.1+(1:Nat)) (y1.1.2++[Value.string (x0.extract (Int.toNat y1.2.1) (↑x0.size:Int).toNat)]) 9 fun b2 c2 =>
 .ret [.slice (some { block:=b2,off:=(0:Nat):Addr }) (y1.1.1+(1:Nat)) (c2)]
theorem fI_CutAt x0 x1:qft aI_CutAt 169 [.string x0,.string x1] (tI_CutAt x0 x1) :=fitK (by kernel_rfl)
def tI_readValue (x0:ByteArray) (x1:Int):T :=
 .br (x1 == (4:Int)) (
  .qc43 205 [.string x0] fun y1 =>
  .br y1.2.1 (
   .ret [.iface 72 (qv2 y1.1)]) <|
 .ret [.nilIface]) <|
 .br (x1 == (6:Int)) (
  .qc57 206 [.string x0] fun y1 =>
  .br y1.2.1 (
   .ret [.iface 55 (qv3 y1.1)]) <|
 .ret [.nilIface]) <|
 .br (x1 == (7:Int)) (
  .qc58 207 [.string x0] fun y1 =>
  .br y1.2.1 (
   .ret [.iface 3 (.int .i64 y1.1)]) <|
 .ret [.nilIface]) <|
 .br (x1 == (8:Int)) (
  .qc59 208 [.string x0] fun y1 =>
  .br y1.2.1 (
   .ret [.iface 57 (qv6 y1.1)]) <|
 .ret [.nilIface]) <|
 .ret [.iface 9 (.string x0)]
theorem fI_readValue x0 x1:qft qa0 170 [.string x0,.int .i64 x1] (tI_readValue x0 x1) :=fitK (by kernel_rfl)
def tI_operationOf (x0:qy8):T :=
 .br (x0.1 == (1:Int)) (
  .ret [.iface 244 (qv9 (x0.2.1,x0.2.2.2.2.1,()))]) <|
 .br (x0.1 == (2:Int)) (
  .ret [.iface 246 (qv10 (x0.2.1,x0.2.2.2.2.2.1,x0.2.2.2.2.2.2.1,x0.2.2.2.2.2.2.2.1,(false),()))]) <|
 .br (x0.1 == (3:Int)) (
  .ret [.iface 246 (qv10 (x0.2.1,x0.2.2.2.2.2.1,x0.2.2.2.2.2.2.1,x0.2.2.2.2.2.2.2.1,(true),()))]) <|
 .br (x0.1 == (4:Int)) (
  .ret [.iface 248 (Sh1.val (.g [.s,.s,.s,.b,.l]) (x0.2.1,x0.2.2.1,x0.2.2.2.2.2.1,x0.2.2.2.2.2.2.1,x0.2.2.2.2.2.2.2.1,()))]) <|
 .br (x0.1 == (5:Int)) (
  .ret [.iface 250 (Sh1.val (.g [.s,.s,.s,.b,.l,.i .i64]) (x0.2.1,x0.2.2.1,x0.2.2.2.2.2.1,x0.2.2.2.2.2.2.1,x0.2.2.2.2.2.2.2.1,((x0.2.2.2.2.2.2.2.2.1):Int),()))]) <|
 .br (x0.1 == (6:Int)) (
  .ret [.iface 252 (Sh1.val (.g [.s,.l,.l,.s,.b,.l]) (x0.2.1,x0.2.2.2.2.2.2.2.2.2.1,x0.2.2.2.2.2.2.2.2.2.2.1,x0.2.2.2.2.2.1,x0.2.2.2.2.2.2.1,x0.2.2.2.2.2.2.2.1,()))]) <|
 .br (x0.1 == (7:Int)) (
  .ret [.iface 254 (Sh1.val (.g [.s,.s,.s,.s,.b,.l,.b,.l,.i .i64,.i .i64]) (x0.2.1,x0.2.2.1,x0.2.2.2.1,x0.2.2.2.2.2.1,x0.2.2.2.2.2.2.1,x0.2.2.2.2.2.2.2.1,x0.2.2.2.2.2.2.2.2.2.2.2.1,x0.2.2.2.2.2.2.2.2.2.2.2.2.1,((x0.2.2.2.2.2.2.2.2.2.2.2.2.2.1):Int),((x0.2.2.2.2.2.2.2.2.1):Int),()))]) <|
 .br (x0.1 == (8:Int)) (
  .ret [.iface 256 (Sh1.val (.g [.s,.i .i64]) (x0.2.1,((x0.2.2.2.2.2.2.2.2.1):Int),()))]) <|
 .ret [.iface 258 (qv6 x0.2.2.2.2.2.2.2.2.2.2.2.2.2.2)]
theorem fI_operationOf x0:qft qa0 173 [qv8 x0] (tI_operationOf x0) :=fitK (by kernel_rfl)
def tI_Pad (x0:ByteArray) (x1:Int):T :=
 .br (decide ((↑x0.size:Int)≥x1)) (
  .ret [.string x0]) <|
 .br (decide (x1 > (2000:Int))) (
  .ret [.string x0]) <|
 .qc10 214 [.string ({ data:={ toList:=[(48:UInt8)]:Array UInt8 }:ByteArray }),.int .i64 (IntKind.i64.wrap (x1-(↑x0.size:Int)))] fun y1 =>
 .rq (y1.size+x0.size≤(9223372036854775807:Nat)) <|
 .ret [.string (y1++x0)]
theorem fI_Pad x0 x1:qft qa0 179 [.string x0,.int .i64 x1] (tI_Pad x0 x1) :=fitK (by kernel_rfl)
def aI_natOf:An:=⟨[(2,[.s 0,.s 3],[.o (.o (.i .u64)),.a 3])],[],[]⟩
def tI_natOf (x0:Int):T :=
 .lp [.o (.o (.i .u64)),.a 3] [.v (.int .u64 x0),.a 3 ((0:Nat)) []] fun y1 =>
 .br (decide (y1.1 > (0:Int))) (
  .rq ((1000000000:Int)≠(0:Int)) <|
 .rq ([Value.int IntKind.i64 (IntKind.i64.wrap (Int.tmod y1.1 (1000000000:Int)))].length=(1:Nat)*(1:Nat)) <|
 .rq (one [Value.int IntKind.i64 (IntKind.i64.wrap (Int.tmod y1.1 (1000000000:Int)))]=true∧(y1.2.1.1+(1:Nat))*(8:Nat)≤(140737488355328:Nat)∧y1.2.1.1+(1:Nat)≤(9223372036854775807:Nat)) <|
 .rq ((1000000000:Int)≠(0:Int)) <|
 .nx 0 [.v (.int .u64 (IntKind.u64.wrap (Int.tdiv y1.1 (1000000000:Int)))),.a 3 (y1.2.1.1+(1:Nat)) (y1.2.1.2++[Value.int IntKind.i64 (IntKind.i64.wrap (Int.tmod y1.1 (1000000000:Int)))])]) <|
 .fz y1.2.1.1 y1.2.1.2 3 fun b2 c2 =>
 .ret [.slice (some { block:=b2,off:=(0:Nat):Addr }) y1.2.1.1 (c2)]
theorem fI_natOf x0:qft aI_natOf 184 [.int .u64 x0] (tI_natOf x0) :=fitK (by kernel_rfl)
def aS_l01All:An:=⟨[(2,[.s 11],[.o (.o (.i .i64))])],[],[]⟩
def tS_l01All (x0:ByteArray) (x1:Int) (x2:Int) (x3:Int) (x4:Int):T :=
 .lp [.o (.o (.i .i64))] [.v (.int .i64 0)] fun y1 =>
 .br (decide (y1.1<(↑x0.size:Int))) (
  .rq ((0:Int)≤y1.1∧y1.1<(↑x0.size:Int)) <|
 .br (decide (at0 x0 (Int.toNat y1.1)<x1)) (
   .rq ((0:Int)≤y1.1∧y1.1<(↑x0.size:Int)) <|
 .br (decide (at0 x0 (Int.toNat y1.1)<x3)) (
    .rF) <|
 .rq ((0:Int)≤y1.1∧y1.1<(↑x0.size:Int)) <|
 .br (decide (at0 x0 (Int.toNat y1.1) > x4)) (
    .rF) <|
 .nx 0 [.v (.int .i64 (IntKind.i64.wrap (y1.1+(1:Int))))]) <|
 .rq ((0:Int)≤y1.1∧y1.1<(↑x0.size:Int)) <|
 .br (decide (at0 x0 (Int.toNat y1.1) > x2)) (
   .rq ((0:Int)≤y1.1∧y1.1<(↑x0.size:Int)) <|
 .br (decide (at0 x0 (Int.toNat y1.1)<x3)) (
    .rF) <|
 .rq ((0:Int)≤y1.1∧y1.1<(↑x0.size:Int)) <|
 .br (decide (at0 x0 (Int.toNat y1.1) > x4)) (
    .rF) <|
 .nx 0 [.v (.int .i64 (IntKind.i64.wrap (y1.1+(1:Int))))]) <|
 .nx 0 [.v (.int .i64 (IntKind.i64.wrap (y1.1+(1:Int))))]) <|
 .ret [.bool (decide ((↑x0.size:Int) > (0:Int)))]
theorem fS_l01All x0 x1 x2 x3 x4:qft aS_l01All 194 [.string x0,.int .u8 x1,.int .u8 x2,.int .u8 x3,.int .u8 x4] (tS_l01All x0 x1 x2 x3 x4) :=fitK (by kernel_rfl)
def tS_l01In (x0:Int) (x1:Int) (x2:Int):T :=
 .br (decide (x0≥x1)) (
  .ret [.bool (decide (x0≤x2))]) <|
 .rF
theorem fS_l01In x0 x1 x2:qft qa0 195 [.int .i64 x0,.int .i64 x1,.int .i64 x2] (tS_l01In x0 x1 x2) :=fitK (by kernel_rfl)
def aS_l03Small:An:=⟨[(4,[.s 6,.s 7,.s 8],[.a 3,.o (.o (.i .i64)),.o (.o (.i .i64))])],[],[]⟩
def tS_l03Small (x0:SlV) (x1:Int):T :=
 .rq ((0:Int)≤(↑x0.n:Int)∧(↑x0.n:Int)≤(↑x0.n:Int)∧(↑(8:Nat):Int)*(↑x0.n:Int)≤(281474976710656:Int)∧(↑x0.n:Int)≤(9223372036854775807:Int)) <|
 .lp [.a 3,.o (.o (.i .i64)),.o (.o (.i .i64))] [.a 3 ((↑x0.n:Int).toNat) ((madeCells { toList:=[Value.int IntKind.i64 (0:Int)]:Array Value } ((↑x0.n:Int).toNat*(1:Nat))).toList),.v (.int .i64 0),.v (.int .i64 (IntKind.i64.wrap ((↑x0.n:Int)-(1:Int))))] fun y1 =>
 .br (decide (y1.2.2.1≥(0:Int))) (
  .el x0.1 (x0.n) y1.2.2.1 fun y2 =>
  .ql23 (y2.add (Int.toNat y1.2.2.1*(1:Nat))) fun y3 =>
  .rq (x1≠(0:Int)) <|
 .rq ((0:Int)≤y1.2.2.1∧y1.2.2.1<(↑y1.1.1:Int)) <|
 .rq (Int.toNat y1.2.2.1*(1:Nat)+[Value.int IntKind.i64 (IntKind.i64.wrap ((IntKind.i64.wrap (IntKind.i64.wrap (y1.2.1*(1000000000:Int))+y3)).tdiv x1))].length≤y1.1.2.length) <|
 .rq (x1≠(0:Int)) <|
 .nx 0 [.a 3 y1.1.1 (setl y1.1.2 (Int.toNat y1.2.2.1*(1:Nat)) [Value.int IntKind.i64 (IntKind.i64.wrap ((IntKind.i64.wrap (IntKind.i64.wrap (y1.2.1*(1000000000:Int))+y3)).tdiv x1))]),.v (.int .i64 ((IntKind.i64.wrap (IntKind.i64.wrap (y1.2.1*(1000000000:Int))+y3)).tmod x1)),.v (.int .i64 (IntKind.i64.wrap (y1.2.2.1-(1:Int))))]) <|
 .fz y1.1.1 y1.1.2 3 fun b2 c2 =>
 .qc22 114 [.slice (some { block:=b2,off:=(0:Nat):Addr }) y1.1.1 (c2)] fun y3 =>
 .ret [Sc.val .l y3,.int .i64 y1.2.1]
theorem fS_l03Small x0 x1:qft aS_l03Small 196 [Sc.val .l x0,.int .i64 x1] (tS_l03Small x0 x1) :=fitK (by kernel_rfl)
def aS_l03Digit:An:=⟨[(3,[.s 5,.s 6],[.o (.o (.i .i64)),.o (.o (.i .i64))])],[],[]⟩
def tS_l03Digit (x0:SlV) (x1:SlV):T :=
 .lp [.o (.o (.i .i64)),.o (.o (.i .i64))] [.v (.int .i64 0),.v (.int .i64 999999999)] fun y1 =>
 .br (decide (y1.1<y1.2.1)) (
  .rq ((2:Int)≠(0:Int)) <|
 .qc22 69 [.int .i64 (IntKind.i64.wrap ((IntKind.i64.wrap (IntKind.i64.wrap (y1.1+y1.2.1)+(1:Int))).tdiv (2:Int)))] fun y2 =>
  .qc22 108 [Sc.val .l x1,Sc.val .l y2] fun y3 =>
  .qc4 157 [Sc.val .l y3,Sc.val .l x0] fun y4 =>
  .br (decide (y4≤(0:Int))) (
   .nx 0 [.v (.int .i64 (IntKind.i64.wrap ((IntKind.i64.wrap (IntKind.i64.wrap (y1.1+y1.2.1)+(1:Int))).tdiv (2:Int)))),.v (.int .i64 y1.2.1)]) <|
 .nx 0 [.v (.int .i64 y1.1),.v (.int .i64 (IntKind.i64.wrap (IntKind.i64.wrap ((IntKind.i64.wrap (IntKind.i64.wrap (y1.1+y1.2.1)+(1:Int))).tdiv (2:Int))-(1:Int))))]) <|
 .ret [.int .i64 y1.1]
theorem fS_l03Digit x0 x1:qft aS_l03Digit 197 [Sc.val .l x0,Sc.val .l x1] (tS_l03Digit x0 x1) :=fitK (by kernel_rfl)
def aI_natCmp:An:=⟨[(6,[.s 5],[.o (.o (.i .i64))])],[],[]⟩
def tI_natCmp (x0:SlV) (x1:SlV):T :=
 .br ((↑x0.n:Int) != (↑x1.n:Int)) (
  .br (decide ((↑x0.n:Int)<(↑x1.n:Int))) (
   .rM) <|
 .ret [.int .i64 1]) <|
 .lp [.o (.o (.i .i64))] [.v (.int .i64 (IntKind.i64.wrap ((↑x0.n:Int)-(1:Int))))] fun y1 =>
 .br (decide (y1.1≥(0:Int))) (
  .rg <|
 .el x0.1 (x0.n) y1.1 fun y2 =>
  .ql45 (y2.add (Int.toNat y1.1*(1:Nat))) fun y3 =>
  .el x1.1 (x1.n) y1.1 fun y4 =>
  .ql45 (y4.add (Int.toNat y1.1*(1:Nat))) fun y5 =>
  .br (y3 != y5) (
   .rg <|
 .el x0.1 (x0.n) y1.1 fun y6 =>
   .ql45 (y6.add (Int.toNat y1.1*(1:Nat))) fun y7 =>
   .el x1.1 (x1.n) y1.1 fun y8 =>
   .ql45 (y8.add (Int.toNat y1.1*(1:Nat))) fun y9 =>
   .br (decide (y7<y9)) (
    .rM) <|
 .ret [.int .i64 1]) <|
 .nx 0 [.v (.int .i64 (IntKind.i64.wrap (y1.1-(1:Int))))]) <|
 .ret [.int .i64 0]
theorem fI_natCmp x0 x1:qft aI_natCmp 198 [Sc.val .l x0,Sc.val .l x1] (tI_natCmp x0 x1) :=fitK (by kernel_rfl)
def aI_natSmall:An:=⟨[(4,[.s 6,.s 7,.s 8],[.a 3,.o (.o (.i .i64)),.o (.o (.i .i64))])],[],[]⟩
def tI_natSmall (x0:SlV) (x1:Int):T :=
 .rq ((0:Int)≤(↑x0.n:Int)∧(↑x0.n:Int)≤(↑x0.n:Int)∧(↑(8:Nat):Int)*(↑x0.n:Int)≤(281474976710656:Int)∧(↑x0.n:Int)≤(9223372036854775807:Int)) <|
 .lp [.a 3,.o (.o (.i .i64)),.o (.o (.i .i64))] [.a 3 ((↑x0.n:Int).toNat) ((madeCells { toList:=[Value.int IntKind.i64 (0:Int)]:Array Value } ((↑x0.n:Int).toNat*(1:Nat))).toList),.v (.int .i64 0),.v (.int .i64 (IntKind.i64.wrap ((↑x0.n:Int)-(1:Int))))] fun y1 =>
 .br (decide (y1.2.2.1≥(0:Int))) (
  .el x0.1 (x0.n) y1.2.2.1 fun y2 =>
  .ql23 (y2.add (Int.toNat y1.2.2.1*(1:Nat))) fun y3 =>
  .rq (x1≠(0:Int)) <|
 .rq ((0:Int)≤y1.2.2.1∧y1.2.2.1<(↑y1.1.1:Int)) <|
 .rq (Int.toNat y1.2.2.1*(1:Nat)+[Value.int IntKind.i64 (IntKind.i64.wrap ((IntKind.i64.wrap (IntKind.i64.wrap (y1.2.1*(1000000000:Int))+y3)).tdiv x1))].length≤y1.1.2.length) <|
 .rq (x1≠(0:Int)) <|
 .nx 0 [.a 3 y1.1.1 (setl y1.1.2 (Int.toNat y1.2.2.1*(1:Nat)) [Value.int IntKind.i64 (IntKind.i64.wrap ((IntKind.i64.wrap (IntKind.i64.wrap (y1.2.1*(1000000000:Int))+y3)).tdiv x1))]),.v (.int .i64 ((IntKind.i64.wrap (IntKind.i64.wrap (y1.2.1*(1000000000:Int))+y3)).tmod x1)),.v (.int .i64 (IntKind.i64.wrap (y1.2.2.1-(1:Int))))]) <|
 .fz y1.1.1 y1.1.2 3 fun b2 c2 =>
 .qc22 203 [.slice (some { block:=b2,off:=(0:Nat):Addr }) y1.1.1 (c2)] fun y3 =>
 .ret [Sc.val .l y3,.int .i64 y1.2.1]
theorem fI_natSmall x0 x1:qft aI_natSmall 199 [Sc.val .l x0,.int .i64 x1] (tI_natSmall x0 x1) :=fitK (by kernel_rfl)
def tI_NatOf (x0:Int):T :=
 .br (decide (x0<(0:Int))) (
  .ret [.slice none 0 0]) <|
 .qc22 184 [.int .u64 (IntKind.u64.wrap x0)] fun y1 =>
 .ret [Sc.val .l y1]
theorem fI_NatOf x0:qft qa0 200 [.int .i64 x0] (tI_NatOf x0) :=fitK (by kernel_rfl)
def aI_natMul:An:=⟨[(3,[.s 5,.s 21],[.a 3,.o (.o (.i .i64))]),(7,[.s 5,.s 8,.s 28],[.a 3,.o (.o (.i .i64)),.o (.o (.i .i64))]),(14,[.s 5,.s 8,.s 11],[.a 3,.o (.o (.i .i64)),.o (.o (.i .i64))])],[],[]⟩
def tI_natMul (x0:SlV) (x1:SlV):T :=
 .rq ((0:Int)≤IntKind.i64.wrap (IntKind.i64.wrap ((↑x0.n:Int)+(↑x1.n:Int))+(1:Int))∧IntKind.i64.wrap (IntKind.i64.wrap ((↑x0.n:Int)+(↑x1.n:Int))+(1:Int))≤IntKind.i64.wrap (IntKind.i64.wrap ((↑x0.n:Int)+(↑x1.n:Int))+(1:Int))∧(↑(8:Nat):Int)*IntKind.i64.wrap (IntKind.i64.wrap ((↑x0.n:Int)+(↑x1.n:Int))+(1:Int))≤(281474976710656:Int)∧IntKind.i64.wrap (IntKind.i64.wrap ((↑x0.n:Int)+(↑x1.n:Int))+(1:Int))≤(9223372036854775807:Int)) <|
 .lp [.a 3,.o (.o (.i .i64))] [.a 3 ((IntKind.i64.wrap (IntKind.i64.wrap ((↑x0.n:Int)+(↑x1.n:Int))+(1:Int))).toNat) ((madeCells { toList:=[Value.int IntKind.i64 (0:Int)]:Array Value } ((IntKind.i64.wrap (IntKind.i64.wrap ((↑x0.n:Int)+(↑x1.n:Int))+(1:Int))).toNat*(1:Nat))).toList),.v (.int .i64 0)] fun y1 =>
 .br (decide (y1.2.1<(↑x0.n:Int))) (
  .el x0.1 (x0.n) y1.2.1 fun y2 =>
  .ql23 (y2.add (Int.toNat y1.2.1*(1:Nat))) fun y3 =>
  .lp [.a 3,.o (.o (.i .i64)),.o (.o (.i .i64))] [.a 3 y1.1.1 y1.1.2,.v (.int .i64 0),.v (.int .i64 0)] fun y4 =>
  .br (decide (y4.2.2.1<(↑x1.n:Int))) (
   .el x1.1 (x1.n) y4.2.2.1 fun y5 =>
   .ql23 (y5.add (Int.toNat y4.2.2.1*(1:Nat))) fun y6 =>
   .rq ((0:Int)≤IntKind.i64.wrap (y1.2.1+y4.2.2.1)∧IntKind.i64.wrap (y1.2.1+y4.2.2.1)<(↑y4.1.1:Int)) <|
 .xs y4.1.2 ((IntKind.i64.wrap (y1.2.1+y4.2.2.1)).toNat*(1:Nat)) (.o (.i .i64)) fun y7 =>
   .rq ((1000000000:Int)≠(0:Int)) <|
 .rq ((0:Int)≤IntKind.i64.wrap (y1.2.1+y4.2.2.1)∧IntKind.i64.wrap (y1.2.1+y4.2.2.1)<(↑y4.1.1:Int)) <|
 .rq ((IntKind.i64.wrap (y1.2.1+y4.2.2.1)).toNat*(1:Nat)+[Value.int IntKind.i64 ((IntKind.i64.wrap (y4.2.1+IntKind.i64.wrap (y7+IntKind.i64.wrap (y3*y6)))).tmod (1000000000:Int))].length≤y4.1.2.length) <|
 .rq ((1000000000:Int)≠(0:Int)) <|
 .nx 1 [.a 3 y4.1.1 (setl y4.1.2 ((IntKind.i64.wrap (y1.2.1+y4.2.2.1)).toNat*(1:Nat)) [Value.int IntKind.i64 ((IntKind.i64.wrap (y4.2.1+IntKind.i64.wrap (y7+IntKind.i64.wrap (y3*y6)))).tmod (1000000000:Int))]),.v (.int .i64 (IntKind.i64.wrap ((IntKind.i64.wrap (y4.2.1+IntKind.i64.wrap (y7+IntKind.i64.wrap (y3*y6)))).tdiv (1000000000:Int)))),.v (.int .i64 (IntKind.i64.wrap (y4.2.2.1+(1:Int))))]) <|
 .lp [.a 3,.o (.o (.i .i64)),.o (.o (.i .i64))] [.a 3 y4.1.1 y4.1.2,.v (.int .i64 y4.2.1),.v (.int .i64 (IntKind.i64.wrap (y1.2.1+(↑x1.n:Int))))] fun y5 =>
  .br (decide (y5.2.1 > (0:Int))) (
   .rq ((0:Int)≤y5.2.2.1∧y5.2.2.1<(↑y5.1.1:Int)) <|
 .xs y5.1.2 (Int.toNat y5.2.2.1*(1:Nat)) (.o (.i .i64)) fun y6 =>
   .rq ((1000000000:Int)≠(0:Int)) <|
 .rq ((0:Int)≤y5.2.2.1∧y5.2.2.1<(↑y5.1.1:Int)) <|
 .rq (Int.toNat y5.2.2.1*(1:Nat)+[Value.int IntKind.i64 ((IntKind.i64.wrap (y5.2.1+y6)).tmod (1000000000:Int))].length≤y5.1.2.length) <|
 .rq ((1000000000:Int)≠(0:Int)) <|
 .nx 2 [.a 3 y5.1.1 (setl y5.1.2 (Int.toNat y5.2.2.1*(1:Nat)) [Value.int IntKind.i64 ((IntKind.i64.wrap (y5.2.1+y6)).tmod (1000000000:Int))]),.v (.int .i64 (IntKind.i64.wrap ((IntKind.i64.wrap (y5.2.1+y6)).tdiv (1000000000:Int)))),.v (.int .i64 (IntKind.i64.wrap (y5.2.2.1+(1:Int))))]) <|
 .nx 0 [.a 3 y5.1.1 y5.1.2,.v (.int .i64 (IntKind.i64.wrap (y1.2.1+(1:Int))))]) <|
 .fz y1.1.1 y1.1.2 3 fun b2 c2 =>
 .qc22 203 [.slice (some { block:=b2,off:=(0:Nat):Addr }) y1.1.1 (c2)] fun y3 =>
 .ret [Sc.val .l y3]
theorem fI_natMul x0 x1:qft aI_natMul 201 [Sc.val .l x0,Sc.val .l x1] (tI_natMul x0 x1) :=fitK (by kernel_rfl)
def aI_divStep:An:=⟨[(4,[.s 7],[.o (.o (.i .i64))])],[],[]⟩
def tI_divStep (x0:SlV) (x1:SlV):T :=
 .rg <|
 .el x0.1 (x0.n) ((↑x1.n:Int)) fun y1 =>
 .ql45 (y1.add ((↑x1.n:Int).toNat*(1:Nat))) fun y2 =>
 .el x0.1 (x0.n) (IntKind.i64.wrap ((↑x1.n:Int)-(1:Int))) fun y3 =>
 .ql45 (y3.add ((IntKind.i64.wrap ((↑x1.n:Int)-(1:Int))).toNat*(1:Nat))) fun y4 =>
 .el x1.1 (x1.n) (IntKind.i64.wrap ((↑x1.n:Int)-(1:Int))) fun y5 =>
 .ql23 (y5.add ((IntKind.i64.wrap ((↑x1.n:Int)-(1:Int))).toNat*(1:Nat))) fun y6 =>
 .rq (y6≠(0:Int)) <|
 .lp [.o (.o (.i .i64))] [.v (.int .i64 (if (999999999:Int)<IntKind.i64.wrap ((IntKind.i64.wrap (IntKind.i64.wrap (y2*(1000000000:Int))+y4)).tdiv y6) then (999999999:Int) else IntKind.i64.wrap ((IntKind.i64.wrap (IntKind.i64.wrap (y2*(1000000000:Int))+y4)).tdiv y6)))] fun y7 =>
 .rg <|
 .br (decide (y7.1 > (0:Int))) (
  .el x1.1 (x1.n) (IntKind.i64.wrap ((↑x1.n:Int)-(1:Int))) fun y8 =>
  .ql45 (y8.add ((IntKind.i64.wrap ((↑x1.n:Int)-(1:Int))).toNat*(1:Nat))) fun y9 =>
  .br (decide (IntKind.i64.wrap (IntKind.i64.wrap (IntKind.i64.wrap (y2*(1000000000:Int))+y4)-IntKind.i64.wrap (y7.1*y9))<(1000000000:Int))) (
   .el x1.1 (x1.n) (IntKind.i64.wrap ((↑x1.n:Int)-(2:Int))) fun y10 =>
   .ql45 (y10.add ((IntKind.i64.wrap ((↑x1.n:Int)-(2:Int))).toNat*(1:Nat))) fun y11 =>
   .el x1.1 (x1.n) (IntKind.i64.wrap ((↑x1.n:Int)-(1:Int))) fun y12 =>
   .ql45 (y12.add ((IntKind.i64.wrap ((↑x1.n:Int)-(1:Int))).toNat*(1:Nat))) fun y13 =>
   .el x0.1 (x0.n) (IntKind.i64.wrap ((↑x1.n:Int)-(2:Int))) fun y14 =>
   .ql45 (y14.add ((IntKind.i64.wrap ((↑x1.n:Int)-(2:Int))).toNat*(1:Nat))) fun y15 =>
   .br (decide (IntKind.i64.wrap (y7.1*y11) > IntKind.i64.wrap (IntKind.i64.wrap (IntKind.i64.wrap (IntKind.i64.wrap (IntKind.i64.wrap (y2*(1000000000:Int))+y4)-IntKind.i64.wrap (y7.1*y13))*(1000000000:Int))+y15))) (
    .nx 0 [.v (.int .i64 (IntKind.i64.wrap (y7.1-(1:Int))))]) <|
 .qc6 218 [Sc.val .l x0,Sc.val .l x1,.int .i64 y7.1] fun y16 =>
   .br y16 (
    .qc60 219 [Sc.val .l x0,Sc.val .l x1] fun _ =>
    .ret [.int .i64 (IntKind.i64.wrap (y7.1-(1:Int)))]) <|
 .ret [.int .i64 y7.1]) <|
 .qc6 218 [Sc.val .l x0,Sc.val .l x1,.int .i64 y7.1] fun y10 =>
  .br y10 (
   .qc60 219 [Sc.val .l x0,Sc.val .l x1] fun _ =>
   .ret [.int .i64 (IntKind.i64.wrap (y7.1-(1:Int)))]) <|
 .ret [.int .i64 y7.1]) <|
 .qc6 218 [Sc.val .l x0,Sc.val .l x1,.int .i64 y7.1] fun y8 =>
 .br y8 (
  .qc60 219 [Sc.val .l x0,Sc.val .l x1] fun _ =>
  .ret [.int .i64 (IntKind.i64.wrap (y7.1-(1:Int)))]) <|
 .ret [.int .i64 y7.1]
theorem fI_divStep x0 x1:qft aI_divStep 202 [Sc.val .l x0,Sc.val .l x1] (tI_divStep x0 x1) :=fitK (by kernel_rfl)
def aI_trim:An:=⟨[(1,[.s 0],[.o (.o (.l))])],[],[]⟩
def tI_trim (x0:SlV):T :=
 .lp [.o (.o (.l))] [.v (Sc.val .l x0)] fun y1 =>
 .br (decide ((↑y1.1.n:Int) > (0:Int))) (
  .el y1.1.1 (y1.1.n) (IntKind.i64.wrap ((↑y1.1.n:Int)-(1:Int))) fun y2 =>
  .ql23 (y2.add ((IntKind.i64.wrap ((↑y1.1.n:Int)-(1:Int))).toNat*(1:Nat))) fun y3 =>
  .br (y3 == (0:Int)) (
   .rq ((0:Int)≤(0:Int)∧(0:Int)≤IntKind.i64.wrap ((↑y1.1.n:Int)-(1:Int))∧IntKind.i64.wrap ((↑y1.1.n:Int)-(1:Int))≤(↑y1.1.c:Int)∧(↑y1.1.c:Int)≤(↑y1.1.c:Int)) <|
 .nx 0 [.v (.slice (if (↑y1.1.c:Int).toNat=Int.toNat (0:Int) then y1.1.1 else Option.map (fun x=>x.add (Int.toNat (0:Int)*Go.Proofs.Tryz.prog.types[(3:Nat)].size)) y1.1.1) ((IntKind.i64.wrap ((↑y1.1.n:Int)-(1:Int))).toNat-Int.toNat (0:Int)) ((↑y1.1.c:Int).toNat-Int.toNat (0:Int)))]) <|
 .ret [Sc.val .l y1.1]) <|
 .ret [Sc.val .l y1.1]
theorem fI_trim x0:qft aI_trim 203 [Sc.val .l x0] (tI_trim x0) :=fitK (by kernel_rfl)
def tI_TextMoney (x0:ByteArray):T :=
 .qc22 125 [.string x0] fun y1 =>
 .br ((↑y1.n:Int) != (2:Int)) (
  .ret [qv2 (({ data:={ toList:=[]:Array UInt8 }:ByteArray }),(false),nilS,()),.bool (false)]) <|
 .el y1.1 (y1.n) ((1:Int)) fun y2 =>
 .ql9 (y2.add (Int.toNat (1:Int)*(1:Nat))) fun y3 =>
 .qc57 221 [.string y3] fun y4 =>
 .rg <|
 .el y1.1 (y1.n) ((0:Int)) fun y5 =>
 .ql33 (y5.add (Int.toNat (0:Int)*(1:Nat))) fun y6 =>
 .bn y4.2.1 (.ret [qv2 (({ data:={ toList:=[]:Array UInt8 }:ByteArray }),(false),nilS,()),.bool (false)]) <|
 .qc10 88 [qv2 (y6,y4.1.1,y4.1.2.1,())] fun y7 =>
 .br (!y7.toList == x0.toList) (
  .ret [qv2 (({ data:={ toList:=[]:Array UInt8 }:ByteArray }),(false),nilS,()),.bool (false)]) <|
 .br (x0.toList == { data:={ toList:=[]:Array UInt8 }:ByteArray }.toList) (
  .ret [qv2 (({ data:={ toList:=[]:Array UInt8 }:ByteArray }),(false),nilS,()),.bool (false)]) <|
 .ret [qv2 (y6,y4.1.1,y4.1.2.1,()),.bool (true)]
theorem fI_TextMoney x0:qft qa0 205 [.string x0] (tI_TextMoney x0) :=fitK (by kernel_rfl)
def tI_TextRate (x0:ByteArray):T :=
 .qc22 125 [.string x0] fun y1 =>
 .br ((↑y1.n:Int) != (3:Int)) (
  .ret [qv6 (({ data:={ toList:=[]:Array UInt8 }:ByteArray }),({ data:={ toList:=[]:Array UInt8 }:ByteArray }),(false),nilS,(((0:Int)):Int),()),.bool (false)]) <|
 .el y1.1 (y1.n) ((2:Int)) fun y2 =>
 .ql9 (y2.add (Int.toNat (2:Int)*(1:Nat))) fun y3 =>
 .qc57 221 [.string y3] fun y4 =>
 .rg <|
 .el y1.1 (y1.n) ((0:Int)) fun y5 =>
 .ql33 (y5.add (Int.toNat (0:Int)*(1:Nat))) fun y6 =>
 .el y1.1 (y1.n) ((1:Int)) fun y7 =>
 .ql33 (y7.add (Int.toNat (1:Int)*(1:Nat))) fun y8 =>
 .bn y4.2.1 (.ret [qv6 (({ data:={ toList:=[]:Array UInt8 }:ByteArray }),({ data:={ toList:=[]:Array UInt8 }:ByteArray }),(false),nilS,(((0:Int)):Int),()),.bool (false)]) <|
 .qc6 77 [qv6 (y6,y8,y4.1.1,y4.1.2.1,((y4.1.2.2.1):Int),())] fun y9 =>
 .bn y9 (.ret [qv6 (({ data:={ toList:=[]:Array UInt8 }:ByteArray }),({ data:={ toList:=[]:Array UInt8 }:ByteArray }),(false),nilS,(((0:Int)):Int),()),.bool (false)]) <|
 .ret [qv6 (y6,y8,y4.1.1,y4.1.2.1,((y4.1.2.2.1):Int),()),.bool (true)]
theorem fI_TextRate x0:qft qa0 208 [.string x0] (tI_TextRate x0) :=fitK (by kernel_rfl)
def aI_subTimes:An:=⟨[(3,[.s 0,.s 7,.s 13],[.o (.o (.l)),.o (.o (.i .i64)),.o (.o (.i .i64))])],[],[]⟩
def tI_subTimes (x0:SlV) (x1:SlV) (x2:Int):T :=
 .lp [.o (.o (.l)),.o (.o (.i .i64)),.o (.o (.i .i64))] [.v (Sc.val .l x0),.v (.int .i64 0),.v (.int .i64 0)] fun y1 =>
 .br (decide (y1.2.2.1<(↑x1.n:Int))) (
  .el x1.1 (x1.n) y1.2.2.1 fun y2 =>
  .ql23 (y2.add (Int.toNat y1.2.2.1*(1:Nat))) fun y3 =>
  .el y1.1.1 (y1.1.n) y1.2.2.1 fun y4 =>
  .ql23 (y4.add (Int.toNat y1.2.2.1*(1:Nat))) fun y5 =>
  .br (decide (IntKind.i64.wrap (IntKind.i64.wrap (y5-IntKind.i64.wrap (y3*x2))-y1.2.1)<(0:Int))) (
   .rq ((1000000000:Int)≠(0:Int)) <|
 .el y1.1.1 (y1.1.n) y1.2.2.1 fun y6 =>
   .st (y6.add (Int.toNat y1.2.2.1*(1:Nat))) [.int .i64 (IntKind.i64.wrap (IntKind.i64.wrap (IntKind.i64.wrap (y5-IntKind.i64.wrap (y3*x2))-y1.2.1)+IntKind.i64.wrap (IntKind.i64.wrap ((IntKind.i64.wrap (IntKind.i64.wrap (IntKind.i64.wrap ((0:Int)-IntKind.i64.wrap (IntKind.i64.wrap (y5-IntKind.i64.wrap (y3*x2))-y1.2.1))+(1000000000:Int))-(1:Int))).tdiv (1000000000:Int))*(1000000000:Int))))] <|
 .nx 0 [.v (Sc.val .l y1.1),.v (.int .i64 (IntKind.i64.wrap ((IntKind.i64.wrap (IntKind.i64.wrap (IntKind.i64.wrap ((0:Int)-IntKind.i64.wrap (IntKind.i64.wrap (y5-IntKind.i64.wrap (y3*x2))-y1.2.1))+(1000000000:Int))-(1:Int))).tdiv (1000000000:Int)))),.v (.int .i64 (IntKind.i64.wrap (y1.2.2.1+(1:Int))))]) <|
 .el y1.1.1 (y1.1.n) y1.2.2.1 fun y6 =>
  .st (y6.add (Int.toNat y1.2.2.1*(1:Nat))) [.int .i64 (IntKind.i64.wrap (IntKind.i64.wrap (y5-IntKind.i64.wrap (y3*x2))-y1.2.1))] <|
 .nx 0 [.v (Sc.val .l y1.1),.v (.int .i64 0),.v (.int .i64 (IntKind.i64.wrap (y1.2.2.1+(1:Int))))]) <|
 .el y1.1.1 (y1.1.n) ((↑x1.n:Int)) fun y2 =>
 .ql23 (y2.add ((↑x1.n:Int).toNat*(1:Nat))) fun y3 =>
 .el y1.1.1 (y1.1.n) ((↑x1.n:Int)) fun y4 =>
 .st (y4.add ((↑x1.n:Int).toNat*(1:Nat))) [.int .i64 (IntKind.i64.wrap (y3-y1.2.1))] <|
 .el y1.1.1 (y1.1.n) ((↑x1.n:Int)) fun y5 =>
 .ql23 (y5.add ((↑x1.n:Int).toNat*(1:Nat))) fun y6 =>
 .ret [.bool (decide (y6<(0:Int)))]
theorem fI_subTimes x0 x1 x2:qft aI_subTimes 218 [Sc.val .l x0,Sc.val .l x1,.int .i64 x2] (tI_subTimes x0 x1 x2) :=fitK (by kernel_rfl)
def aI_addBack:An:=⟨[(2,[.s 0,.s 4,.s 9],[.o (.o (.l)),.o (.o (.i .i64)),.o (.o (.i .i64))])],[],[]⟩
def tI_addBack (x0:SlV) (x1:SlV):T :=
 .lp [.o (.o (.l)),.o (.o (.i .i64)),.o (.o (.i .i64))] [.v (Sc.val .l x0),.v (.int .i64 0),.v (.int .i64 0)] fun y1 =>
 .br (decide (y1.2.2.1<(↑x1.n:Int))) (
  .el x1.1 (x1.n) y1.2.2.1 fun y2 =>
  .ql23 (y2.add (Int.toNat y1.2.2.1*(1:Nat))) fun y3 =>
  .el y1.1.1 (y1.1.n) y1.2.2.1 fun y4 =>
  .ql23 (y4.add (Int.toNat y1.2.2.1*(1:Nat))) fun y5 =>
  .rq ((1000000000:Int)≠(0:Int)) <|
 .el y1.1.1 (y1.1.n) y1.2.2.1 fun y6 =>
  .st (y6.add (Int.toNat y1.2.2.1*(1:Nat))) [.int .i64 ((IntKind.i64.wrap (y1.2.1+IntKind.i64.wrap (y5+y3))).tmod (1000000000:Int))] <|
 .rq ((1000000000:Int)≠(0:Int)) <|
 .nx 0 [.v (Sc.val .l y1.1),.v (.int .i64 (IntKind.i64.wrap ((IntKind.i64.wrap (y1.2.1+IntKind.i64.wrap (y5+y3))).tdiv (1000000000:Int)))),.v (.int .i64 (IntKind.i64.wrap (y1.2.2.1+(1:Int))))]) <|
 .el y1.1.1 (y1.1.n) ((↑x1.n:Int)) fun y2 =>
 .ql23 (y2.add ((↑x1.n:Int).toNat*(1:Nat))) fun y3 =>
 .el y1.1.1 (y1.1.n) ((↑x1.n:Int)) fun y4 =>
 .st (y4.add ((↑x1.n:Int).toNat*(1:Nat))) [.int .i64 (IntKind.i64.wrap (y3+y1.2.1))] <|
 .ret []
theorem fI_addBack x0 x1:qft aI_addBack 219 [Sc.val .l x0,Sc.val .l x1] (tI_addBack x0 x1) :=fitK (by kernel_rfl)
def aI_TextDec:An:=⟨[(12,[.s 8],[.o (.o (.s))])],[],[]⟩
def tI_TextDec (x0:ByteArray):T :=
 .br (!x0.toList == { data:={ toList:=[]:Array UInt8 }:ByteArray }.toList) (
  .rq ((0:Int)≤(0:Int)∧(0:Int)<(↑x0.size:Int)) <|
 .br (at0 x0 (Int.toNat (0:Int)) == (45:Int)) (
   .rq ((0:Int)≤(1:Int)∧(1:Int)≤(↑x0.size:Int)∧(↑x0.size:Int)≤(↑x0.size:Int)) <|
 .qc22 169 [.string (x0.extract (Int.toNat (1:Int)) (↑x0.size:Int).toNat),.string ({ data:={ toList:=[(46:UInt8)]:Array UInt8 }:ByteArray })] fun y1 =>
   .br (decide ((↑y1.n:Int) > (2:Int))) (
    .ret [qv3 ((false),nilS,(((0:Int)):Int),()),.bool (false)]) <|
 .br (decide ((↑(x0.extract (Int.toNat (1:Int)) (↑x0.size:Int).toNat).size:Int) > (100:Int))) (
    .ret [qv3 ((false),nilS,(((0:Int)):Int),()),.bool (false)]) <|
 .br ((↑y1.n:Int) == (2:Int)) (
    .el y1.1 (y1.n) ((1:Int)) fun y2 =>
    .ql9 (y2.add (Int.toNat (1:Int)*(1:Nat))) fun y3 =>
    .qc10 52 [Sc.val .l y1,.string ({ data:={ toList:=[]:Array UInt8 }:ByteArray })] fun y4 =>
    .lp [.o (.o (.s))] [.v (.string y4)] fun y5 =>
    .br (decide ((↑(ByteArray.size y5.1):Int) > (1:Int))) (
     .rq ((0:Int)≤(0:Int)∧(0:Int)<(↑(ByteArray.size y5.1):Int)) <|
 .br (at0 y5.1 (Int.toNat (0:Int)) == (48:Int)) (
      .rq ((0:Int)≤(1:Int)∧(1:Int)≤(↑(ByteArray.size y5.1):Int)∧(↑(ByteArray.size y5.1):Int)≤(↑(ByteArray.size y5.1):Int)) <|
 .nx 0 [.v (.string (ByteArray.extract y5.1 (Int.toNat (1:Int)) (↑(ByteArray.size y5.1):Int).toNat))]) <|
 .qc18 231 [.string y5.1] fun y6 =>
     .qc31 94 [.bool (at0 x0 (Int.toNat (0:Int)) == (45:Int)),Sc.val .l y6.1] fun y7 =>
     .bn y6.2.1 (.ret [qv3 ((false),nilS,(((0:Int)):Int),()),.bool (false)]) <|
 .qc10 138 [qv3 (y7.1,y7.2.1,(((↑y3.size:Int)):Int),())] fun y8 =>
     .br (!y8.toList == x0.toList) (
      .ret [qv3 ((false),nilS,(((0:Int)):Int),()),.bool (false)]) <|
 .ret [qv3 (y7.1,y7.2.1,(((↑y3.size:Int)):Int),()),.bool (true)]) <|
 .qc18 231 [.string y5.1] fun y6 =>
    .qc31 94 [.bool (at0 x0 (Int.toNat (0:Int)) == (45:Int)),Sc.val .l y6.1] fun y7 =>
    .bn y6.2.1 (.ret [qv3 ((false),nilS,(((0:Int)):Int),()),.bool (false)]) <|
 .qc10 138 [qv3 (y7.1,y7.2.1,(((↑y3.size:Int)):Int),())] fun y8 =>
    .br (!y8.toList == x0.toList) (
     .ret [qv3 ((false),nilS,(((0:Int)):Int),()),.bool (false)]) <|
 .ret [qv3 (y7.1,y7.2.1,(((↑y3.size:Int)):Int),()),.bool (true)]) <|
 .qc10 52 [Sc.val .l y1,.string ({ data:={ toList:=[]:Array UInt8 }:ByteArray })] fun y2 =>
   .lp [.o (.o (.s))] [.v (.string y2)] fun y3 =>
   .br (decide ((↑(ByteArray.size y3.1):Int) > (1:Int))) (
    .rq ((0:Int)≤(0:Int)∧(0:Int)<(↑(ByteArray.size y3.1):Int)) <|
 .br (at0 y3.1 (Int.toNat (0:Int)) == (48:Int)) (
     .rq ((0:Int)≤(1:Int)∧(1:Int)≤(↑(ByteArray.size y3.1):Int)∧(↑(ByteArray.size y3.1):Int)≤(↑(ByteArray.size y3.1):Int)) <|
 .nx 0 [.v (.string (ByteArray.extract y3.1 (Int.toNat (1:Int)) (↑(ByteArray.size y3.1):Int).toNat))]) <|
 .qc18 231 [.string y3.1] fun y4 =>
    .qc31 94 [.bool (at0 x0 (Int.toNat (0:Int)) == (45:Int)),Sc.val .l y4.1] fun y5 =>
    .bn y4.2.1 (.ret [qv3 ((false),nilS,(((0:Int)):Int),()),.bool (false)]) <|
 .qc10 138 [qv3 (y5.1,y5.2.1,(((0:Int)):Int),())] fun y6 =>
    .br (!y6.toList == x0.toList) (
     .ret [qv3 ((false),nilS,(((0:Int)):Int),()),.bool (false)]) <|
 .ret [qv3 (y5.1,y5.2.1,(((0:Int)):Int),()),.bool (true)]) <|
 .qc18 231 [.string y3.1] fun y4 =>
   .qc31 94 [.bool (at0 x0 (Int.toNat (0:Int)) == (45:Int)),Sc.val .l y4.1] fun y5 =>
   .bn y4.2.1 (.ret [qv3 ((false),nilS,(((0:Int)):Int),()),.bool (false)]) <|
 .qc10 138 [qv3 (y5.1,y5.2.1,(((0:Int)):Int),())] fun y6 =>
   .br (!y6.toList == x0.toList) (
    .ret [qv3 ((false),nilS,(((0:Int)):Int),()),.bool (false)]) <|
 .ret [qv3 (y5.1,y5.2.1,(((0:Int)):Int),()),.bool (true)]) <|
 .qc22 169 [.string x0,.string ({ data:={ toList:=[(46:UInt8)]:Array UInt8 }:ByteArray })] fun y1 =>
  .br (decide ((↑y1.n:Int) > (2:Int))) (
   .ret [qv3 ((false),nilS,(((0:Int)):Int),()),.bool (false)]) <|
 .br (decide ((↑x0.size:Int) > (100:Int))) (
   .ret [qv3 ((false),nilS,(((0:Int)):Int),()),.bool (false)]) <|
 .br ((↑y1.n:Int) == (2:Int)) (
   .el y1.1 (y1.n) ((1:Int)) fun y2 =>
   .ql9 (y2.add (Int.toNat (1:Int)*(1:Nat))) fun y3 =>
   .qc10 52 [Sc.val .l y1,.string ({ data:={ toList:=[]:Array UInt8 }:ByteArray })] fun y4 =>
   .lp [.o (.o (.s))] [.v (.string y4)] fun y5 =>
   .br (decide ((↑(ByteArray.size y5.1):Int) > (1:Int))) (
    .rq ((0:Int)≤(0:Int)∧(0:Int)<(↑(ByteArray.size y5.1):Int)) <|
 .br (at0 y5.1 (Int.toNat (0:Int)) == (48:Int)) (
     .rq ((0:Int)≤(1:Int)∧(1:Int)≤(↑(ByteArray.size y5.1):Int)∧(↑(ByteArray.size y5.1):Int)≤(↑(ByteArray.size y5.1):Int)) <|
 .nx 0 [.v (.string (ByteArray.extract y5.1 (Int.toNat (1:Int)) (↑(ByteArray.size y5.1):Int).toNat))]) <|
 .qc18 231 [.string y5.1] fun y6 =>
    .qc31 94 [.bool (at0 x0 (Int.toNat (0:Int)) == (45:Int)),Sc.val .l y6.1] fun y7 =>
    .bn y6.2.1 (.ret [qv3 ((false),nilS,(((0:Int)):Int),()),.bool (false)]) <|
 .qc10 138 [qv3 (y7.1,y7.2.1,(((↑y3.size:Int)):Int),())] fun y8 =>
    .br (!y8.toList == x0.toList) (
     .ret [qv3 ((false),nilS,(((0:Int)):Int),()),.bool (false)]) <|
 .ret [qv3 (y7.1,y7.2.1,(((↑y3.size:Int)):Int),()),.bool (true)]) <|
 .qc18 231 [.string y5.1] fun y6 =>
   .qc31 94 [.bool (at0 x0 (Int.toNat (0:Int)) == (45:Int)),Sc.val .l y6.1] fun y7 =>
   .bn y6.2.1 (.ret [qv3 ((false),nilS,(((0:Int)):Int),()),.bool (false)]) <|
 .qc10 138 [qv3 (y7.1,y7.2.1,(((↑y3.size:Int)):Int),())] fun y8 =>
   .br (!y8.toList == x0.toList) (
    .ret [qv3 ((false),nilS,(((0:Int)):Int),()),.bool (false)]) <|
 .ret [qv3 (y7.1,y7.2.1,(((↑y3.size:Int)):Int),()),.bool (true)]) <|
 .qc10 52 [Sc.val .l y1,.string ({ data:={ toList:=[]:Array UInt8 }:ByteArray })] fun y2 =>
  .lp [.o (.o (.s))] [.v (.string y2)] fun y3 =>
  .br (decide ((↑(ByteArray.size y3.1):Int) > (1:Int))) (
   .rq ((0:Int)≤(0:Int)∧(0:Int)<(↑(ByteArray.size y3.1):Int)) <|
 .br (at0 y3.1 (Int.toNat (0:Int)) == (48:Int)) (
    .rq ((0:Int)≤(1:Int)∧(1:Int)≤(↑(ByteArray.size y3.1):Int)∧(↑(ByteArray.size y3.1):Int)≤(↑(ByteArray.size y3.1):Int)) <|
 .nx 0 [.v (.string (ByteArray.extract y3.1 (Int.toNat (1:Int)) (↑(ByteArray.size y3.1):Int).toNat))]) <|
 .qc18 231 [.string y3.1] fun y4 =>
   .qc31 94 [.bool (at0 x0 (Int.toNat (0:Int)) == (45:Int)),Sc.val .l y4.1] fun y5 =>
   .bn y4.2.1 (.ret [qv3 ((false),nilS,(((0:Int)):Int),()),.bool (false)]) <|
 .qc10 138 [qv3 (y5.1,y5.2.1,(((0:Int)):Int),())] fun y6 =>
   .br (!y6.toList == x0.toList) (
    .ret [qv3 ((false),nilS,(((0:Int)):Int),()),.bool (false)]) <|
 .ret [qv3 (y5.1,y5.2.1,(((0:Int)):Int),()),.bool (true)]) <|
 .qc18 231 [.string y3.1] fun y4 =>
  .qc31 94 [.bool (at0 x0 (Int.toNat (0:Int)) == (45:Int)),Sc.val .l y4.1] fun y5 =>
  .bn y4.2.1 (.ret [qv3 ((false),nilS,(((0:Int)):Int),()),.bool (false)]) <|
 .qc10 138 [qv3 (y5.1,y5.2.1,(((0:Int)):Int),())] fun y6 =>
  .br (!y6.toList == x0.toList) (
   .ret [qv3 ((false),nilS,(((0:Int)):Int),()),.bool (false)]) <|
 .ret [qv3 (y5.1,y5.2.1,(((0:Int)):Int),()),.bool (true)]) <|
 .qc22 169 [.string x0,.string ({ data:={ toList:=[(46:UInt8)]:Array UInt8 }:ByteArray })] fun y1 =>
 .br (decide ((↑y1.n:Int) > (2:Int))) (
  .ret [qv3 ((false),nilS,(((0:Int)):Int),()),.bool (false)]) <|
 .br (decide ((↑x0.size:Int) > (100:Int))) (
  .ret [qv3 ((false),nilS,(((0:Int)):Int),()),.bool (false)]) <|
 .br ((↑y1.n:Int) == (2:Int)) (
  .el y1.1 (y1.n) ((1:Int)) fun y2 =>
  .ql9 (y2.add (Int.toNat (1:Int)*(1:Nat))) fun y3 =>
  .qc10 52 [Sc.val .l y1,.string ({ data:={ toList:=[]:Array UInt8 }:ByteArray })] fun y4 =>
  .lp [.o (.o (.s))] [.v (.string y4)] fun y5 =>
  .br (decide ((↑(ByteArray.size y5.1):Int) > (1:Int))) (
   .rq ((0:Int)≤(0:Int)∧(0:Int)<(↑(ByteArray.size y5.1):Int)) <|
 .br (at0 y5.1 (Int.toNat (0:Int)) == (48:Int)) (
    .rq ((0:Int)≤(1:Int)∧(1:Int)≤(↑(ByteArray.size y5.1):Int)∧(↑(ByteArray.size y5.1):Int)≤(↑(ByteArray.size y5.1):Int)) <|
 .nx 0 [.v (.string (ByteArray.extract y5.1 (Int.toNat (1:Int)) (↑(ByteArray.size y5.1):Int).toNat))]) <|
 .qc18 231 [.string y5.1] fun y6 =>
   .qc31 94 [.bool (false),Sc.val .l y6.1] fun y7 =>
   .bn y6.2.1 (.ret [qv3 ((false),nilS,(((0:Int)):Int),()),.bool (false)]) <|
 .qc10 138 [qv3 (y7.1,y7.2.1,(((↑y3.size:Int)):Int),())] fun y8 =>
   .br (!y8.toList == x0.toList) (
    .ret [qv3 ((false),nilS,(((0:Int)):Int),()),.bool (false)]) <|
 .ret [qv3 (y7.1,y7.2.1,(((↑y3.size:Int)):Int),()),.bool (true)]) <|
 .qc18 231 [.string y5.1] fun y6 =>
  .qc31 94 [.bool (false),Sc.val .l y6.1] fun y7 =>
  .bn y6.2.1 (.ret [qv3 ((false),nilS,(((0:Int)):Int),()),.bool (false)]) <|
 .qc10 138 [qv3 (y7.1,y7.2.1,(((↑y3.size:Int)):Int),())] fun y8 =>
  .br (!y8.toList == x0.toList) (
   .ret [qv3 ((false),nilS,(((0:Int)):Int),()),.bool (false)]) <|
 .ret [qv3 (y7.1,y7.2.1,(((↑y3.size:Int)):Int),()),.bool (true)]) <|
 .qc10 52 [Sc.val .l y1,.string ({ data:={ toList:=[]:Array UInt8 }:ByteArray })] fun y2 =>
 .lp [.o (.o (.s))] [.v (.string y2)] fun y3 =>
 .br (decide ((↑(ByteArray.size y3.1):Int) > (1:Int))) (
  .rq ((0:Int)≤(0:Int)∧(0:Int)<(↑(ByteArray.size y3.1):Int)) <|
 .br (at0 y3.1 (Int.toNat (0:Int)) == (48:Int)) (
   .rq ((0:Int)≤(1:Int)∧(1:Int)≤(↑(ByteArray.size y3.1):Int)∧(↑(ByteArray.size y3.1):Int)≤(↑(ByteArray.size y3.1):Int)) <|
 .nx 0 [.v (.string (ByteArray.extract y3.1 (Int.toNat (1:Int)) (↑(ByteArray.size y3.1):Int).toNat))]) <|
 .qc18 231 [.string y3.1] fun y4 =>
  .qc31 94 [.bool (false),Sc.val .l y4.1] fun y5 =>
  .bn y4.2.1 (.ret [qv3 ((false),nilS,(((0:Int)):Int),()),.bool (false)]) <|
 .qc10 138 [qv3 (y5.1,y5.2.1,(((0:Int)):Int),())] fun y6 =>
  .br (!y6.toList == x0.toList) (
   .ret [qv3 ((false),nilS,(((0:Int)):Int),()),.bool (false)]) <|
 .ret [qv3 (y5.1,y5.2.1,(((0:Int)):Int),()),.bool (true)]) <|
 .qc18 231 [.string y3.1] fun y4 =>
 .qc31 94 [.bool (false),Sc.val .l y4.1] fun y5 =>
 .bn y4.2.1 (.ret [qv3 ((false),nilS,(((0:Int)):Int),()),.bool (false)]) <|
 .qc10 138 [qv3 (y5.1,y5.2.1,(((0:Int)):Int),())] fun y6 =>
 .br (!y6.toList == x0.toList) (
  .ret [qv3 ((false),nilS,(((0:Int)):Int),()),.bool (false)]) <|
 .ret [qv3 (y5.1,y5.2.1,(((0:Int)):Int),()),.bool (true)]
theorem fI_TextDec x0:qft aI_TextDec 221 [.string x0] (tI_TextDec x0) :=fitK (by kernel_rfl)
def tI_intAdd (x0:qy1) (x1:qy1):T :=
 .br (x0.1 == x1.1) (
  .rg <|
 .qc3 234 [Sc.val .l x0.2.1,Sc.val .l x1.2.1] fun y1 =>
  .qc31 94 [.bool x0.1,Sc.val .l y1] fun y2 =>
  .ret [qv1 y2]) <|
 .qc4 198 [Sc.val .l x0.2.1,Sc.val .l x1.2.1] fun y1 =>
 .br (decide (y1<(0:Int))) (
  .rg <|
 .qc3 235 [Sc.val .l x1.2.1,Sc.val .l x0.2.1] fun y2 =>
  .qc31 94 [.bool x1.1,Sc.val .l y2] fun y3 =>
  .ret [qv1 y3]) <|
 .rg <|
 .qc3 235 [Sc.val .l x0.2.1,Sc.val .l x1.2.1] fun y2 =>
 .qc31 94 [.bool x0.1,Sc.val .l y2] fun y3 =>
 .ret [qv1 y3]
theorem fI_intAdd x0 x1:qft qa0 225 [qv1 x0,qv1 x1] (tI_intAdd x0 x1) :=fitK (by kernel_rfl)
def aI_TextNat:An:=⟨[(5,[.s 4,.s 5],[.a 3,.o (.o (.i .i64))]),(9,[.s 6,.s 42],[.o (.o (.i .i64)),.o (.o (.i .i64))])],[],[]⟩
def tI_TextNat (x0:ByteArray):T :=
 .qc6 243 [.string x0] fun y1 =>
 .bn y1 (.ret [.slice none 0 0,.bool (false)]) <|
 .br (decide ((↑x0.size:Int) > (450:Int))) (
  .ret [.slice none 0 0,.bool (false)]) <|
 .rq ((0:Int)≤(0:Int)∧(0:Int)<(↑x0.size:Int)) <|
 .br (at0 x0 (Int.toNat (0:Int)) == (48:Int)) (
  .br (decide ((↑x0.size:Int) > (1:Int))) (
   .ret [.slice none 0 0,.bool (false)]) <|
 .lp [.a 3,.o (.o (.i .i64))] [.a 3 ((0:Nat)) [],.v (.int .i64 ((↑x0.size:Int)))] fun y2 =>
  .br (decide (y2.2.1 > (0:Int))) (
   .rq (((0:Int)≤if IntKind.i64.wrap (y2.2.1-(9:Int)) > (0:Int) then IntKind.i64.wrap (y2.2.1-(9:Int)) else (0:Int))∧(if IntKind.i64.wrap (y2.2.1-(9:Int)) > (0:Int) then IntKind.i64.wrap (y2.2.1-(9:Int)) else (0:Int))≤y2.2.1∧y2.2.1≤(↑x0.size:Int)) <|
 .mo (.cv 9 22 (.string (x0.extract (if IntKind.i64.wrap (y2.2.1-(9:Int)) > (0:Int) then IntKind.i64.wrap (y2.2.1-(9:Int)) else (0:Int)).toNat (Int.toNat y2.2.1)))) (.v (.o (.l))) fun y3 =>
   .lp [.o (.o (.i .i64)),.o (.o (.i .i64))] [.v (.int .i64 0),.v (.int .i64 0)] fun y4 =>
   .br (decide (y4.2.1<(↑y3.n:Int))) (
    .el y3.1 (y3.n) y4.2.1 fun y5 =>
    .ql15 (y5.add (Int.toNat y4.2.1*(1:Nat))) fun y6 =>
    .nx 1 [.v (.int .i64 (IntKind.i64.wrap (IntKind.i64.wrap ((10:Int)*y4.1)+IntKind.i64.wrap (IntKind.u8.wrap (y6-(48:Int)))))),.v (.int .i64 (IntKind.i64.wrap (y4.2.1+(1:Int))))]) <|
 .rq ([Value.int IntKind.i64 y4.1].length=(1:Nat)*(1:Nat)) <|
 .rq (one [Value.int IntKind.i64 y4.1]=true∧(y2.1.1+(1:Nat))*(8:Nat)≤(140737488355328:Nat)∧y2.1.1+(1:Nat)≤(9223372036854775807:Nat)) <|
 .nx 0 [.a 3 (y2.1.1+(1:Nat)) (y2.1.2++[Value.int IntKind.i64 y4.1]),.v (.int .i64 (IntKind.i64.wrap (y2.2.1-(9:Int))))]) <|
 .fz y2.1.1 y2.1.2 3 fun b3 c3 =>
  .qc22 203 [.slice (some { block:=b3,off:=(0:Nat):Addr }) y2.1.1 (c3)] fun y4 =>
  .ret [Sc.val .l y4,.bool (true)]) <|
 .lp [.a 3,.o (.o (.i .i64))] [.a 3 ((0:Nat)) [],.v (.int .i64 ((↑x0.size:Int)))] fun y2 =>
 .br (decide (y2.2.1 > (0:Int))) (
  .rq (((0:Int)≤if IntKind.i64.wrap (y2.2.1-(9:Int)) > (0:Int) then IntKind.i64.wrap (y2.2.1-(9:Int)) else (0:Int))∧(if IntKind.i64.wrap (y2.2.1-(9:Int)) > (0:Int) then IntKind.i64.wrap (y2.2.1-(9:Int)) else (0:Int))≤y2.2.1∧y2.2.1≤(↑x0.size:Int)) <|
 .mo (.cv 9 22 (.string (x0.extract (if IntKind.i64.wrap (y2.2.1-(9:Int)) > (0:Int) then IntKind.i64.wrap (y2.2.1-(9:Int)) else (0:Int)).toNat (Int.toNat y2.2.1)))) (.v (.o (.l))) fun y3 =>
  .lp [.o (.o (.i .i64)),.o (.o (.i .i64))] [.v (.int .i64 0),.v (.int .i64 0)] fun y4 =>
  .br (decide (y4.2.1<(↑y3.n:Int))) (
   .el y3.1 (y3.n) y4.2.1 fun y5 =>
   .ql15 (y5.add (Int.toNat y4.2.1*(1:Nat))) fun y6 =>
   .nx 1 [.v (.int .i64 (IntKind.i64.wrap (IntKind.i64.wrap ((10:Int)*y4.1)+IntKind.i64.wrap (IntKind.u8.wrap (y6-(48:Int)))))),.v (.int .i64 (IntKind.i64.wrap (y4.2.1+(1:Int))))]) <|
 .rq ([Value.int IntKind.i64 y4.1].length=(1:Nat)*(1:Nat)) <|
 .rq (one [Value.int IntKind.i64 y4.1]=true∧(y2.1.1+(1:Nat))*(8:Nat)≤(140737488355328:Nat)∧y2.1.1+(1:Nat)≤(9223372036854775807:Nat)) <|
 .nx 0 [.a 3 (y2.1.1+(1:Nat)) (y2.1.2++[Value.int IntKind.i64 y4.1]),.v (.int .i64 (IntKind.i64.wrap (y2.2.1-(9:Int))))]) <|
 .fz y2.1.1 y2.1.2 3 fun b3 c3 =>
 .qc22 203 [.slice (some { block:=b3,off:=(0:Nat):Addr }) y2.1.1 (c3)] fun y4 =>
 .ret [Sc.val .l y4,.bool (true)]
theorem fI_TextNat x0:qft aI_TextNat 231 [.string x0] (tI_TextNat x0) :=fitK (by kernel_rfl)
def aI_natAdd:An:=⟨[(4,[.s 5,.s 6,.s 7],[.a 3,.o (.o (.i .i64)),.o (.o (.i .i64))])],[],[]⟩
def tI_natAdd (x0:SlV) (x1:SlV):T :=
 .rq ((0:Int)≤(0:Int)∧(0:Int)≤IntKind.i64.wrap ((if (↑x1.n:Int) > (↑x0.n:Int) then (↑x1.n:Int) else (↑x0.n:Int))+(1:Int))∧(↑(8:Nat):Int)*IntKind.i64.wrap ((if (↑x1.n:Int) > (↑x0.n:Int) then (↑x1.n:Int) else (↑x0.n:Int))+(1:Int))≤(281474976710656:Int)∧IntKind.i64.wrap ((if (↑x1.n:Int) > (↑x0.n:Int) then (↑x1.n:Int) else (↑x0.n:Int))+(1:Int))≤(9223372036854775807:Int)) <|
 .lp [.a 3,.o (.o (.i .i64)),.o (.o (.i .i64))] [.a 3 (Int.toNat (0:Int)) [],.v (.int .i64 0),.v (.int .i64 0)] fun y1 =>
 .br (decide (y1.2.2.1<if (↑x1.n:Int) > (↑x0.n:Int) then (↑x1.n:Int) else (↑x0.n:Int))) (
  .br (decide (y1.2.2.1<(↑x0.n:Int))) (
   .el x0.1 (x0.n) y1.2.2.1 fun y2 =>
   .ql23 (y2.add (Int.toNat y1.2.2.1*(1:Nat))) fun y3 =>
   .br (decide (y1.2.2.1<(↑x1.n:Int))) (
    .el x1.1 (x1.n) y1.2.2.1 fun y4 =>
    .ql23 (y4.add (Int.toNat y1.2.2.1*(1:Nat))) fun y5 =>
    .rq ((1000000000:Int)≠(0:Int)) <|
 .rq ([Value.int IntKind.i64 ((IntKind.i64.wrap (IntKind.i64.wrap (y1.2.1+y3)+y5)).tmod (1000000000:Int))].length=(1:Nat)*(1:Nat)) <|
 .rq (one [Value.int IntKind.i64 ((IntKind.i64.wrap (IntKind.i64.wrap (y1.2.1+y3)+y5)).tmod (1000000000:Int))]=true∧(y1.1.1+(1:Nat))*(8:Nat)≤(140737488355328:Nat)∧y1.1.1+(1:Nat)≤(9223372036854775807:Nat)) <|
 .rq ((1000000000:Int)≠(0:Int)) <|
 .nx 0 [.a 3 (y1.1.1+(1:Nat)) (y1.1.2++[Value.int IntKind.i64 ((IntKind.i64.wrap (IntKind.i64.wrap (y1.2.1+y3)+y5)).tmod (1000000000:Int))]),.v (.int .i64 (IntKind.i64.wrap ((IntKind.i64.wrap (IntKind.i64.wrap (y1.2.1+y3)+y5)).tdiv (1000000000:Int)))),.v (.int .i64 (IntKind.i64.wrap (y1.2.2.1+(1:Int))))]) <|
 .rq ((1000000000:Int)≠(0:Int)) <|
 .rq ([Value.int IntKind.i64 ((IntKind.i64.wrap (y1.2.1+y3)).tmod (1000000000:Int))].length=(1:Nat)*(1:Nat)) <|
 .rq (one [Value.int IntKind.i64 ((IntKind.i64.wrap (y1.2.1+y3)).tmod (1000000000:Int))]=true∧(y1.1.1+(1:Nat))*(8:Nat)≤(140737488355328:Nat)∧y1.1.1+(1:Nat)≤(9223372036854775807:Nat)) <|
 .rq ((1000000000:Int)≠(0:Int)) <|
 .nx 0 [.a 3 (y1.1.1+(1:Nat)) (y1.1.2++[Value.int IntKind.i64 ((IntKind.i64.wrap (y1.2.1+y3)).tmod (1000000000:Int))]),.v (.int .i64 (IntKind.i64.wrap ((IntKind.i64.wrap (y1.2.1+y3)).tdiv (1000000000:Int)))),.v (.int .i64 (IntKind.i64.wrap (y1.2.2.1+(1:Int))))]) <|
 .br (decide (y1.2.2.1<(↑x1.n:Int))) (
   .el x1.1 (x1.n) y1.2.2.1 fun y2 =>
   .ql23 (y2.add (Int.toNat y1.2.2.1*(1:Nat))) fun y3 =>
   .rq ((1000000000:Int)≠(0:Int)) <|
 .rq ([Value.int IntKind.i64 ((IntKind.i64.wrap (y1.2.1+y3)).tmod (1000000000:Int))].length=(1:Nat)*(1:Nat)) <|
 .rq (one [Value.int IntKind.i64 ((IntKind.i64.wrap (y1.2.1+y3)).tmod (1000000000:Int))]=true∧(y1.1.1+(1:Nat))*(8:Nat)≤(140737488355328:Nat)∧y1.1.1+(1:Nat)≤(9223372036854775807:Nat)) <|
 .rq ((1000000000:Int)≠(0:Int)) <|
 .nx 0 [.a 3 (y1.1.1+(1:Nat)) (y1.1.2++[Value.int IntKind.i64 ((IntKind.i64.wrap (y1.2.1+y3)).tmod (1000000000:Int))]),.v (.int .i64 (IntKind.i64.wrap ((IntKind.i64.wrap (y1.2.1+y3)).tdiv (1000000000:Int)))),.v (.int .i64 (IntKind.i64.wrap (y1.2.2.1+(1:Int))))]) <|
 .rq ((1000000000:Int)≠(0:Int)) <|
 .rq ([Value.int IntKind.i64 (Int.tmod y1.2.1 (1000000000:Int))].length=(1:Nat)*(1:Nat)) <|
 .rq (one [Value.int IntKind.i64 (Int.tmod y1.2.1 (1000000000:Int))]=true∧(y1.1.1+(1:Nat))*(8:Nat)≤(140737488355328:Nat)∧y1.1.1+(1:Nat)≤(9223372036854775807:Nat)) <|
 .rq ((1000000000:Int)≠(0:Int)) <|
 .nx 0 [.a 3 (y1.1.1+(1:Nat)) (y1.1.2++[Value.int IntKind.i64 (Int.tmod y1.2.1 (1000000000:Int))]),.v (.int .i64 (IntKind.i64.wrap (Int.tdiv y1.2.1 (1000000000:Int)))),.v (.int .i64 (IntKind.i64.wrap (y1.2.2.1+(1:Int))))]) <|
 .rq ([Value.int IntKind.i64 y1.2.1].length=(1:Nat)*(1:Nat)) <|
 .rq (one [Value.int IntKind.i64 y1.2.1]=true∧(y1.1.1+(1:Nat))*(8:Nat)≤(140737488355328:Nat)∧y1.1.1+(1:Nat)≤(9223372036854775807:Nat)) <|
 .fz (y1.1.1+(1:Nat)) (y1.1.2++[Value.int IntKind.i64 y1.2.1]) 3 fun b2 c2 =>
 .qc22 203 [.slice (some { block:=b2,off:=(0:Nat):Addr }) (y1.1.1+(1:Nat)) (c2)] fun y3 =>
 .ret [Sc.val .l y3]
theorem fI_natAdd x0 x1:qft aI_natAdd 234 [Sc.val .l x0,Sc.val .l x1] (tI_natAdd x0 x1) :=fitK (by kernel_rfl)
def aI_natSub:An:=⟨[(4,[.s 5,.s 6,.s 14],[.a 3,.o (.o (.i .i64)),.o (.o (.i .i64))])],[],[]⟩
def tI_natSub (x0:SlV) (x1:SlV):T :=
 .rq ((0:Int)≤(↑x0.n:Int)∧(↑x0.n:Int)≤(↑x0.n:Int)∧(↑(8:Nat):Int)*(↑x0.n:Int)≤(281474976710656:Int)∧(↑x0.n:Int)≤(9223372036854775807:Int)) <|
 .lp [.a 3,.o (.o (.i .i64)),.o (.o (.i .i64))] [.a 3 ((↑x0.n:Int).toNat) ((madeCells { toList:=[Value.int IntKind.i64 (0:Int)]:Array Value } ((↑x0.n:Int).toNat*(1:Nat))).toList),.v (.int .i64 0),.v (.int .i64 0)] fun y1 =>
 .br (decide (y1.2.2.1<(↑x0.n:Int))) (
  .el x0.1 (x0.n) y1.2.2.1 fun y2 =>
  .ql23 (y2.add (Int.toNat y1.2.2.1*(1:Nat))) fun y3 =>
  .br (decide (y1.2.2.1<(↑x1.n:Int))) (
   .el x1.1 (x1.n) y1.2.2.1 fun y4 =>
   .ql23 (y4.add (Int.toNat y1.2.2.1*(1:Nat))) fun y5 =>
   .br (decide (IntKind.i64.wrap (IntKind.i64.wrap (y3-y1.2.1)-y5)<(0:Int))) (
    .rq ((0:Int)≤y1.2.2.1∧y1.2.2.1<(↑y1.1.1:Int)) <|
 .rq (Int.toNat y1.2.2.1*(1:Nat)+[Value.int IntKind.i64 (IntKind.i64.wrap (IntKind.i64.wrap (IntKind.i64.wrap (y3-y1.2.1)-y5)+(1000000000:Int)))].length≤y1.1.2.length) <|
 .nx 0 [.a 3 y1.1.1 (setl y1.1.2 (Int.toNat y1.2.2.1*(1:Nat)) [Value.int IntKind.i64 (IntKind.i64.wrap (IntKind.i64.wrap (IntKind.i64.wrap (y3-y1.2.1)-y5)+(1000000000:Int)))]),.v (.int .i64 1),.v (.int .i64 (IntKind.i64.wrap (y1.2.2.1+(1:Int))))]) <|
 .rq ((0:Int)≤y1.2.2.1∧y1.2.2.1<(↑y1.1.1:Int)) <|
 .rq (Int.toNat y1.2.2.1*(1:Nat)+[Value.int IntKind.i64 (IntKind.i64.wrap (IntKind.i64.wrap (y3-y1.2.1)-y5))].length≤y1.1.2.length) <|
 .nx 0 [.a 3 y1.1.1 (setl y1.1.2 (Int.toNat y1.2.2.1*(1:Nat)) [Value.int IntKind.i64 (IntKind.i64.wrap (IntKind.i64.wrap (y3-y1.2.1)-y5))]),.v (.int .i64 0),.v (.int .i64 (IntKind.i64.wrap (y1.2.2.1+(1:Int))))]) <|
 .br (decide (IntKind.i64.wrap (y3-y1.2.1)<(0:Int))) (
   .rq ((0:Int)≤y1.2.2.1∧y1.2.2.1<(↑y1.1.1:Int)) <|
 .rq (Int.toNat y1.2.2.1*(1:Nat)+[Value.int IntKind.i64 (IntKind.i64.wrap (IntKind.i64.wrap (y3-y1.2.1)+(1000000000:Int)))].length≤y1.1.2.length) <|
 .nx 0 [.a 3 y1.1.1 (setl y1.1.2 (Int.toNat y1.2.2.1*(1:Nat)) [Value.int IntKind.i64 (IntKind.i64.wrap (IntKind.i64.wrap (y3-y1.2.1)+(1000000000:Int)))]),.v (.int .i64 1),.v (.int .i64 (IntKind.i64.wrap (y1.2.2.1+(1:Int))))]) <|
 .rq ((0:Int)≤y1.2.2.1∧y1.2.2.1<(↑y1.1.1:Int)) <|
 .rq (Int.toNat y1.2.2.1*(1:Nat)+[Value.int IntKind.i64 (IntKind.i64.wrap (y3-y1.2.1))].length≤y1.1.2.length) <|
 .nx 0 [.a 3 y1.1.1 (setl y1.1.2 (Int.toNat y1.2.2.1*(1:Nat)) [Value.int IntKind.i64 (IntKind.i64.wrap (y3-y1.2.1))]),.v (.int .i64 0),.v (.int .i64 (IntKind.i64.wrap (y1.2.2.1+(1:Int))))]) <|
 .fz y1.1.1 y1.1.2 3 fun b2 c2 =>
 .qc22 203 [.slice (some { block:=b2,off:=(0:Nat):Addr }) y1.1.1 (c2)] fun y3 =>
 .ret [Sc.val .l y3]
theorem fI_natSub x0 x1:qft aI_natSub 235 [Sc.val .l x0,Sc.val .l x1] (tI_natSub x0 x1) :=fitK (by kernel_rfl)
def aI_IsDigits:An:=⟨[(2,[.s 3],[.o (.o (.i .i64))])],[],[]⟩
def tI_IsDigits (x0:ByteArray):T :=
 .lp [.o (.o (.i .i64))] [.v (.int .i64 0)] fun y1 =>
 .br (decide (y1.1<(↑x0.size:Int))) (
  .rq ((0:Int)≤y1.1∧y1.1<(↑x0.size:Int)) <|
 .qc6 117 [.int .u8 (at0 x0 (Int.toNat y1.1))] fun y2 =>
  .bF y2 <|
 .nx 0 [.v (.int .i64 (IntKind.i64.wrap (y1.1+(1:Int))))]) <|
 .ret [.bool (!x0.toList == { data:={ toList:=[]:Array UInt8 }:ByteArray }.toList)]
theorem fI_IsDigits x0:qft aI_IsDigits 243 [.string x0] (tI_IsDigits x0) :=fitK (by kernel_rfl)
def tI_opOpen__run (x0:ByteArray × ByteArray × PUnit) (x1:qy0):T :=
 .qc6 73 [.string x0.1] fun y1 =>
 .bn y1 (.ret [qv0 (nilS,nilS,({ data:={ toList:=[]:Array UInt8 }:ByteArray }),nilS,()),.int .i64 1]) <|
 .qc6 14 [.string x0.2.1] fun y2 =>
 .bn y2 (.ret [qv0 (nilS,nilS,({ data:={ toList:=[]:Array UInt8 }:ByteArray }),nilS,()),.int .i64 2]) <|
 .qc4 280 [qv4 (x1.1,()),.string x0.1] fun y3 =>
 .br (decide (y3≥(0:Int))) (
  .ret [qv0 (nilS,nilS,({ data:={ toList:=[]:Array UInt8 }:ByteArray }),nilS,()),.int .i64 4]) <|
 .qc25 281 [qv4 (x1.1,()),.string x0.1,.string x0.2.1] fun y4 =>
 .bn y4.2.1 (.ret [qv0 (nilS,nilS,({ data:={ toList:=[]:Array UInt8 }:ByteArray }),nilS,()),.int .i64 9]) <|
 .ret [qv0 (y4.1.1,x1.2.1,x1.2.2.1,x1.2.2.2.1,()),.int .i64 0]
theorem fI_opOpen__run x0 x1:qft qa0 279 [qv9 x0,qv0 x1] (tI_opOpen__run x0 x1) :=fitK (by kernel_rfl)
def tI_AcctAt (x0:qy3) (x1:ByteArray):T :=
 .es [.string x1] 9 fun b1 =>
 .qc4 282 [Sc.val .l x0.1,(Value.func (Fn.func (283:Nat)) { toList:=[]:Array Value } { toList:=[Value.pointer (some { block:=b1,off:=(0:Nat):Addr })]:Array Value })] fun y2 =>
 .ret [.int .i64 y2]
theorem fI_AcctAt x0 x1:qft qa0 280 [qv4 x0,.string x1] (tI_AcctAt x0 x1) :=fitK (by kernel_rfl)
def tI_BookOpen (x0:qy3) (x1:ByteArray) (x2:ByteArray):T :=
 .qc6 32 [qv4 x0] fun y1 =>
 .bn y1 (.ret [qv4 (nilS,()),.bool (false)]) <|
 .qc4 280 [qv4 x0,.string x1] fun y2 =>
 .br (decide (y2≥(0:Int))) (
  .ret [qv4 (nilS,()),.bool (false)]) <|
 .es [.string x1] 9 fun b3 =>
 .es [.string x2] 9 fun b4 =>
 .qc25 284 [qv4 x0,(Value.func (Fn.func (285:Nat)) { toList:=[]:Array Value } { toList:=[Value.pointer (some { block:=b3,off:=(0:Nat):Addr }),Value.pointer (some { block:=b4,off:=(0:Nat):Addr })]:Array Value })] fun y5 =>
 .ret [qv4 y5.1,.bool y5.2.1]
theorem fI_BookOpen x0 x1 x2:qft qa0 281 [qv4 x0,.string x1,.string x2] (tI_BookOpen x0 x1 x2) :=fitK (by kernel_rfl)
def aX_IndexFunc_Acct:An:=⟨[(2,[.s 8],[.o (.o (.i .i64))])],[],[]⟩
def tX_IndexFunc_Acct (x0:SlV) (x1:Nat × Addr):T :=
 .lp [.o (.o (.i .i64))] [.v (.int .i64 0)] fun y1 =>
 .br (decide (y1.1<(↑x0.n:Int))) (
  .el x0.1 (x0.n) y1.1 fun y2 =>
  .ql12 (y2.add (Int.toNat y1.1*(4:Nat))) fun y3 =>
  .call false x1.1 [qv11 y3,.pointer (some x1.2)] (.v (.o (.b))) fun y4 =>
  .br y4 (
   .ret [.int .i64 y1.1]) <|
 .nx 0 [.v (.int .i64 (IntKind.i64.wrap (y1.1+(1:Int))))]) <|
 .rM
theorem fX_IndexFunc_Acct x0 x1:qft aX_IndexFunc_Acct 282 [Sc.val .l x0,(Value.func (Fn.func x1.1) { toList:=[]:Array Value } { toList:=[Value.pointer (some x1.2)]:Array Value })] (tX_IndexFunc_Acct x0 x1) :=fitK (by kernel_rfl)
def tI_AcctAt_1 (x0:qy9) (x1:Addr):T :=
 .ld false x1 (.o (.s)) fun y1 =>
 .ret [.bool (ByteArray.toList x0.1 == y1.toList)]
theorem fI_AcctAt_1 x0 x1:qft qa0 283 [qv11 x0,.pointer (some x1)] (tI_AcctAt_1 x0 x1) :=fitK (by kernel_rfl)
def tI_changed (x0:qy3) (x1:{ y // one [y]=true }):T :=
 .qc16 78 [qv4 x0] fun y1 =>
 .es [.int .i32 ((0:Int)),.int .u32 ((0:Int)),Sc.val .l y1.1] 335 fun b2 =>
 .qc6 287 [.pointer (some { block:=b2,off:=(0:Nat):Addr }),x1.1] fun y3 =>
 .bn y3 (.ret [qv4 (nilS,()),.bool (false)]) <|
 .ql61 ({ block:=b2,off:=(0:Nat):Addr }.add (2:Nat)) fun y4 =>
 .ret [qv4 y4,.bool (true)]
theorem fI_changed x0 x1:qft qa0 284 [qv4 x0,x1.1] (tI_changed x0 x1) :=fitK (by kernel_rfl)
def aI_BookOpen_1:An:=⟨[(2,[.s 5],[.o (.o (.i .i64))])],[],[]⟩
def tI_BookOpen_1 (x0:Addr) (x1:Addr) (x2:Addr):T :=
 .lp [.o (.o (.i .i64))] [.v (.int .i64 0)] fun y1 =>
 .rg <|
 .ql40 (x0.add (0:Nat)) fun y2 =>
 .br (decide (y1.1<(↑y2.n:Int))) (
  .ql40 (x0.add (0:Nat)) fun y3 =>
  .el y3.1 (y3.n) y1.1 fun y4 =>
  .ql33 ((y4.add (Int.toNat y1.1*(4:Nat))).add (0:Nat)) fun y5 =>
  .ld true x1 (.o (.s)) fun y6 =>
  .br (Op.bytesLess y5.toList y6.toList) (
   .nx 0 [.v (.int .i64 (IntKind.i64.wrap (y1.1+(1:Int))))]) <|
 .rf <|
 .ql40 (x0.add (0:Nat)) fun y7 =>
  .ld true x1 (.o (.s)) fun y8 =>
  .ld true x2 (.o (.s)) fun y9 =>
  .es [.string y8,.string y9,.bool (false),.slice none 0 0] 76 fun b10 =>
  .qc22 286 [Sc.val .l y7,.int .i64 y1.1,.slice (some { block:=b10,off:=(0:Nat):Addr }) ((1:Nat)) ((1:Nat))] fun y11 =>
  .st (x0.add (0:Nat)) [Sc.val .l y11] <|
 .ld false x0 (.g [.l]) fun y12 =>
  .qc6 32 [qv4 y12] fun y13 =>
  .ret [.bool y13]) <|
 .rf <|
 .ql40 (x0.add (0:Nat)) fun y3 =>
 .ld true x1 (.o (.s)) fun y4 =>
 .ld true x2 (.o (.s)) fun y5 =>
 .es [.string y4,.string y5,.bool (false),.slice none 0 0] 76 fun b6 =>
 .qc22 286 [Sc.val .l y3,.int .i64 y1.1,.slice (some { block:=b6,off:=(0:Nat):Addr }) ((1:Nat)) ((1:Nat))] fun y7 =>
 .st (x0.add (0:Nat)) [Sc.val .l y7] <|
 .ld false x0 (.g [.l]) fun y8 =>
 .qc6 32 [qv4 y8] fun y9 =>
 .ret [.bool y9]
theorem fI_BookOpen_1 x0 x1 x2:qft aI_BookOpen_1 285 [.pointer (some x0),.pointer (some x1),.pointer (some x2)] (tI_BookOpen_1 x0 x1 x2) :=fitK (by kernel_rfl)
def tI_opAdd__run (x0:ByteArray × ByteArray × Bool × SlV × Bool × PUnit) (x1:qy0):T :=
 .qc6 73 [.string x0.1] fun y1 =>
 .bn y1 (.ret [qv0 (nilS,nilS,({ data:={ toList:=[]:Array UInt8 }:ByteArray }),nilS,()),.int .i64 1]) <|
 .qc6 133 [qv2 (x0.2.1,x0.2.2.1,x0.2.2.2.1,())] fun y2 =>
 .bn y2 (.ret [qv0 (nilS,nilS,({ data:={ toList:=[]:Array UInt8 }:ByteArray }),nilS,()),.int .i64 1]) <|
 .fz ((1:Nat)) [.string x0.1] 9 fun b3 c3 =>
 .qc4 312 [qv0 x1,.string x0.2.1,.slice (some { block:=b3,off:=(0:Nat):Addr }) ((1:Nat)) (c3)] fun y4 =>
 .br (y4 != (0:Int)) (
  .ret [qv0 (nilS,nilS,({ data:={ toList:=[]:Array UInt8 }:ByteArray }),nilS,()),.int .i64 y4]) <|
 .br x0.2.2.2.2.1 (
  .qc62 25 [qv2 (x0.2.1,x0.2.2.1,x0.2.2.2.1,())] fun y5 =>
  .fz ((1:Nat)) [.string x0.1,.string y5.1,.bool y5.2.1,Sc.val .l y5.2.2.1] 353 fun b6 c6 =>
  .qc37 313 [qv0 x1,.slice (some { block:=b6,off:=(0:Nat):Addr }) ((1:Nat)) (c6)] fun y7 =>
  .ret [qv0 y7.1,.int .i64 y7.2.1]) <|
 .fz ((1:Nat)) [.string x0.1,.string x0.2.1,.bool x0.2.2.1,Sc.val .l x0.2.2.2.1] 353 fun b5 c5 =>
 .qc37 313 [qv0 x1,.slice (some { block:=b5,off:=(0:Nat):Addr }) ((1:Nat)) (c5)] fun y6 =>
 .ret [qv0 y6.1,.int .i64 y6.2.1]
theorem fI_opAdd__run x0 x1:qft qa0 311 [qv10 x0,qv0 x1] (tI_opAdd__run x0 x1) :=fitK (by kernel_rfl)
def tI_fits (x0:qy0) (x1:ByteArray) (x2:SlV):T :=
 .qc4 314 [qv0 x0,Sc.val .l x2] fun y1 =>
 .br (y1 != (0:Int)) (
  .ret [.int .i64 y1]) <|
 .qc4 315 [qv0 x0,.string x1,Sc.val .l x2] fun y2 =>
 .ret [.int .i64 y2]
theorem fI_fits x0 x1 x2:qft qa0 312 [qv0 x0,.string x1,Sc.val .l x2] (tI_fits x0 x1 x2) :=fitK (by kernel_rfl)
def aI_post:An:=⟨[(2,[.s 12,.c 2 0,.c 2 1,.c 2 2,.c 2 3,.c 4 0,.c 4 1,.c 4 2,.c 4 3],[.o (.o (.i .i64)),.o (.o (.l)),.o (.o (.l)),.o (.o (.s)),.o (.o (.l)),.o (.o (.l)),.o (.o (.l)),.o (.o (.s)),.o (.o (.l))])],[],[]⟩
def tI_post (x0:qy0) (x1:SlV):T :=
 .lp [.o (.o (.i .i64)),.o (.o (.l)),.o (.o (.l)),.o (.o (.s)),.o (.o (.l)),.o (.o (.l)),.o (.o (.l)),.o (.o (.s)),.o (.o (.l))] [.v (.int .i64 0),.v (Sc.val .l x0.1),.v (Sc.val .l x0.2.1),.v (.string x0.2.2.1),.v (Sc.val .l x0.2.2.2.1),.v (.slice none 0 0),.v (.slice none 0 0),.v (.string ({ data:={ toList:=[]:Array UInt8 }:ByteArray })),.v (.slice none 0 0)] fun y1 =>
 .br (decide (y1.1<(↑x1.n:Int))) (
  .el x1.1 (x1.n) y1.1 fun y2 =>
  .ql12 (y2.add (Int.toNat y1.1*(4:Nat))) fun y3 =>
  .qc25 316 [qv4 (y1.2.1,()),.string y3.1,qv2 y3.2] fun y4 =>
  .bn y4.2.1 (.ret [qv0 (nilS,nilS,({ data:={ toList:=[]:Array UInt8 }:ByteArray }),nilS,()),.int .i64 8]) <|
 .nx 0 [.v (.int .i64 (IntKind.i64.wrap (y1.1+(1:Int)))),.v (Sc.val .l y4.1.1),.v (Sc.val .l y1.2.2.1),.v (.string y1.2.2.2.1),.v (Sc.val .l y1.2.2.2.2.1),.v (Sc.val .l y1.2.2.2.2.2.1),.v (Sc.val .l y1.2.2.2.2.2.2.1),.v (.string y1.2.2.2.2.2.2.2.1),.v (Sc.val .l y1.2.2.2.2.2.2.2.2.1)]) <|
 .ret [qv0 (y1.2.1,y1.2.2.1,y1.2.2.2.1,y1.2.2.2.2.1,()),.int .i64 0]
theorem fI_post x0 x1:qft aI_post 313 [qv0 x0,Sc.val .l x1] (tI_post x0 x1) :=fitK (by kernel_rfl)
def aI_haveAccts:An:=⟨[(2,[.s 9],[.o (.o (.i .i64))])],[],[]⟩
def tI_haveAccts (x0:qy0) (x1:SlV):T :=
 .lp [.o (.o (.i .i64))] [.v (.int .i64 0)] fun y1 =>
 .br (decide (y1.1<(↑x1.n:Int))) (
  .el x1.1 (x1.n) y1.1 fun y2 =>
  .ql9 (y2.add (Int.toNat y1.1*(1:Nat))) fun y3 =>
  .qc4 280 [qv4 (x0.1,()),.string y3] fun y4 =>
  .br (decide (y4<(0:Int))) (
   .ret [.int .i64 3]) <|
 .nx 0 [.v (.int .i64 (IntKind.i64.wrap (y1.1+(1:Int))))]) <|
 .ret [.int .i64 0]
theorem fI_haveAccts x0 x1:qft aI_haveAccts 314 [qv0 x0,Sc.val .l x1] (tI_haveAccts x0 x1) :=fitK (by kernel_rfl)
def aI_match:An:=⟨[(2,[.s 13],[.o (.o (.i .i64))])],[],[]⟩
def tI_match (x0:qy0) (x1:ByteArray) (x2:SlV):T :=
 .lp [.o (.o (.i .i64))] [.v (.int .i64 0)] fun y1 =>
 .br (decide (y1.1<(↑x2.n:Int))) (
  .el x2.1 (x2.n) y1.1 fun y2 =>
  .ql9 (y2.add (Int.toNat y1.1*(1:Nat))) fun y3 =>
  .qc43 317 [qv4 (x0.1,()),.string y3] fun y4 =>
  .br (!ByteArray.toList y4.1.1 == x1.toList) (
   .ret [.int .i64 5]) <|
 .nx 0 [.v (.int .i64 (IntKind.i64.wrap (y1.1+(1:Int))))]) <|
 .ret [.int .i64 0]
theorem fI_match x0 x1 x2:qft aI_match 315 [qv0 x0,.string x1,Sc.val .l x2] (tI_match x0 x1 x2) :=fitK (by kernel_rfl)
def tI_BookPost (x0:qy3) (x1:ByteArray) (x2:qy2):T :=
 .qc4 280 [qv4 x0,.string x1] fun y1 =>
 .qc6 32 [qv4 x0] fun y2 =>
 .bn y2 (.ret [qv4 (nilS,()),.bool (false)]) <|
 .br (decide (y1<(0:Int))) (
  .ret [qv4 (nilS,()),.bool (false)]) <|
 .es [.int .i64 y1] 3 fun b3 =>
 .es [.string x2.1,.bool x2.2.1,Sc.val .l x2.2.2.1] 72 fun b4 =>
 .qc25 284 [qv4 x0,(Value.func (Fn.func (318:Nat)) { toList:=[]:Array Value } { toList:=[Value.pointer (some { block:=b3,off:=(0:Nat):Addr }),Value.pointer (some { block:=b4,off:=(0:Nat):Addr })]:Array Value })] fun y5 =>
 .ret [qv4 y5.1,.bool y5.2.1]
theorem fI_BookPost x0 x1 x2:qft qa0 316 [qv4 x0,.string x1,qv2 x2] (tI_BookPost x0 x1 x2) :=fitK (by kernel_rfl)
def tI_BalanceOf (x0:qy3) (x1:ByteArray):T :=
 .qc4 280 [qv4 x0,.string x1] fun y1 =>
 .br (decide (y1<(0:Int))) (
  .ret [qv2 (({ data:={ toList:=[]:Array UInt8 }:ByteArray }),(false),nilS,()),.bool (false)]) <|
 .el x0.1.1 (x0.1.n) y1 fun y2 =>
 .ql39 ((y2.add (y1.toNat*(4:Nat))).add (1:Nat)) fun y3 =>
 .qc62 122 [qv2 y3] fun y4 =>
 .ret [qv2 y4,.bool (true)]
theorem fI_BalanceOf x0 x1:qft qa0 317 [qv4 x0,.string x1] (tI_BalanceOf x0 x1) :=fitK (by kernel_rfl)
def tI_BookPost_1 (x0:Addr) (x1:Addr) (x2:Addr):T :=
 .rf <|
 .ql40 (x0.add (0:Nat)) fun y1 =>
 .ld true x1 (.o (.i .i64)) fun y2 =>
 .el y1.1 (y1.n) y2 fun y3 =>
 .ql42 ((y3.add (y2.toNat*(4:Nat))).add (1:Nat)) fun y4 =>
 .ld true x2 (.g [.s,.b,.l]) fun y5 =>
 .qc43 319 [qv2 y4,qv2 y5] fun y6 =>
 .rg <|
 .ql40 (x0.add (0:Nat)) fun y7 =>
 .ld true x1 (.o (.i .i64)) fun y8 =>
 .el y7.1 (y7.n) y8 fun y9 =>
 .st ((y9.add (y8.toNat*(4:Nat))).add (1:Nat)) [.string y6.1.1,.bool y6.1.2.1,Sc.val .l y6.1.2.2.1] <|
 .ret [.bool y6.2.1]
theorem fI_BookPost_1 x0 x1 x2:qft qa0 318 [.pointer (some x0),.pointer (some x1),.pointer (some x2)] (tI_BookPost_1 x0 x1 x2) :=fitK (by kernel_rfl)
def tI_MoneyAdd (x0:qy2) (x1:qy2):T :=
 .qc6 320 [qv2 x0,qv2 x1] fun y1 =>
 .bn y1 (.ret [qv2 (({ data:={ toList:=[]:Array UInt8 }:ByteArray }),(false),nilS,()),.bool (false)]) <|
 .rg <|
 .qc24 225 [qv1 x0.2,qv1 x1.2] fun y2 =>
 .qc43 321 [.string x0.1,qv1 y2] fun y3 =>
 .ret [qv2 y3.1,.bool y3.2.1]
theorem fI_MoneyAdd x0 x1:qft qa0 319 [qv2 x0,qv2 x1] (tI_MoneyAdd x0 x1) :=fitK (by kernel_rfl)
def tI_alike (x0:qy2) (x1:qy2):T :=
 .qc6 74 [qv2 x0] fun y1 =>
 .br y1 (
  .qc6 74 [qv2 x1] fun y2 =>
  .br y2 (
   .ret [.bool (ByteArray.toList x0.1 == ByteArray.toList x1.1)]) <|
 .rF) <|
 .rF
theorem fI_alike x0 x1:qft qa0 320 [qv2 x0,qv2 x1] (tI_alike x0 x1) :=fitK (by kernel_rfl)
def tI_moneyOf (x0:ByteArray) (x1:qy1):T :=
 .qc6 74 [qv2 (x0,x1.1,x1.2.1,())] fun y1 =>
 .br y1 (
  .ret [qv2 (x0,x1.1,x1.2.1,()),.bool (true)]) <|
 .ret [qv2 (({ data:={ toList:=[]:Array UInt8 }:ByteArray }),(false),nilS,()),.bool (false)]
theorem fI_moneyOf x0 x1:qft qa0 321 [.string x0,qv1 x1] (tI_moneyOf x0 x1) :=fitK (by kernel_rfl)
def tI_opRate__run (x0:qy5) (x1:qy0):T :=
 .qc6 77 [qv6 x0] fun y1 =>
 .bn y1 (.ret [qv0 (nilS,nilS,({ data:={ toList:=[]:Array UInt8 }:ByteArray }),nilS,()),.int .i64 1]) <|
 .qc27 411 [qv7 x1.2.2,qv6 x0] fun y2 =>
 .bn y2.2.1 (.ret [qv0 (nilS,nilS,({ data:={ toList:=[]:Array UInt8 }:ByteArray }),nilS,()),.int .i64 9]) <|
 .ret [qv0 (x1.1,x1.2.1,y2.1.1,y2.1.2.1,()),.int .i64 0]
theorem fI_opRate__run x0 x1:qft qa0 410 [qv6 x0,qv0 x1] (tI_opRate__run x0 x1) :=fitK (by kernel_rfl)
def aI_RatePut:An:=⟨[(5,[.s 22,.c 4 0,.c 4 1,.c 6 0,.c 6 1],[.o (.o (.i .i64)),.o (.o (.s)),.o (.o (.l)),.o (.o (.s)),.o (.o (.l))])],[],[]⟩
def tI_RatePut (x0:qy7) (x1:qy5):T :=
 .qc6 34 [qv7 x0] fun y1 =>
 .bn y1 (.ret [qv7 (({ data:={ toList:=[]:Array UInt8 }:ByteArray }),nilS,()),.bool (false)]) <|
 .qc6 77 [qv6 x1] fun y2 =>
 .bn y2 (.ret [qv7 (({ data:={ toList:=[]:Array UInt8 }:ByteArray }),nilS,()),.bool (false)]) <|
 .qc17 80 [qv7 x0] fun y3 =>
 .lp [.o (.o (.i .i64)),.o (.o (.s)),.o (.o (.l)),.o (.o (.s)),.o (.o (.l))] [.v (.int .i64 0),.v (.string ({ data:={ toList:=[]:Array UInt8 }:ByteArray })),.v (.slice none 0 0),.v (.string y3.1),.v (Sc.val .l y3.2.1)] fun y4 =>
 .br (decide (y4.1<(↑y3.2.1.n:Int))) (
  .rg <|
 .el y4.2.2.2.2.1.1 (y4.2.2.2.2.1.n) y4.1 fun y5 =>
  .ql33 ((y5.add (Int.toNat y4.1*(5:Nat))).add (0:Nat)) fun y6 =>
  .br (y6.toList == ByteArray.toList x1.1) (
   .el y4.2.2.2.2.1.1 (y4.2.2.2.2.1.n) y4.1 fun y7 =>
   .ql33 ((y7.add (Int.toNat y4.1*(5:Nat))).add (1:Nat)) fun y8 =>
   .br (y8.toList == ByteArray.toList x1.2.1) (
    .rg <|
 .qc44 124 [qv6 x1] fun y9 =>
    .el y4.2.2.2.2.1.1 (y4.2.2.2.2.1.n) y4.1 fun y10 =>
    .st (y10.add (Int.toNat y4.1*(5:Nat))) [.string y9.1,.string y9.2.1,.bool y9.2.2.1,Sc.val .l y9.2.2.2.1,.int .i64 y9.2.2.2.2.1] <|
 .ret [qv7 y4.2.2.2,.bool (true)]) <|
 .nx 0 [.v (.int .i64 (IntKind.i64.wrap (y4.1+(1:Int)))),.v (.string y4.2.1),.v (Sc.val .l y4.2.2.1),.v (.string y4.2.2.2.1),.v (Sc.val .l y4.2.2.2.2.1)]) <|
 .nx 0 [.v (.int .i64 (IntKind.i64.wrap (y4.1+(1:Int)))),.v (.string y4.2.1),.v (Sc.val .l y4.2.2.1),.v (.string y4.2.2.2.1),.v (Sc.val .l y4.2.2.2.2.1)]) <|
 .rg <|
 .qc44 124 [qv6 x1] fun y5 =>
 .rq ([Value.string y5.1,Value.string y5.2.1,Value.bool y5.2.2.1,Value.slice y5.2.2.2.1.1 y5.2.2.2.1.n y5.2.2.2.1.c,Value.int IntKind.i64 y5.2.2.2.2.1].length=(1:Nat)*(5:Nat)) <|
 .rq (one [Value.string y5.1,Value.string y5.2.1,Value.bool y5.2.2.1,Value.slice y5.2.2.2.1.1 y5.2.2.2.1.n y5.2.2.2.1.c,Value.int IntKind.i64 y5.2.2.2.2.1]=true) <|
 .ap ({ a:=y4.2.2.2.2.1.1,n:=y4.2.2.2.2.1.n,c:=y4.2.2.2.2.1.c:SlV }) 5 72 [.string y5.1,.string y5.2.1,.bool y5.2.2.1,Sc.val .l y5.2.2.2.1,.int .i64 y5.2.2.2.2.1] ((1:Nat)) 57 fun y6 =>
 .qc6 34 [qv7 (y4.2.2.2.1,y6,())] fun y7 =>
 .bn y7 (.ret [qv7 (({ data:={ toList:=[]:Array UInt8 }:ByteArray }),nilS,()),.bool (false)]) <|
 .ret [qv7 (y4.2.2.2.1,y6,()),.bool (true)]
theorem fI_RatePut x0 x1:qft aI_RatePut 411 [qv7 x0,qv6 x1] (tI_RatePut x0 x1) :=fitK (by kernel_rfl)
def tI_perform_opOpen (x0:qy0) (x1:ByteArray × ByteArray × PUnit):T :=
 .qc6 12 [qv0 x0] fun y1 =>
 .bn y1 (.ret [qv0 (nilS,nilS,({ data:={ toList:=[]:Array UInt8 }:ByteArray }),nilS,()),.int .i64 1]) <|
 .rg <|
 .qc0 35 [qv0 x0] fun y2 =>
 .qc37 279 [qv9 x1,qv0 y2] fun y3 =>
 .br (y3.2.1 != (0:Int)) (
  .ret [qv0 (nilS,nilS,({ data:={ toList:=[]:Array UInt8 }:ByteArray }),nilS,()),.int .i64 y3.2.1]) <|
 .ret [qv0 y3.1,.int .i64 0]
theorem fI_perform_opOpen x0 x1:qft qa0 172 [qv0 x0,.iface 244 (qv9 x1)] (tI_perform_opOpen x0 x1) :=fitK (by kernel_rfl)
def tI_perform_opRate (x0:qy0) (x1:qy5):T :=
 .qc6 12 [qv0 x0] fun y1 =>
 .bn y1 (.ret [qv0 (nilS,nilS,({ data:={ toList:=[]:Array UInt8 }:ByteArray }),nilS,()),.int .i64 1]) <|
 .rg <|
 .qc0 35 [qv0 x0] fun y2 =>
 .qc37 410 [qv6 x1,qv0 y2] fun y3 =>
 .br (y3.2.1 != (0:Int)) (
  .ret [qv0 (nilS,nilS,({ data:={ toList:=[]:Array UInt8 }:ByteArray }),nilS,()),.int .i64 y3.2.1]) <|
 .ret [qv0 y3.1,.int .i64 0]
theorem fI_perform_opRate x0 x1:qft qa0 172 [qv0 x0,.iface 258 (qv6 x1)] (tI_perform_opRate x0 x1) :=fitK (by kernel_rfl)
def tI_perform_opAdd (x0:qy0) (x1:ByteArray × ByteArray × Bool × SlV × Bool × PUnit):T :=
 .qc6 12 [qv0 x0] fun y1 =>
 .bn y1 (.ret [qv0 (nilS,nilS,({ data:={ toList:=[]:Array UInt8 }:ByteArray }),nilS,()),.int .i64 1]) <|
 .rg <|
 .qc0 35 [qv0 x0] fun y2 =>
 .qc37 311 [qv10 x1,qv0 y2] fun y3 =>
 .br (y3.2.1 != (0:Int)) (
  .ret [qv0 (nilS,nilS,({ data:={ toList:=[]:Array UInt8 }:ByteArray }),nilS,()),.int .i64 y3.2.1]) <|
 .ret [qv0 y3.1,.int .i64 0]
theorem fI_perform_opAdd x0 x1:qft qa0 172 [qv0 x0,.iface 246 (qv10 x1)] (tI_perform_opAdd x0 x1) :=fitK (by kernel_rfl)
def aI_natText:An:=⟨[(5,[.s 3,.s 4],[.o (.o (.s)),.o (.o (.i .i64))])],[],[]⟩
def tI_natText (x0:SlV):T :=
 .br ((↑x0.n:Int) == (0:Int)) (
  .ret [.string ({ data:={ toList:=[(48:UInt8)]:Array UInt8 }:ByteArray })]) <|
 .el x0.1 (x0.n) (IntKind.i64.wrap ((↑x0.n:Int)-(1:Int))) fun y1 =>
 .ql23 (y1.add ((IntKind.i64.wrap ((↑x0.n:Int)-(1:Int))).toNat*(1:Nat))) fun y2 =>
 .qc10 140 [.int .i64 y2] fun y3 =>
 .lp [.o (.o (.s)),.o (.o (.i .i64))] [.v (.string y3),.v (.int .i64 (IntKind.i64.wrap ((↑x0.n:Int)-(2:Int))))] fun y4 =>
 .br (decide (y4.2.1≥(0:Int))) (
  .el x0.1 (x0.n) y4.2.1 fun y5 =>
  .ql23 (y5.add (Int.toNat y4.2.1*(1:Nat))) fun y6 =>
  .qc10 140 [.int .i64 y6] fun y7 =>
  .qc10 179 [.string y7,.int .i64 9] fun y8 =>
  .rq (ByteArray.size y4.1+y8.size≤(9223372036854775807:Nat)) <|
 .nx 0 [.v (.string (y4.1++y8)),.v (.int .i64 (IntKind.i64.wrap (y4.2.1-(1:Int))))]) <|
 .ret [.string y4.1]
theorem fI_natText x0:qft aI_natText 180 [Sc.val .l x0] (tI_natText x0) :=fitK (by kernel_rfl)
end
end Go.Proofs.YtpdfdkccgkieoaaGreatDoor
