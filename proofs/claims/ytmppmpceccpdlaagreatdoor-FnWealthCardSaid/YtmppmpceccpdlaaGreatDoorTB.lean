/-
  What each function of the seat comes to, as a tree; each tree is checked against the code.
-/
import Derived.Test.YtmppmpceccpdlaaGreatDoorTA
namespace Go.Proofs.YtmppmpceccpdlaaGreatDoor
open Sx
set_option maxRecDepth 100000
noncomputable section
def aS_l02Nat:An:=⟨[(3,[.s 5,.s 6],[.a 3,.o (.o (.i .i64))])],[],[]⟩
def tS_l02Nat (x0:Addr) (x1:Int):T :=
 .qc10 32 [.pointer (some x0),.int .i64 (IntKind.i64.wrap (x1+(1:Int)))] fun y1 =>
 .lp [.a 3,.o (.o (.i .i64))] [.a 3 ((0:Nat)) [],.v (.int .i64 y1)] fun y2 =>
 .br (decide (y2.2.1 > (0:Int))) (
  .qc10 32 [.pointer (some x0),.int .i64 1000000000] fun y3 =>
  .qc10 32 [.pointer (some x0),.int .i64 1000000000] fun y4 =>
  .fz ((7:Nat)) [.int .i64 0,.int .i64 1,.int .i64 2,.int .i64 999999999,.int .i64 500000000,.int .i64 y3,.int .i64 y4] 3 fun b5 c5 =>
  .qc10 104 [.pointer (some x0),.slice (some { block:=b5,off:=(0:Nat):Addr }) ((7:Nat)) (c5)] fun y6 =>
  .rq ([Value.int IntKind.i64 y6].length=(1:Nat)*(1:Nat)) <|
 .rq (one [Value.int IntKind.i64 y6]=true∧(y2.1.1+(1:Nat))*(8:Nat)≤(140737488355328:Nat)∧y2.1.1+(1:Nat)≤(9223372036854775807:Nat)) <|
 .nx 0 [.a 3 (y2.1.1+(1:Nat)) (y2.1.2++[Value.int IntKind.i64 y6]),.v (.int .i64 (IntKind.i64.wrap (y2.2.1-(1:Int))))]) <|
 .fz y2.1.1 y2.1.2 3 fun b3 c3 =>
 .qc13 140 [.slice (some { block:=b3,off:=(0:Nat):Addr }) y2.1.1 (c3)] fun y4 =>
 .ret [Sc.val .l y4]
theorem fS_l02Nat x0 x1:qft aS_l02Nat 134 [.pointer (some x0),.int .i64 x1] (tS_l02Nat x0 x1) :=fitK (by kernel_rfl)
def tS_RatMake (x0:qy1) (x1:qy1):T :=
 .qc9 87 [qv1 x0] fun y1 =>
 .bn y1 (.ret [qv0 ((false),nilS,nilS,()),.bool (false)]) <|
 .qc9 87 [qv1 x1] fun y2 =>
 .bn y2 (.ret [qv0 ((false),nilS,nilS,()),.bool (false)]) <|
 .qc5 158 [.bool (!x0.1 == x1.1),Sc.val .l x0.2.1,Sc.val .l x1.2.1] fun y3 =>
 .ret [qv0 y3.1,.bool y3.2.1]
theorem fS_RatMake x0 x1:qft qa0 135 [qv1 x0,qv1 x1] (tS_RatMake x0 x1) :=fitK (by kernel_rfl)
def tS_RatZero :T :=
 .fz ((1:Nat)) [.int .i64 1] 3 fun b1 c1 =>
 .ret [qv0 ((false),nilS,(⟨(some { block:=b1,off:=(0:Nat):Addr }),((1:Nat)),(c1)⟩:SlV),())]
theorem fS_RatZero :qft qa0 136 [] (tS_RatZero ) :=fitK (by kernel_rfl)
def aI_IsWord:An:=⟨[(4,[.s 3],[.o (.o (.i .i64))])],[],[]⟩
def tI_IsWord (x0:ByteArray):T :=
 .br (decide ((↑x0.size:Int)<(1:Int))) (
  .rF) <|
 .br (decide ((↑x0.size:Int) > (12:Int))) (
  .rF) <|
 .rq ((0:Int)≤(0:Int)∧(0:Int)<(↑x0.size:Int)) <|
 .qc9 161 [.int .u8 (at0 x0 (Int.toNat (0:Int)))] fun y1 =>
 .bF y1 <|
 .lp [.o (.o (.i .i64))] [.v (.int .i64 1)] fun y2 =>
 .br (decide (y2.1<(↑x0.size:Int))) (
  .rq ((0:Int)≤y2.1∧y2.1<(↑x0.size:Int)) <|
 .qc9 161 [.int .u8 (at0 x0 (Int.toNat y2.1))] fun y3 =>
  .bn y3 (.rq ((0:Int)≤y2.1∧y2.1<(↑x0.size:Int)) <|
 .qc9 162 [.int .u8 (at0 x0 (Int.toNat y2.1))] fun y4 =>
   .bF y4 <|
 .nx 0 [.v (.int .i64 (IntKind.i64.wrap (y2.1+(1:Int))))]) <|
 .nx 0 [.v (.int .i64 (IntKind.i64.wrap (y2.1+(1:Int))))]) <|
 .rT
theorem fI_IsWord x0:qft aI_IsWord 137 [.string x0] (tI_IsWord x0) :=fitK (by kernel_rfl)
def tS_DecOk (x0:qy6):T :=
 .qc9 87 [qv1 (x0.1,x0.2.1,())] fun y1 =>
 .br y1 (
  .br (decide ((↑x0.2.1.n:Int)≤(6:Int))) (
   .qc9 116 [.int .i64 x0.2.2.1,.int .i64 0,.int .i64 30] fun y2 =>
   .ret [.bool y2]) <|
 .rF) <|
 .rF
theorem fS_DecOk x0:qft qa0 138 [qv6 x0] (tS_DecOk x0) :=fitK (by kernel_rfl)
def tS_IntSign (x0:qy1):T :=
 .qc10 163 [qv1 x0,qv1 ((false),nilS,())] fun y1 =>
 .ret [.int .i64 y1]
theorem fS_IntSign x0:qft qa0 139 [qv1 x0] (tS_IntSign x0) :=fitK (by kernel_rfl)
def aS_l02Trim:An:=⟨[(2,[.s 3],[.o (.o (.i .i64))])],[],[]⟩
def tS_l02Trim (x0:SlV):T :=
 .lp [.o (.o (.i .i64))] [.v (.int .i64 ((↑x0.n:Int)))] fun y1 =>
 .br (decide (y1.1 > (0:Int))) (
  .el x0.1 (x0.n) (IntKind.i64.wrap (y1.1-(1:Int))) fun y2 =>
  .ql25 (y2.add ((IntKind.i64.wrap (y1.1-(1:Int))).toNat*(1:Nat))) fun y3 =>
  .br (y3 == (0:Int)) (
   .nx 0 [.v (.int .i64 (IntKind.i64.wrap (y1.1-(1:Int))))]) <|
 .rq ((0:Int)≤(0:Int)∧(0:Int)≤y1.1∧y1.1≤(↑x0.c:Int)∧(↑x0.c:Int)≤(↑x0.c:Int)) <|
 .ret [.slice (if (↑x0.c:Int).toNat=Int.toNat (0:Int) then x0.1 else Option.map (fun x=>x.add (Int.toNat (0:Int)*Go.Proofs.Tryz.prog.types[(3:Nat)].size)) x0.1) (Int.toNat y1.1-Int.toNat (0:Int)) ((↑x0.c:Int).toNat-Int.toNat (0:Int))]) <|
 .rq ((0:Int)≤(0:Int)∧(0:Int)≤y1.1∧y1.1≤(↑x0.c:Int)∧(↑x0.c:Int)≤(↑x0.c:Int)) <|
 .ret [.slice (if (↑x0.c:Int).toNat=Int.toNat (0:Int) then x0.1 else Option.map (fun x=>x.add (Int.toNat (0:Int)*Go.Proofs.Tryz.prog.types[(3:Nat)].size)) x0.1) (Int.toNat y1.1-Int.toNat (0:Int)) ((↑x0.c:Int).toNat-Int.toNat (0:Int))]
theorem fS_l02Trim x0:qft aS_l02Trim 140 [Sc.val .l x0] (tS_l02Trim x0) :=fitK (by kernel_rfl)
def tI_isScale (x0:Int):T :=
 .br (decide (x0≥(0:Int))) (
  .ret [.bool (decide (x0≤(30:Int)))]) <|
 .rF
theorem fI_isScale x0:qft qa0 141 [.int .i64 x0] (tI_isScale x0) :=fitK (by kernel_rfl)
def aI_subTimes:An:=⟨[(3,[.s 0,.s 7,.s 13],[.o (.o (.l)),.o (.o (.i .i64)),.o (.o (.i .i64))])],[],[]⟩
def tI_subTimes (x0:SlV) (x1:SlV) (x2:Int):T :=
 .lp [.o (.o (.l)),.o (.o (.i .i64)),.o (.o (.i .i64))] [.v (Sc.val .l x0),.v (.int .i64 0),.v (.int .i64 0)] fun y1 =>
 .br (decide (y1.2.2.1<(↑x1.n:Int))) (
  .el x1.1 (x1.n) y1.2.2.1 fun y2 =>
  .ql25 (y2.add (Int.toNat y1.2.2.1*(1:Nat))) fun y3 =>
  .el y1.1.1 (y1.1.n) y1.2.2.1 fun y4 =>
  .ql25 (y4.add (Int.toNat y1.2.2.1*(1:Nat))) fun y5 =>
  .br (decide (IntKind.i64.wrap (IntKind.i64.wrap (y5-IntKind.i64.wrap (y3*x2))-y1.2.1)<(0:Int))) (
   .rq ((1000000000:Int)≠(0:Int)) <|
 .el y1.1.1 (y1.1.n) y1.2.2.1 fun y6 =>
   .st (y6.add (Int.toNat y1.2.2.1*(1:Nat))) [.int .i64 (IntKind.i64.wrap (IntKind.i64.wrap (IntKind.i64.wrap (y5-IntKind.i64.wrap (y3*x2))-y1.2.1)+IntKind.i64.wrap (IntKind.i64.wrap ((IntKind.i64.wrap (IntKind.i64.wrap (IntKind.i64.wrap ((0:Int)-IntKind.i64.wrap (IntKind.i64.wrap (y5-IntKind.i64.wrap (y3*x2))-y1.2.1))+(1000000000:Int))-(1:Int))).tdiv (1000000000:Int))*(1000000000:Int))))] <|
 .nx 0 [.v (Sc.val .l y1.1),.v (.int .i64 (IntKind.i64.wrap ((IntKind.i64.wrap (IntKind.i64.wrap (IntKind.i64.wrap ((0:Int)-IntKind.i64.wrap (IntKind.i64.wrap (y5-IntKind.i64.wrap (y3*x2))-y1.2.1))+(1000000000:Int))-(1:Int))).tdiv (1000000000:Int)))),.v (.int .i64 (IntKind.i64.wrap (y1.2.2.1+(1:Int))))]) <|
 .el y1.1.1 (y1.1.n) y1.2.2.1 fun y6 =>
  .st (y6.add (Int.toNat y1.2.2.1*(1:Nat))) [.int .i64 (IntKind.i64.wrap (IntKind.i64.wrap (y5-IntKind.i64.wrap (y3*x2))-y1.2.1))] <|
 .nx 0 [.v (Sc.val .l y1.1),.v (.int .i64 0),.v (.int .i64 (IntKind.i64.wrap (y1.2.2.1+(1:Int))))]) <|
 .el y1.1.1 (y1.1.n) ((↑x1.n:Int)) fun y2 =>
 .ql25 (y2.add ((↑x1.n:Int).toNat*(1:Nat))) fun y3 =>
 .el y1.1.1 (y1.1.n) ((↑x1.n:Int)) fun y4 =>
 .st (y4.add ((↑x1.n:Int).toNat*(1:Nat))) [.int .i64 (IntKind.i64.wrap (y3-y1.2.1))] <|
 .el y1.1.1 (y1.1.n) ((↑x1.n:Int)) fun y5 =>
 .ql25 (y5.add ((↑x1.n:Int).toNat*(1:Nat))) fun y6 =>
 .ret [.bool (decide (y6<(0:Int)))]
theorem fI_subTimes x0 x1 x2:qft aI_subTimes 142 [Sc.val .l x0,Sc.val .l x1,.int .i64 x2] (tI_subTimes x0 x1 x2) :=fitK (by kernel_rfl)
def aI_addBack:An:=⟨[(2,[.s 0,.s 4,.s 9],[.o (.o (.l)),.o (.o (.i .i64)),.o (.o (.i .i64))])],[],[]⟩
def tI_addBack (x0:SlV) (x1:SlV):T :=
 .lp [.o (.o (.l)),.o (.o (.i .i64)),.o (.o (.i .i64))] [.v (Sc.val .l x0),.v (.int .i64 0),.v (.int .i64 0)] fun y1 =>
 .br (decide (y1.2.2.1<(↑x1.n:Int))) (
  .el x1.1 (x1.n) y1.2.2.1 fun y2 =>
  .ql25 (y2.add (Int.toNat y1.2.2.1*(1:Nat))) fun y3 =>
  .el y1.1.1 (y1.1.n) y1.2.2.1 fun y4 =>
  .ql25 (y4.add (Int.toNat y1.2.2.1*(1:Nat))) fun y5 =>
  .rq ((1000000000:Int)≠(0:Int)) <|
 .el y1.1.1 (y1.1.n) y1.2.2.1 fun y6 =>
  .st (y6.add (Int.toNat y1.2.2.1*(1:Nat))) [.int .i64 ((IntKind.i64.wrap (y1.2.1+IntKind.i64.wrap (y5+y3))).tmod (1000000000:Int))] <|
 .rq ((1000000000:Int)≠(0:Int)) <|
 .nx 0 [.v (Sc.val .l y1.1),.v (.int .i64 (IntKind.i64.wrap ((IntKind.i64.wrap (y1.2.1+IntKind.i64.wrap (y5+y3))).tdiv (1000000000:Int)))),.v (.int .i64 (IntKind.i64.wrap (y1.2.2.1+(1:Int))))]) <|
 .el y1.1.1 (y1.1.n) ((↑x1.n:Int)) fun y2 =>
 .ql25 (y2.add ((↑x1.n:Int).toNat*(1:Nat))) fun y3 =>
 .el y1.1.1 (y1.1.n) ((↑x1.n:Int)) fun y4 =>
 .st (y4.add ((↑x1.n:Int).toNat*(1:Nat))) [.int .i64 (IntKind.i64.wrap (y3+y1.2.1))] <|
 .ret []
theorem fI_addBack x0 x1:qft aI_addBack 143 [Sc.val .l x0,Sc.val .l x1] (tI_addBack x0 x1) :=fitK (by kernel_rfl)
def aS_l03Small:An:=⟨[(4,[.s 6,.s 7,.s 8],[.a 3,.o (.o (.i .i64)),.o (.o (.i .i64))])],[],[]⟩
def tS_l03Small (x0:SlV) (x1:Int):T :=
 .rq ((0:Int)≤(↑x0.n:Int)∧(↑x0.n:Int)≤(↑x0.n:Int)∧(↑(8:Nat):Int)*(↑x0.n:Int)≤(281474976710656:Int)∧(↑x0.n:Int)≤(9223372036854775807:Int)) <|
 .lp [.a 3,.o (.o (.i .i64)),.o (.o (.i .i64))] [.a 3 ((↑x0.n:Int).toNat) ((madeCells { toList:=[Value.int IntKind.i64 (0:Int)]:Array Value } ((↑x0.n:Int).toNat*(1:Nat))).toList),.v (.int .i64 0),.v (.int .i64 (IntKind.i64.wrap ((↑x0.n:Int)-(1:Int))))] fun y1 =>
 .br (decide (y1.2.2.1≥(0:Int))) (
  .el x0.1 (x0.n) y1.2.2.1 fun y2 =>
  .ql25 (y2.add (Int.toNat y1.2.2.1*(1:Nat))) fun y3 =>
  .rq (x1≠(0:Int)) <|
 .rq ((0:Int)≤y1.2.2.1∧y1.2.2.1<(↑y1.1.1:Int)) <|
 .rq (Int.toNat y1.2.2.1*(1:Nat)+[Value.int IntKind.i64 (IntKind.i64.wrap ((IntKind.i64.wrap (IntKind.i64.wrap (y1.2.1*(1000000000:Int))+y3)).tdiv x1))].length≤y1.1.2.length) <|
 .rq (x1≠(0:Int)) <|
 .nx 0 [.a 3 y1.1.1 (setl y1.1.2 (Int.toNat y1.2.2.1*(1:Nat)) [Value.int IntKind.i64 (IntKind.i64.wrap ((IntKind.i64.wrap (IntKind.i64.wrap (y1.2.1*(1000000000:Int))+y3)).tdiv x1))]),.v (.int .i64 ((IntKind.i64.wrap (IntKind.i64.wrap (y1.2.1*(1000000000:Int))+y3)).tmod x1)),.v (.int .i64 (IntKind.i64.wrap (y1.2.2.1-(1:Int))))]) <|
 .fz y1.1.1 y1.1.2 3 fun b2 c2 =>
 .qc13 140 [.slice (some { block:=b2,off:=(0:Nat):Addr }) y1.1.1 (c2)] fun y3 =>
 .ret [Sc.val .l y3,.int .i64 y1.2.1]
theorem fS_l03Small x0 x1:qft aS_l03Small 144 [Sc.val .l x0,.int .i64 x1] (tS_l03Small x0 x1) :=fitK (by kernel_rfl)
def aS_l03Digit:An:=⟨[(3,[.s 5,.s 6],[.o (.o (.i .i64)),.o (.o (.i .i64))])],[],[]⟩
def tS_l03Digit (x0:SlV) (x1:SlV):T :=
 .lp [.o (.o (.i .i64)),.o (.o (.i .i64))] [.v (.int .i64 0),.v (.int .i64 999999999)] fun y1 =>
 .br (decide (y1.1<y1.2.1)) (
  .rq ((2:Int)≠(0:Int)) <|
 .qc13 70 [.int .i64 (IntKind.i64.wrap ((IntKind.i64.wrap (IntKind.i64.wrap (y1.1+y1.2.1)+(1:Int))).tdiv (2:Int)))] fun y2 =>
  .qc13 147 [Sc.val .l x1,Sc.val .l y2] fun y3 =>
  .qc10 89 [Sc.val .l y3,Sc.val .l x0] fun y4 =>
  .br (decide (y4≤(0:Int))) (
   .nx 0 [.v (.int .i64 (IntKind.i64.wrap ((IntKind.i64.wrap (IntKind.i64.wrap (y1.1+y1.2.1)+(1:Int))).tdiv (2:Int)))),.v (.int .i64 y1.2.1)]) <|
 .nx 0 [.v (.int .i64 y1.1),.v (.int .i64 (IntKind.i64.wrap (IntKind.i64.wrap ((IntKind.i64.wrap (IntKind.i64.wrap (y1.1+y1.2.1)+(1:Int))).tdiv (2:Int))-(1:Int))))]) <|
 .ret [.int .i64 y1.1]
theorem fS_l03Digit x0 x1:qft aS_l03Digit 145 [Sc.val .l x0,Sc.val .l x1] (tS_l03Digit x0 x1) :=fitK (by kernel_rfl)
def aS_l02Sub:An:=⟨[(4,[.s 5,.s 6,.s 12],[.a 3,.o (.o (.i .i64)),.o (.o (.i .i64))])],[],[]⟩
def tS_l02Sub (x0:SlV) (x1:SlV):T :=
 .lp [.a 3,.o (.o (.i .i64)),.o (.o (.i .i64))] [.a 3 ((0:Nat)) [],.v (.int .i64 0),.v (.int .i64 0)] fun y1 =>
 .br (decide (y1.2.2.1<(↑x0.n:Int))) (
  .el x0.1 (x0.n) y1.2.2.1 fun y2 =>
  .ql25 (y2.add (Int.toNat y1.2.2.1*(1:Nat))) fun y3 =>
  .br (decide (y1.2.2.1<(↑x1.n:Int))) (
   .el x1.1 (x1.n) y1.2.2.1 fun y4 =>
   .ql25 (y4.add (Int.toNat y1.2.2.1*(1:Nat))) fun y5 =>
   .br (decide (IntKind.i64.wrap (IntKind.i64.wrap (y3-y1.2.1)-y5)<(0:Int))) (
    .rq ([Value.int IntKind.i64 (IntKind.i64.wrap (IntKind.i64.wrap (IntKind.i64.wrap (y3-y1.2.1)-y5)+(1000000000:Int)))].length=(1:Nat)*(1:Nat)) <|
 .rq (one [Value.int IntKind.i64 (IntKind.i64.wrap (IntKind.i64.wrap (IntKind.i64.wrap (y3-y1.2.1)-y5)+(1000000000:Int)))]=true∧(y1.1.1+(1:Nat))*(8:Nat)≤(140737488355328:Nat)∧y1.1.1+(1:Nat)≤(9223372036854775807:Nat)) <|
 .nx 0 [.a 3 (y1.1.1+(1:Nat)) (y1.1.2++[Value.int IntKind.i64 (IntKind.i64.wrap (IntKind.i64.wrap (IntKind.i64.wrap (y3-y1.2.1)-y5)+(1000000000:Int)))]),.v (.int .i64 1),.v (.int .i64 (IntKind.i64.wrap (y1.2.2.1+(1:Int))))]) <|
 .rq ([Value.int IntKind.i64 (IntKind.i64.wrap (IntKind.i64.wrap (y3-y1.2.1)-y5))].length=(1:Nat)*(1:Nat)) <|
 .rq (one [Value.int IntKind.i64 (IntKind.i64.wrap (IntKind.i64.wrap (y3-y1.2.1)-y5))]=true∧(y1.1.1+(1:Nat))*(8:Nat)≤(140737488355328:Nat)∧y1.1.1+(1:Nat)≤(9223372036854775807:Nat)) <|
 .nx 0 [.a 3 (y1.1.1+(1:Nat)) (y1.1.2++[Value.int IntKind.i64 (IntKind.i64.wrap (IntKind.i64.wrap (y3-y1.2.1)-y5))]),.v (.int .i64 0),.v (.int .i64 (IntKind.i64.wrap (y1.2.2.1+(1:Int))))]) <|
 .br (decide (IntKind.i64.wrap (y3-y1.2.1)<(0:Int))) (
   .rq ([Value.int IntKind.i64 (IntKind.i64.wrap (IntKind.i64.wrap (y3-y1.2.1)+(1000000000:Int)))].length=(1:Nat)*(1:Nat)) <|
 .rq (one [Value.int IntKind.i64 (IntKind.i64.wrap (IntKind.i64.wrap (y3-y1.2.1)+(1000000000:Int)))]=true∧(y1.1.1+(1:Nat))*(8:Nat)≤(140737488355328:Nat)∧y1.1.1+(1:Nat)≤(9223372036854775807:Nat)) <|
 .nx 0 [.a 3 (y1.1.1+(1:Nat)) (y1.1.2++[Value.int IntKind.i64 (IntKind.i64.wrap (IntKind.i64.wrap (y3-y1.2.1)+(1000000000:Int)))]),.v (.int .i64 1),.v (.int .i64 (IntKind.i64.wrap (y1.2.2.1+(1:Int))))]) <|
 .rq ([Value.int IntKind.i64 (IntKind.i64.wrap (y3-y1.2.1))].length=(1:Nat)*(1:Nat)) <|
 .rq (one [Value.int IntKind.i64 (IntKind.i64.wrap (y3-y1.2.1))]=true∧(y1.1.1+(1:Nat))*(8:Nat)≤(140737488355328:Nat)∧y1.1.1+(1:Nat)≤(9223372036854775807:Nat)) <|
 .nx 0 [.a 3 (y1.1.1+(1:Nat)) (y1.1.2++[Value.int IntKind.i64 (IntKind.i64.wrap (y3-y1.2.1))]),.v (.int .i64 0),.v (.int .i64 (IntKind.i64.wrap (y1.2.2.1+(1:Int))))]) <|
 .fz y1.1.1 y1.1.2 3 fun b2 c2 =>
 .qc13 140 [.slice (some { block:=b2,off:=(0:Nat):Addr }) y1.1.1 (c2)] fun y3 =>
 .ret [Sc.val .l y3]
theorem fS_l02Sub x0 x1:qft aS_l02Sub 146 [Sc.val .l x0,Sc.val .l x1] (tS_l02Sub x0 x1) :=fitK (by kernel_rfl)
def aS_l02Mul:An:=⟨[(5,[.s 5,.s 28],[.a 3,.o (.o (.i .i64))]),(9,[.s 5,.s 8,.s 35],[.a 3,.o (.o (.i .i64)),.o (.o (.i .i64))])],[],[]⟩
def tS_l02Mul (x0:SlV) (x1:SlV):T :=
 .br ((↑x0.n:Int) == (0:Int)) (
  .ret [.slice none 0 0]) <|
 .br ((↑x1.n:Int) == (0:Int)) (
  .ret [.slice none 0 0]) <|
 .rq ((0:Int)≤IntKind.i64.wrap ((↑x0.n:Int)+(↑x1.n:Int))∧IntKind.i64.wrap ((↑x0.n:Int)+(↑x1.n:Int))≤IntKind.i64.wrap ((↑x0.n:Int)+(↑x1.n:Int))∧(↑(8:Nat):Int)*IntKind.i64.wrap ((↑x0.n:Int)+(↑x1.n:Int))≤(281474976710656:Int)∧IntKind.i64.wrap ((↑x0.n:Int)+(↑x1.n:Int))≤(9223372036854775807:Int)) <|
 .lp [.a 3,.o (.o (.i .i64))] [.a 3 ((IntKind.i64.wrap ((↑x0.n:Int)+(↑x1.n:Int))).toNat) ((madeCells { toList:=[Value.int IntKind.i64 (0:Int)]:Array Value } ((IntKind.i64.wrap ((↑x0.n:Int)+(↑x1.n:Int))).toNat*(1:Nat))).toList),.v (.int .i64 0)] fun y1 =>
 .br (decide (y1.2.1<(↑x0.n:Int))) (
  .el x0.1 (x0.n) y1.2.1 fun y2 =>
  .ql25 (y2.add (Int.toNat y1.2.1*(1:Nat))) fun y3 =>
  .lp [.a 3,.o (.o (.i .i64)),.o (.o (.i .i64))] [.a 3 y1.1.1 y1.1.2,.v (.int .i64 0),.v (.int .i64 0)] fun y4 =>
  .br (decide (y4.2.2.1<(↑x1.n:Int))) (
   .el x1.1 (x1.n) y4.2.2.1 fun y5 =>
   .ql25 (y5.add (Int.toNat y4.2.2.1*(1:Nat))) fun y6 =>
   .rq ((0:Int)≤IntKind.i64.wrap (y1.2.1+y4.2.2.1)∧IntKind.i64.wrap (y1.2.1+y4.2.2.1)<(↑y4.1.1:Int)) <|
 .xs y4.1.2 ((IntKind.i64.wrap (y1.2.1+y4.2.2.1)).toNat*(1:Nat)) (.o (.i .i64)) fun y7 =>
   .rq ((1000000000:Int)≠(0:Int)) <|
 .rq ((0:Int)≤IntKind.i64.wrap (y1.2.1+y4.2.2.1)∧IntKind.i64.wrap (y1.2.1+y4.2.2.1)<(↑y4.1.1:Int)) <|
 .rq ((IntKind.i64.wrap (y1.2.1+y4.2.2.1)).toNat*(1:Nat)+[Value.int IntKind.i64 ((IntKind.i64.wrap (IntKind.i64.wrap (y7+IntKind.i64.wrap (y3*y6))+y4.2.1)).tmod (1000000000:Int))].length≤y4.1.2.length) <|
 .rq ((1000000000:Int)≠(0:Int)) <|
 .nx 1 [.a 3 y4.1.1 (setl y4.1.2 ((IntKind.i64.wrap (y1.2.1+y4.2.2.1)).toNat*(1:Nat)) [Value.int IntKind.i64 ((IntKind.i64.wrap (IntKind.i64.wrap (y7+IntKind.i64.wrap (y3*y6))+y4.2.1)).tmod (1000000000:Int))]),.v (.int .i64 (IntKind.i64.wrap ((IntKind.i64.wrap (IntKind.i64.wrap (y7+IntKind.i64.wrap (y3*y6))+y4.2.1)).tdiv (1000000000:Int)))),.v (.int .i64 (IntKind.i64.wrap (y4.2.2.1+(1:Int))))]) <|
 .rq ((0:Int)≤IntKind.i64.wrap (y1.2.1+(↑x1.n:Int))∧IntKind.i64.wrap (y1.2.1+(↑x1.n:Int))<(↑y4.1.1:Int)) <|
 .rq ((IntKind.i64.wrap (y1.2.1+(↑x1.n:Int))).toNat*(1:Nat)+[(Sh1.o (Sc.i IntKind.i64)).val y4.2.1].length≤y4.1.2.length) <|
 .nx 0 [.a 3 y4.1.1 (setl y4.1.2 ((IntKind.i64.wrap (y1.2.1+(↑x1.n:Int))).toNat*(1:Nat)) [(Sh1.o (Sc.i IntKind.i64)).val y4.2.1]),.v (.int .i64 (IntKind.i64.wrap (y1.2.1+(1:Int))))]) <|
 .fz y1.1.1 y1.1.2 3 fun b2 c2 =>
 .qc13 140 [.slice (some { block:=b2,off:=(0:Nat):Addr }) y1.1.1 (c2)] fun y3 =>
 .ret [Sc.val .l y3]
theorem fS_l02Mul x0 x1:qft aS_l02Mul 147 [Sc.val .l x0,Sc.val .l x1] (tS_l02Mul x0 x1) :=fitK (by kernel_rfl)
def tI_RatRound (x0:qy0) (x1:Int):T :=
 .qc9 61 [qv0 x0] fun y1 =>
 .bn y1 (.ret [qv1 ((false),nilS,()),.bool (false)]) <|
 .qc9 120 [.int .i64 x1] fun y2 =>
 .bn y2 (.ret [qv1 ((false),nilS,()),.bool (false)]) <|
 .qc15 164 [qv1 (x0.1,x0.2.1,()),Sc.val .l x0.2.2.1,.int .i64 x1] fun y3 =>
 .ret [qv1 y3,.bool (true)]
theorem fI_RatRound x0 x1:qft qa0 148 [qv0 x0,.int .i64 x1] (tI_RatRound x0 x1) :=fitK (by kernel_rfl)
def tI_RatSub (x0:qy0) (x1:qy0):T :=
 .qc9 43 [qv0 x0,qv0 x1] fun y1 =>
 .bn y1 (.ret [qv0 ((false),nilS,nilS,()),.bool (false)]) <|
 .rg <|
 .qc6 118 [qv0 x1] fun y2 =>
 .qc5 15 [qv0 x0,qv0 y2] fun y3 =>
 .ret [qv0 y3.1,.bool y3.2.1]
theorem fI_RatSub x0 x1:qft qa0 149 [qv0 x0,qv0 x1] (tI_RatSub x0 x1) :=fitK (by kernel_rfl)
def aS_BookOk:An:=⟨[(2,[.s 8],[.o (.o (.i .i64))])],[],[]⟩
def tS_BookOk (x0:qy4):T :=
 .lp [.o (.o (.i .i64))] [.v (.int .i64 0)] fun y1 =>
 .br (decide (y1.1<(↑x0.1.n:Int))) (
  .el x0.1.1 (x0.1.n) y1.1 fun y2 =>
  .ql4 (y2.add (Int.toNat y1.1*(4:Nat))) fun y3 =>
  .rg <|
 .qc44 165 [.string y3.1] fun y4 =>
  .bF y4 <|
 .qc44 166 [qv2 y3.2] fun y5 =>
  .bF y5 <|
 .br (decide (y1.1 > (0:Int))) (
   .el x0.1.1 (x0.1.n) (IntKind.i64.wrap (y1.1-(1:Int))) fun y6 =>
   .ql45 ((y6.add ((IntKind.i64.wrap (y1.1-(1:Int))).toNat*(4:Nat))).add (0:Nat)) fun y7 =>
   .br (!Op.bytesLess y7.toList (ByteArray.toList y3.1)) (
    .rF) <|
 .nx 0 [.v (.int .i64 (IntKind.i64.wrap (y1.1+(1:Int))))]) <|
 .nx 0 [.v (.int .i64 (IntKind.i64.wrap (y1.1+(1:Int))))]) <|
 .ret [.bool (decide ((↑x0.1.n:Int)≤(12:Int)))]
theorem fS_BookOk x0:qft aS_BookOk 153 [qv4 x0] (tS_BookOk x0) :=fitK (by kernel_rfl)
def aS_AcctAt:An:=⟨[(2,[.s 10],[.o (.o (.i .i64))])],[],[]⟩
def tS_AcctAt (x0:qy4) (x1:ByteArray):T :=
 .lp [.o (.o (.i .i64))] [.v (.int .i64 0)] fun y1 =>
 .br (decide (y1.1<(↑x0.1.n:Int))) (
  .el x0.1.1 (x0.1.n) y1.1 fun y2 =>
  .ql4 (y2.add (Int.toNat y1.1*(4:Nat))) fun y3 =>
  .br (ByteArray.toList y3.1 == x1.toList) (
   .ret [.int .i64 y1.1]) <|
 .nx 0 [.v (.int .i64 (IntKind.i64.wrap (y1.1+(1:Int))))]) <|
 .rM
theorem fS_AcctAt x0 x1:qft aS_AcctAt 154 [qv4 x0,.string x1] (tS_AcctAt x0 x1) :=fitK (by kernel_rfl)
def aS_l17Copy:An:=⟨[(3,[.s 10,.c 3 0],[.o (.o (.i .i64)),.o (.o (.l))])],[],[]⟩
def tS_l17Copy (x0:qy4):T :=
 .lp [.o (.o (.i .i64)),.o (.o (.l))] [.v (.int .i64 0),.v (.slice none 0 0)] fun y1 =>
 .br (decide (y1.1<(↑x0.1.n:Int))) (
  .el x0.1.1 (x0.1.n) y1.1 fun y2 =>
  .ql4 (y2.add (Int.toNat y1.1*(4:Nat))) fun y3 =>
  .rg <|
 .qc49 167 [qv2 y3.2] fun y4 =>
  .rq ([Value.string y3.1,Value.string y4.1,Value.bool y4.2.1,Value.slice y4.2.2.1.1 y4.2.2.1.n y4.2.2.1.c].length=(1:Nat)*(4:Nat)) <|
 .rq (one [Value.string y3.1,Value.string y4.1,Value.bool y4.2.1,Value.slice y4.2.2.1.1 y4.2.2.1.n y4.2.2.1.c]=true) <|
 .ap ({ a:=y1.2.1.1,n:=y1.2.1.n,c:=y1.2.1.c:SlV }) 4 64 [.string y3.1,.string y4.1,.bool y4.2.1,Sc.val .l y4.2.2.1] ((1:Nat)) 65 fun y5 =>
  .nx 0 [.v (.int .i64 (IntKind.i64.wrap (y1.1+(1:Int)))),.v (Sc.val .l y5)]) <|
 .ret [qv4 y1.2]
theorem fS_l17Copy x0:qft aS_l17Copy 155 [qv4 x0] (tS_l17Copy x0) :=fitK (by kernel_rfl)
def tS_MoneyAdd (x0:qy3) (x1:qy3):T :=
 .qc9 168 [qv2 x0,qv2 x1] fun y1 =>
 .bn y1 (.ret [qv2 (({ data:={ toList:=[]:Array UInt8 }:ByteArray }),(false),nilS,()),.bool (false)]) <|
 .rg <|
 .qc14 170 [qv1 x0.2,qv1 x1.2] fun y2 =>
 .qc41 169 [.string x0.1,qv1 y2] fun y3 =>
 .ret [qv2 y3.1,.bool y3.2.1]
theorem fS_MoneyAdd x0 x1:qft qa0 156 [qv2 x0,qv2 x1] (tS_MoneyAdd x0 x1) :=fitK (by kernel_rfl)
def tS_l04Add (x0:qy1) (x1:qy1):T :=
 .br (x0.1 == x1.1) (
  .rg <|
 .qc12 171 [Sc.val .l x0.2.1,Sc.val .l x1.2.1] fun y1 =>
  .qc15 69 [.bool x0.1,Sc.val .l y1] fun y2 =>
  .ret [qv1 y2]) <|
 .qc10 89 [Sc.val .l x0.2.1,Sc.val .l x1.2.1] fun y1 =>
 .br (decide (y1≥(0:Int))) (
  .rg <|
 .qc12 146 [Sc.val .l x0.2.1,Sc.val .l x1.2.1] fun y2 =>
  .qc15 69 [.bool x0.1,Sc.val .l y2] fun y3 =>
  .ret [qv1 y3]) <|
 .rg <|
 .qc12 146 [Sc.val .l x1.2.1,Sc.val .l x0.2.1] fun y2 =>
 .qc15 69 [.bool x1.1,Sc.val .l y2] fun y3 =>
 .ret [qv1 y3]
theorem fS_l04Add x0 x1:qft qa0 157 [qv1 x0,qv1 x1] (tS_l04Add x0 x1) :=fitK (by kernel_rfl)
def tS_l05Low (x0:Bool) (x1:SlV) (x2:SlV):T :=
 .qc13 140 [Sc.val .l x1] fun y1 =>
 .qc13 140 [Sc.val .l x2] fun y2 =>
 .br ((↑y2.n:Int) == (0:Int)) (
  .ret [qv0 ((false),nilS,nilS,()),.bool (false)]) <|
 .qc13 172 [Sc.val .l y1,Sc.val .l y2] fun y3 =>
 .qc26 117 [Sc.val .l y1,Sc.val .l y3] fun y4 =>
 .qc26 117 [Sc.val .l y2,Sc.val .l y3] fun y5 =>
 .br (decide ((↑y4.1.n:Int) > (18:Int))) (
  .ret [qv0 ((false),nilS,nilS,()),.bool (false)]) <|
 .br (decide ((↑y5.1.n:Int) > (18:Int))) (
  .ret [qv0 ((false),nilS,nilS,()),.bool (false)]) <|
 .qc15 69 [.bool x0,Sc.val .l y4.1] fun y6 =>
 .rd ({ a:=y5.1.1,n:=y5.1.n,c:=y5.1.c:SlV }) ((1:Nat)) fun y7 =>
 .rq (one y7=true∧((0:Nat)+y5.1.n)*(8:Nat)≤(140737488355328:Nat)∧(0:Nat)+y5.1.n≤(9223372036854775807:Nat)) <|
 .fz ((0:Nat)+y5.1.n) ([]++y7) 3 fun b8 c8 =>
 .ret [qv0 (y6.1,y6.2.1,(⟨(some { block:=b8,off:=(0:Nat):Addr }),((0:Nat)+y5.1.n),(c8)⟩:SlV),()),.bool (true)]
theorem fS_l05Low x0 x1 x2:qft qa0 158 [.bool x0,Sc.val .l x1,Sc.val .l x2] (tS_l05Low x0 x1 x2) :=fitK (by kernel_rfl)
def tS_l19Rat (x0:qy0):T :=
 .rg <|
 .es [] 3 fun b1 =>
 .ra ({ a:=x0.2.1.1,n:=x0.2.1.n,c:=x0.2.1.c:SlV }) ((1:Nat)) fun y2 =>
 .rq (one y2=true∧x0.2.1.n*(8:Nat)≤(140737488355328:Nat)∧x0.2.1.n≤(9223372036854775807:Nat)) <|
 .br (decide (x0.2.1.n=(0:Nat))) (
  .es [] 3 fun b3 =>
  .ra ({ a:=x0.2.2.1.1,n:=x0.2.2.1.n,c:=x0.2.2.1.c:SlV }) ((1:Nat)) fun y4 =>
  .rq (one y4=true∧x0.2.2.1.n*(8:Nat)≤(140737488355328:Nat)∧x0.2.2.1.n≤(9223372036854775807:Nat)) <|
 .br (decide (x0.2.2.1.n=(0:Nat))) (
   .ret [qv0 (x0.1,(⟨(some { block:=b1,off:=(0:Nat):Addr }),((0:Nat)),((0:Nat))⟩:SlV),(⟨(some { block:=b3,off:=(0:Nat):Addr }),((0:Nat)),((0:Nat))⟩:SlV),())]) <|
 .fz (x0.2.2.1.n) y4 3 fun b5 c5 =>
  .ret [qv0 (x0.1,(⟨(some { block:=b1,off:=(0:Nat):Addr }),((0:Nat)),((0:Nat))⟩:SlV),(⟨(some { block:=b5,off:=(0:Nat):Addr }),(x0.2.2.1.n),(c5)⟩:SlV),())]) <|
 .fz (x0.2.1.n) y2 3 fun b3 c3 =>
 .es [] 3 fun b4 =>
 .ra ({ a:=x0.2.2.1.1,n:=x0.2.2.1.n,c:=x0.2.2.1.c:SlV }) ((1:Nat)) fun y5 =>
 .rq (one y5=true∧x0.2.2.1.n*(8:Nat)≤(140737488355328:Nat)∧x0.2.2.1.n≤(9223372036854775807:Nat)) <|
 .br (decide (x0.2.2.1.n=(0:Nat))) (
  .ret [qv0 (x0.1,(⟨(some { block:=b3,off:=(0:Nat):Addr }),(x0.2.1.n),(c3)⟩:SlV),(⟨(some { block:=b4,off:=(0:Nat):Addr }),((0:Nat)),((0:Nat))⟩:SlV),())]) <|
 .fz (x0.2.2.1.n) y5 3 fun b6 c6 =>
 .ret [qv0 (x0.1,(⟨(some { block:=b3,off:=(0:Nat):Addr }),(x0.2.1.n),(c3)⟩:SlV),(⟨(some { block:=b6,off:=(0:Nat):Addr }),(x0.2.2.1.n),(c6)⟩:SlV),())]
theorem fS_l19Rat x0:qft qa0 159 [qv0 x0] (tS_l19Rat x0) :=fitK (by kernel_rfl)
def tS_RatCmp (x0:qy0) (x1:qy0):T :=
 .qc9 50 [qv0 x0] fun y1 =>
 .bn y1 (.ret [.int .i64 0]) <|
 .qc9 50 [qv0 x1] fun y2 =>
 .bn y2 (.ret [.int .i64 0]) <|
 .rg <|
 .qc12 147 [Sc.val .l x0.2.1,Sc.val .l x1.2.2.1] fun y3 =>
 .qc14 69 [.bool x0.1,Sc.val .l y3] fun y4 =>
 .qc12 147 [Sc.val .l x1.2.1,Sc.val .l x0.2.2.1] fun y5 =>
 .qc15 69 [.bool x1.1,Sc.val .l y5] fun y6 =>
 .qc10 163 [qv1 y4,qv1 y6] fun y7 =>
 .ret [.int .i64 y7]
theorem fS_RatCmp x0 x1:qft qa0 160 [qv0 x0,qv0 x1] (tS_RatCmp x0 x1) :=fitK (by kernel_rfl)
def tI_isLower (x0:Int):T :=
 .br (decide (x0≥(97:Int))) (
  .ret [.bool (decide (x0≤(122:Int)))]) <|
 .rF
theorem fI_isLower x0:qft qa0 161 [.int .u8 x0] (tI_isLower x0) :=fitK (by kernel_rfl)
def tI_isDigit (x0:Int):T :=
 .br (decide (x0≥(48:Int))) (
  .ret [.bool (decide (x0≤(57:Int)))]) <|
 .rF
theorem fI_isDigit x0:qft qa0 162 [.int .u8 x0] (tI_isDigit x0) :=fitK (by kernel_rfl)
def tS_IntCmp (x0:qy1) (x1:qy1):T :=
 .qc9 87 [qv1 x0] fun y1 =>
 .bn y1 (.ret [.int .i64 0]) <|
 .qc9 87 [qv1 x1] fun y2 =>
 .bn y2 (.ret [.int .i64 0]) <|
 .br x0.1 (
  .br (!x1.1) (
   .rM) <|
 .br (!x0.1) (
   .br x1.1 (
    .ret [.int .i64 1]) <|
 .br x0.1 (
    .qc10 89 [Sc.val .l x1.2.1,Sc.val .l x0.2.1] fun y3 =>
    .ret [.int .i64 y3]) <|
 .qc10 89 [Sc.val .l x0.2.1,Sc.val .l x1.2.1] fun y3 =>
   .ret [.int .i64 y3]) <|
 .br x0.1 (
   .qc10 89 [Sc.val .l x1.2.1,Sc.val .l x0.2.1] fun y3 =>
   .ret [.int .i64 y3]) <|
 .qc10 89 [Sc.val .l x0.2.1,Sc.val .l x1.2.1] fun y3 =>
  .ret [.int .i64 y3]) <|
 .br (!x0.1) (
  .br x1.1 (
   .ret [.int .i64 1]) <|
 .br x0.1 (
   .qc10 89 [Sc.val .l x1.2.1,Sc.val .l x0.2.1] fun y3 =>
   .ret [.int .i64 y3]) <|
 .qc10 89 [Sc.val .l x0.2.1,Sc.val .l x1.2.1] fun y3 =>
  .ret [.int .i64 y3]) <|
 .br x0.1 (
  .qc10 89 [Sc.val .l x1.2.1,Sc.val .l x0.2.1] fun y3 =>
  .ret [.int .i64 y3]) <|
 .qc10 89 [Sc.val .l x0.2.1,Sc.val .l x1.2.1] fun y3 =>
 .ret [.int .i64 y3]
theorem fS_IntCmp x0 x1:qft qa0 163 [qv1 x0,qv1 x1] (tS_IntCmp x0 x1) :=fitK (by kernel_rfl)
def tI_roundQuotient (x0:qy1) (x1:SlV) (x2:Int):T :=
 .qc26 80 [Sc.val .l x0.2.1,Sc.val .l x1] fun y1 =>
 .rg <|
 .br (decide ((↑y1.2.1.n:Int) > (0:Int))) (
  .qc50 173 [] fun y2 =>
  .rq ((0:Int)≤x2∧x2<(↑(7:Nat):Int)) <|
 .xs [.string y2.1,(Value.func (Fn.func y2.2.1) { toList:=[]:Array Value } { toList:=[]:Array Value }),.string y2.2.2.1,(Value.func (Fn.func y2.2.2.2.1) { toList:=[]:Array Value } { toList:=[]:Array Value }),.string y2.2.2.2.2.1,(Value.func (Fn.func y2.2.2.2.2.2.1) { toList:=[]:Array Value } { toList:=[]:Array Value }),.string y2.2.2.2.2.2.2.1,(Value.func (Fn.func y2.2.2.2.2.2.2.2.1) { toList:=[]:Array Value } { toList:=[]:Array Value }),.string y2.2.2.2.2.2.2.2.2.1,(Value.func (Fn.func y2.2.2.2.2.2.2.2.2.2.1) { toList:=[]:Array Value } { toList:=[]:Array Value }),.string y2.2.2.2.2.2.2.2.2.2.2.1,(Value.func (Fn.func y2.2.2.2.2.2.2.2.2.2.2.2.1) { toList:=[]:Array Value } { toList:=[]:Array Value }),.string y2.2.2.2.2.2.2.2.2.2.2.2.2.1,(Value.func (Fn.func y2.2.2.2.2.2.2.2.2.2.2.2.2.2.1) { toList:=[]:Array Value } { toList:=[]:Array Value })] (x2.toNat*(2:Nat)) (.g [.s,.f]) fun y3 =>
  .qc12 83 [Sc.val .l y1.2.1,Sc.val .l y1.2.1] fun y4 =>
  .qc8 84 [Sc.val .l y4,Sc.val .l x1] fun y5 =>
  .qc44 174 [Sc.val .l y1.1] fun y6 =>
  .call false y3.2.1 [.bool x0.1,.int .i64 y5,.bool (!y6)] (.v (.o (.b))) fun y7 =>
  .br y7 (
   .fz ((1:Nat)) [.int .i64 1] 3 fun b8 c8 =>
   .qc13 83 [Sc.val .l y1.1,.slice (some { block:=b8,off:=(0:Nat):Addr }) ((1:Nat)) (c8)] fun y9 =>
   .qc15 42 [.bool x0.1,Sc.val .l y9] fun y10 =>
   .ret [qv1 y10]) <|
 .qc15 42 [.bool x0.1,Sc.val .l y1.1] fun y8 =>
  .ret [qv1 y8]) <|
 .qc15 42 [.bool x0.1,Sc.val .l y1.1] fun y2 =>
 .ret [qv1 y2]
theorem fI_roundQuotient x0 x1 x2:qft qa0 164 [qv1 x0,Sc.val .l x1,.int .i64 x2] (tI_roundQuotient x0 x1 x2) :=fitK (by kernel_rfl)
def tS_IsWord (x0:ByteArray):T :=
 .qc9 175 [.string x0,.int .u8 ((97:Int)),.int .u8 ((122:Int)),.int .u8 ((48:Int)),.int .u8 ((57:Int))] fun y1 =>
 .br y1 (
  .br (decide ((↑x0.size:Int)≤(12:Int))) (
   .rq ((0:Int)≤(0:Int)∧(0:Int)<(↑x0.size:Int)) <|
 .ret [.bool (decide (at0 x0 (Int.toNat (0:Int))≥(97:Int)))]) <|
 .rF) <|
 .rF
theorem fS_IsWord x0:qft qa0 165 [.string x0] (tS_IsWord x0) :=fitK (by kernel_rfl)
def tS_MoneyOk (x0:qy3):T :=
 .qc9 11 [.string x0.1] fun y1 =>
 .br y1 (
  .qc9 87 [qv1 x0.2] fun y2 =>
  .br y2 (
   .ret [.bool (decide ((↑x0.2.2.1.n:Int)≤(4:Int)))]) <|
 .rF) <|
 .rF
theorem fS_MoneyOk x0:qft qa0 166 [qv2 x0] (tS_MoneyOk x0) :=fitK (by kernel_rfl)
def tS_l17Money (x0:qy3):T :=
 .rg <|
 .es [] 3 fun b1 =>
 .ra ({ a:=x0.2.2.1.1,n:=x0.2.2.1.n,c:=x0.2.2.1.c:SlV }) ((1:Nat)) fun y2 =>
 .rq (one y2=true∧x0.2.2.1.n*(8:Nat)≤(140737488355328:Nat)∧x0.2.2.1.n≤(9223372036854775807:Nat)) <|
 .br (decide (x0.2.2.1.n=(0:Nat))) (
  .ret [qv2 (x0.1,x0.2.1,(⟨(some { block:=b1,off:=(0:Nat):Addr }),((0:Nat)),((0:Nat))⟩:SlV),())]) <|
 .fz (x0.2.2.1.n) y2 3 fun b3 c3 =>
 .ret [qv2 (x0.1,x0.2.1,(⟨(some { block:=b3,off:=(0:Nat):Addr }),(x0.2.2.1.n),(c3)⟩:SlV),())]
theorem fS_l17Money x0:qft qa0 167 [qv2 x0] (tS_l17Money x0) :=fitK (by kernel_rfl)
def tS_l09Both (x0:qy3) (x1:qy3):T :=
 .qc9 166 [qv2 x0] fun y1 =>
 .br y1 (
  .qc9 166 [qv2 x1] fun y2 =>
  .br y2 (
   .ret [.bool (ByteArray.toList x0.1 == ByteArray.toList x1.1)]) <|
 .rF) <|
 .rF
theorem fS_l09Both x0 x1:qft qa0 168 [qv2 x0,qv2 x1] (tS_l09Both x0 x1) :=fitK (by kernel_rfl)
def tS_l09Make (x0:ByteArray) (x1:qy1):T :=
 .qc9 166 [qv2 (x0,x1.1,x1.2.1,())] fun y1 =>
 .bn y1 (.ret [qv2 (({ data:={ toList:=[]:Array UInt8 }:ByteArray }),(false),nilS,()),.bool (false)]) <|
 .ret [qv2 (x0,x1.1,x1.2.1,()),.bool (true)]
theorem fS_l09Make x0 x1:qft qa0 169 [.string x0,qv1 x1] (tS_l09Make x0 x1) :=fitK (by kernel_rfl)
def tS_IntAdd (x0:qy1) (x1:qy1):T :=
 .qc9 87 [qv1 x0] fun y1 =>
 .bn y1 (.ret [qv1 ((false),nilS,())]) <|
 .qc9 87 [qv1 x1] fun y2 =>
 .bn y2 (.ret [qv1 ((false),nilS,())]) <|
 .qc15 157 [qv1 x0,qv1 x1] fun y3 =>
 .ret [qv1 y3]
theorem fS_IntAdd x0 x1:qft qa0 170 [qv1 x0,qv1 x1] (tS_IntAdd x0 x1) :=fitK (by kernel_rfl)
def aS_l02Add:An:=⟨[(4,[.s 5,.s 6,.s 7],[.a 3,.o (.o (.i .i64)),.o (.o (.i .i64))])],[],[]⟩
def tS_l02Add (x0:SlV) (x1:SlV):T :=
 .lp [.a 3,.o (.o (.i .i64)),.o (.o (.i .i64))] [.a 3 ((0:Nat)) [],.v (.int .i64 0),.v (.int .i64 0)] fun y1 =>
 .br (decide (y1.2.2.1<(↑x0.n:Int))) (
  .br (decide (y1.2.2.1<(↑x0.n:Int))) (
   .el x0.1 (x0.n) y1.2.2.1 fun y2 =>
   .ql25 (y2.add (Int.toNat y1.2.2.1*(1:Nat))) fun y3 =>
   .br (decide (y1.2.2.1<(↑x1.n:Int))) (
    .el x1.1 (x1.n) y1.2.2.1 fun y4 =>
    .ql25 (y4.add (Int.toNat y1.2.2.1*(1:Nat))) fun y5 =>
    .rq ((1000000000:Int)≠(0:Int)) <|
 .rq ([Value.int IntKind.i64 ((IntKind.i64.wrap (IntKind.i64.wrap (y1.2.1+y3)+y5)).tmod (1000000000:Int))].length=(1:Nat)*(1:Nat)) <|
 .rq (one [Value.int IntKind.i64 ((IntKind.i64.wrap (IntKind.i64.wrap (y1.2.1+y3)+y5)).tmod (1000000000:Int))]=true∧(y1.1.1+(1:Nat))*(8:Nat)≤(140737488355328:Nat)∧y1.1.1+(1:Nat)≤(9223372036854775807:Nat)) <|
 .rq ((1000000000:Int)≠(0:Int)) <|
 .nx 0 [.a 3 (y1.1.1+(1:Nat)) (y1.1.2++[Value.int IntKind.i64 ((IntKind.i64.wrap (IntKind.i64.wrap (y1.2.1+y3)+y5)).tmod (1000000000:Int))]),.v (.int .i64 (IntKind.i64.wrap ((IntKind.i64.wrap (IntKind.i64.wrap (y1.2.1+y3)+y5)).tdiv (1000000000:Int)))),.v (.int .i64 (IntKind.i64.wrap (y1.2.2.1+(1:Int))))]) <|
 .rq ((1000000000:Int)≠(0:Int)) <|
 .rq ([Value.int IntKind.i64 ((IntKind.i64.wrap (y1.2.1+y3)).tmod (1000000000:Int))].length=(1:Nat)*(1:Nat)) <|
 .rq (one [Value.int IntKind.i64 ((IntKind.i64.wrap (y1.2.1+y3)).tmod (1000000000:Int))]=true∧(y1.1.1+(1:Nat))*(8:Nat)≤(140737488355328:Nat)∧y1.1.1+(1:Nat)≤(9223372036854775807:Nat)) <|
 .rq ((1000000000:Int)≠(0:Int)) <|
 .nx 0 [.a 3 (y1.1.1+(1:Nat)) (y1.1.2++[Value.int IntKind.i64 ((IntKind.i64.wrap (y1.2.1+y3)).tmod (1000000000:Int))]),.v (.int .i64 (IntKind.i64.wrap ((IntKind.i64.wrap (y1.2.1+y3)).tdiv (1000000000:Int)))),.v (.int .i64 (IntKind.i64.wrap (y1.2.2.1+(1:Int))))]) <|
 .br (decide (y1.2.2.1<(↑x1.n:Int))) (
   .el x1.1 (x1.n) y1.2.2.1 fun y2 =>
   .ql25 (y2.add (Int.toNat y1.2.2.1*(1:Nat))) fun y3 =>
   .rq ((1000000000:Int)≠(0:Int)) <|
 .rq ([Value.int IntKind.i64 ((IntKind.i64.wrap (y1.2.1+y3)).tmod (1000000000:Int))].length=(1:Nat)*(1:Nat)) <|
 .rq (one [Value.int IntKind.i64 ((IntKind.i64.wrap (y1.2.1+y3)).tmod (1000000000:Int))]=true∧(y1.1.1+(1:Nat))*(8:Nat)≤(140737488355328:Nat)∧y1.1.1+(1:Nat)≤(9223372036854775807:Nat)) <|
 .rq ((1000000000:Int)≠(0:Int)) <|
 .nx 0 [.a 3 (y1.1.1+(1:Nat)) (y1.1.2++[Value.int IntKind.i64 ((IntKind.i64.wrap (y1.2.1+y3)).tmod (1000000000:Int))]),.v (.int .i64 (IntKind.i64.wrap ((IntKind.i64.wrap (y1.2.1+y3)).tdiv (1000000000:Int)))),.v (.int .i64 (IntKind.i64.wrap (y1.2.2.1+(1:Int))))]) <|
 .rq ((1000000000:Int)≠(0:Int)) <|
 .rq ([Value.int IntKind.i64 (Int.tmod y1.2.1 (1000000000:Int))].length=(1:Nat)*(1:Nat)) <|
 .rq (one [Value.int IntKind.i64 (Int.tmod y1.2.1 (1000000000:Int))]=true∧(y1.1.1+(1:Nat))*(8:Nat)≤(140737488355328:Nat)∧y1.1.1+(1:Nat)≤(9223372036854775807:Nat)) <|
 .rq ((1000000000:Int)≠(0:Int)) <|
 .nx 0 [.a 3 (y1.1.1+(1:Nat)) (y1.1.2++[Value.int IntKind.i64 (Int.tmod y1.2.1 (1000000000:Int))]),.v (.int .i64 (IntKind.i64.wrap (Int.tdiv y1.2.1 (1000000000:Int)))),.v (.int .i64 (IntKind.i64.wrap (y1.2.2.1+(1:Int))))]) <|
 .br (decide (y1.2.2.1<(↑x1.n:Int))) (
  .br (decide (y1.2.2.1<(↑x0.n:Int))) (
   .el x0.1 (x0.n) y1.2.2.1 fun y2 =>
   .ql25 (y2.add (Int.toNat y1.2.2.1*(1:Nat))) fun y3 =>
   .br (decide (y1.2.2.1<(↑x1.n:Int))) (
    .el x1.1 (x1.n) y1.2.2.1 fun y4 =>
    .ql25 (y4.add (Int.toNat y1.2.2.1*(1:Nat))) fun y5 =>
    .rq ((1000000000:Int)≠(0:Int)) <|
 .rq ([Value.int IntKind.i64 ((IntKind.i64.wrap (IntKind.i64.wrap (y1.2.1+y3)+y5)).tmod (1000000000:Int))].length=(1:Nat)*(1:Nat)) <|
 .rq (one [Value.int IntKind.i64 ((IntKind.i64.wrap (IntKind.i64.wrap (y1.2.1+y3)+y5)).tmod (1000000000:Int))]=true∧(y1.1.1+(1:Nat))*(8:Nat)≤(140737488355328:Nat)∧y1.1.1+(1:Nat)≤(9223372036854775807:Nat)) <|
 .rq ((1000000000:Int)≠(0:Int)) <|
 .nx 0 [.a 3 (y1.1.1+(1:Nat)) (y1.1.2++[Value.int IntKind.i64 ((IntKind.i64.wrap (IntKind.i64.wrap (y1.2.1+y3)+y5)).tmod (1000000000:Int))]),.v (.int .i64 (IntKind.i64.wrap ((IntKind.i64.wrap (IntKind.i64.wrap (y1.2.1+y3)+y5)).tdiv (1000000000:Int)))),.v (.int .i64 (IntKind.i64.wrap (y1.2.2.1+(1:Int))))]) <|
 .rq ((1000000000:Int)≠(0:Int)) <|
 .rq ([Value.int IntKind.i64 ((IntKind.i64.wrap (y1.2.1+y3)).tmod (1000000000:Int))].length=(1:Nat)*(1:Nat)) <|
 .rq (one [Value.int IntKind.i64 ((IntKind.i64.wrap (y1.2.1+y3)).tmod (1000000000:Int))]=true∧(y1.1.1+(1:Nat))*(8:Nat)≤(140737488355328:Nat)∧y1.1.1+(1:Nat)≤(9223372036854775807:Nat)) <|
 .rq ((1000000000:Int)≠(0:Int)) <|
 .nx 0 [.a 3 (y1.1.1+(1:Nat)) (y1.1.2++[Value.int IntKind.i64 ((IntKind.i64.wrap (y1.2.1+y3)).tmod (1000000000:Int))]),.v (.int .i64 (IntKind.i64.wrap ((IntKind.i64.wrap (y1.2.1+y3)).tdiv (1000000000:Int)))),.v (.int .i64 (IntKind.i64.wrap (y1.2.2.1+(1:Int))))]) <|
 .br (decide (y1.2.2.1<(↑x1.n:Int))) (
   .el x1.1 (x1.n) y1.2.2.1 fun y2 =>
   .ql25 (y2.add (Int.toNat y1.2.2.1*(1:Nat))) fun y3 =>
   .rq ((1000000000:Int)≠(0:Int)) <|
 .rq ([Value.int IntKind.i64 ((IntKind.i64.wrap (y1.2.1+y3)).tmod (1000000000:Int))].length=(1:Nat)*(1:Nat)) <|
 .rq (one [Value.int IntKind.i64 ((IntKind.i64.wrap (y1.2.1+y3)).tmod (1000000000:Int))]=true∧(y1.1.1+(1:Nat))*(8:Nat)≤(140737488355328:Nat)∧y1.1.1+(1:Nat)≤(9223372036854775807:Nat)) <|
 .rq ((1000000000:Int)≠(0:Int)) <|
 .nx 0 [.a 3 (y1.1.1+(1:Nat)) (y1.1.2++[Value.int IntKind.i64 ((IntKind.i64.wrap (y1.2.1+y3)).tmod (1000000000:Int))]),.v (.int .i64 (IntKind.i64.wrap ((IntKind.i64.wrap (y1.2.1+y3)).tdiv (1000000000:Int)))),.v (.int .i64 (IntKind.i64.wrap (y1.2.2.1+(1:Int))))]) <|
 .rq ((1000000000:Int)≠(0:Int)) <|
 .rq ([Value.int IntKind.i64 (Int.tmod y1.2.1 (1000000000:Int))].length=(1:Nat)*(1:Nat)) <|
 .rq (one [Value.int IntKind.i64 (Int.tmod y1.2.1 (1000000000:Int))]=true∧(y1.1.1+(1:Nat))*(8:Nat)≤(140737488355328:Nat)∧y1.1.1+(1:Nat)≤(9223372036854775807:Nat)) <|
 .rq ((1000000000:Int)≠(0:Int)) <|
 .nx 0 [.a 3 (y1.1.1+(1:Nat)) (y1.1.2++[Value.int IntKind.i64 (Int.tmod y1.2.1 (1000000000:Int))]),.v (.int .i64 (IntKind.i64.wrap (Int.tdiv y1.2.1 (1000000000:Int)))),.v (.int .i64 (IntKind.i64.wrap (y1.2.2.1+(1:Int))))]) <|
 .br (decide (y1.2.1 > (0:Int))) (
  .br (decide (y1.2.2.1<(↑x0.n:Int))) (
   .el x0.1 (x0.n) y1.2.2.1 fun y2 =>
   .ql25 (y2.add (Int.toNat y1.2.2.1*(1:Nat))) fun y3 =>
   .br (decide (y1.2.2.1<(↑x1.n:Int))) (
    .el x1.1 (x1.n) y1.2.2.1 fun y4 =>
    .ql25 (y4.add (Int.toNat y1.2.2.1*(1:Nat))) fun y5 =>
    .rq ((1000000000:Int)≠(0:Int)) <|
 .rq ([Value.int IntKind.i64 ((IntKind.i64.wrap (IntKind.i64.wrap (y1.2.1+y3)+y5)).tmod (1000000000:Int))].length=(1:Nat)*(1:Nat)) <|
 .rq (one [Value.int IntKind.i64 ((IntKind.i64.wrap (IntKind.i64.wrap (y1.2.1+y3)+y5)).tmod (1000000000:Int))]=true∧(y1.1.1+(1:Nat))*(8:Nat)≤(140737488355328:Nat)∧y1.1.1+(1:Nat)≤(9223372036854775807:Nat)) <|
 .rq ((1000000000:Int)≠(0:Int)) <|
 .nx 0 [.a 3 (y1.1.1+(1:Nat)) (y1.1.2++[Value.int IntKind.i64 ((IntKind.i64.wrap (IntKind.i64.wrap (y1.2.1+y3)+y5)).tmod (1000000000:Int))]),.v (.int .i64 (IntKind.i64.wrap ((IntKind.i64.wrap (IntKind.i64.wrap (y1.2.1+y3)+y5)).tdiv (1000000000:Int)))),.v (.int .i64 (IntKind.i64.wrap (y1.2.2.1+(1:Int))))]) <|
 .rq ((1000000000:Int)≠(0:Int)) <|
 .rq ([Value.int IntKind.i64 ((IntKind.i64.wrap (y1.2.1+y3)).tmod (1000000000:Int))].length=(1:Nat)*(1:Nat)) <|
 .rq (one [Value.int IntKind.i64 ((IntKind.i64.wrap (y1.2.1+y3)).tmod (1000000000:Int))]=true∧(y1.1.1+(1:Nat))*(8:Nat)≤(140737488355328:Nat)∧y1.1.1+(1:Nat)≤(9223372036854775807:Nat)) <|
 .rq ((1000000000:Int)≠(0:Int)) <|
 .nx 0 [.a 3 (y1.1.1+(1:Nat)) (y1.1.2++[Value.int IntKind.i64 ((IntKind.i64.wrap (y1.2.1+y3)).tmod (1000000000:Int))]),.v (.int .i64 (IntKind.i64.wrap ((IntKind.i64.wrap (y1.2.1+y3)).tdiv (1000000000:Int)))),.v (.int .i64 (IntKind.i64.wrap (y1.2.2.1+(1:Int))))]) <|
 .br (decide (y1.2.2.1<(↑x1.n:Int))) (
   .el x1.1 (x1.n) y1.2.2.1 fun y2 =>
   .ql25 (y2.add (Int.toNat y1.2.2.1*(1:Nat))) fun y3 =>
   .rq ((1000000000:Int)≠(0:Int)) <|
 .rq ([Value.int IntKind.i64 ((IntKind.i64.wrap (y1.2.1+y3)).tmod (1000000000:Int))].length=(1:Nat)*(1:Nat)) <|
 .rq (one [Value.int IntKind.i64 ((IntKind.i64.wrap (y1.2.1+y3)).tmod (1000000000:Int))]=true∧(y1.1.1+(1:Nat))*(8:Nat)≤(140737488355328:Nat)∧y1.1.1+(1:Nat)≤(9223372036854775807:Nat)) <|
 .rq ((1000000000:Int)≠(0:Int)) <|
 .nx 0 [.a 3 (y1.1.1+(1:Nat)) (y1.1.2++[Value.int IntKind.i64 ((IntKind.i64.wrap (y1.2.1+y3)).tmod (1000000000:Int))]),.v (.int .i64 (IntKind.i64.wrap ((IntKind.i64.wrap (y1.2.1+y3)).tdiv (1000000000:Int)))),.v (.int .i64 (IntKind.i64.wrap (y1.2.2.1+(1:Int))))]) <|
 .rq ((1000000000:Int)≠(0:Int)) <|
 .rq ([Value.int IntKind.i64 (Int.tmod y1.2.1 (1000000000:Int))].length=(1:Nat)*(1:Nat)) <|
 .rq (one [Value.int IntKind.i64 (Int.tmod y1.2.1 (1000000000:Int))]=true∧(y1.1.1+(1:Nat))*(8:Nat)≤(140737488355328:Nat)∧y1.1.1+(1:Nat)≤(9223372036854775807:Nat)) <|
 .rq ((1000000000:Int)≠(0:Int)) <|
 .nx 0 [.a 3 (y1.1.1+(1:Nat)) (y1.1.2++[Value.int IntKind.i64 (Int.tmod y1.2.1 (1000000000:Int))]),.v (.int .i64 (IntKind.i64.wrap (Int.tdiv y1.2.1 (1000000000:Int)))),.v (.int .i64 (IntKind.i64.wrap (y1.2.2.1+(1:Int))))]) <|
 .fz y1.1.1 y1.1.2 3 fun b2 c2 =>
 .ret [.slice (some { block:=b2,off:=(0:Nat):Addr }) y1.1.1 (c2)]
theorem fS_l02Add x0 x1:qft aS_l02Add 171 [Sc.val .l x0,Sc.val .l x1] (tS_l02Add x0 x1) :=fitK (by kernel_rfl)
def aS_l05Gcd:An:=⟨[(3,[.s 5,.s 6],[.o (.o (.l)),.o (.o (.l))])],[],[]⟩
def tS_l05Gcd (x0:SlV) (x1:SlV):T :=
 .lp [.o (.o (.l)),.o (.o (.l))] [.v (Sc.val .l x0),.v (Sc.val .l x1)] fun y1 =>
 .br (decide ((↑y1.2.1.n:Int) > (0:Int))) (
  .qc26 117 [Sc.val .l y1.1,Sc.val .l y1.2.1] fun y2 =>
  .nx 0 [.v (Sc.val .l y1.2.1),.v (Sc.val .l y2.2.1)]) <|
 .ret [Sc.val .l y1.1]
theorem fS_l05Gcd x0 x1:qft aS_l05Gcd 172 [Sc.val .l x0,Sc.val .l x1] (tS_l05Gcd x0 x1) :=fitK (by kernel_rfl)
def tI_roundModes :T :=
 .ret [.agg #[.string ({ data:={ toList:=[(100:UInt8),(111:UInt8),(119:UInt8),(110:UInt8)]:Array UInt8 }:ByteArray }),(Value.func (Fn.func (176:Nat)) { toList:=[]:Array Value } { toList:=[]:Array Value }),.string ({ data:={ toList:=[(117:UInt8),(112:UInt8)]:Array UInt8 }:ByteArray }),(Value.func (Fn.func (177:Nat)) { toList:=[]:Array Value } { toList:=[]:Array Value }),.string ({ data:={ toList:=[(102:UInt8),(108:UInt8),(111:UInt8),(111:UInt8),(114:UInt8)]:Array UInt8 }:ByteArray }),(Value.func (Fn.func (178:Nat)) { toList:=[]:Array Value } { toList:=[]:Array Value }),.string ({ data:={ toList:=[(99:UInt8),(101:UInt8),(105:UInt8),(108:UInt8)]:Array UInt8 }:ByteArray }),(Value.func (Fn.func (179:Nat)) { toList:=[]:Array Value } { toList:=[]:Array Value }),.string ({ data:={ toList:=[(104:UInt8),(97:UInt8),(108:UInt8),(102:UInt8),(100:UInt8),(111:UInt8),(119:UInt8),(110:UInt8)]:Array UInt8 }:ByteArray }),(Value.func (Fn.func (180:Nat)) { toList:=[]:Array Value } { toList:=[]:Array Value }),.string ({ data:={ toList:=[(104:UInt8),(97:UInt8),(108:UInt8),(102:UInt8),(117:UInt8),(112:UInt8)]:Array UInt8 }:ByteArray }),(Value.func (Fn.func (181:Nat)) { toList:=[]:Array Value } { toList:=[]:Array Value }),.string ({ data:={ toList:=[(104:UInt8),(97:UInt8),(108:UInt8),(102:UInt8),(101:UInt8),(118:UInt8),(101:UInt8),(110:UInt8)]:Array UInt8 }:ByteArray }),(Value.func (Fn.func (182:Nat)) { toList:=[]:Array Value } { toList:=[]:Array Value })]]
theorem fI_roundModes :qft qa0 173 [] (tI_roundModes ) :=fitK (by kernel_rfl)
def tI_NatEven (x0:SlV):T :=
 .qc9 103 [Sc.val .l x0] fun y1 =>
 .br y1 (
  .br ((↑x0.n:Int) == (0:Int)) (
   .rT) <|
 .el x0.1 (x0.n) ((0:Int)) fun y2 =>
  .ql25 (y2.add (Int.toNat (0:Int)*(1:Nat))) fun y3 =>
  .rq ((2:Int)≠(0:Int)) <|
 .ret [.bool (y3.tmod (2:Int) == (0:Int))]) <|
 .rF
theorem fI_NatEven x0:qft qa0 174 [Sc.val .l x0] (tI_NatEven x0) :=fitK (by kernel_rfl)
def aS_l01All:An:=⟨[(2,[.s 11],[.o (.o (.i .i64))])],[],[]⟩
def tS_l01All (x0:ByteArray) (x1:Int) (x2:Int) (x3:Int) (x4:Int):T :=
 .lp [.o (.o (.i .i64))] [.v (.int .i64 0)] fun y1 =>
 .br (decide (y1.1<(↑x0.size:Int))) (
  .rq ((0:Int)≤y1.1∧y1.1<(↑x0.size:Int)) <|
 .br (decide (at0 x0 (Int.toNat y1.1)<x1)) (
   .rq ((0:Int)≤y1.1∧y1.1<(↑x0.size:Int)) <|
 .br (decide (at0 x0 (Int.toNat y1.1)<x3)) (
    .rF) <|
 .rq ((0:Int)≤y1.1∧y1.1<(↑x0.size:Int)) <|
 .br (decide (at0 x0 (Int.toNat y1.1) > x4)) (
    .rF) <|
 .nx 0 [.v (.int .i64 (IntKind.i64.wrap (y1.1+(1:Int))))]) <|
 .rq ((0:Int)≤y1.1∧y1.1<(↑x0.size:Int)) <|
 .br (decide (at0 x0 (Int.toNat y1.1) > x2)) (
   .rq ((0:Int)≤y1.1∧y1.1<(↑x0.size:Int)) <|
 .br (decide (at0 x0 (Int.toNat y1.1)<x3)) (
    .rF) <|
 .rq ((0:Int)≤y1.1∧y1.1<(↑x0.size:Int)) <|
 .br (decide (at0 x0 (Int.toNat y1.1) > x4)) (
    .rF) <|
 .nx 0 [.v (.int .i64 (IntKind.i64.wrap (y1.1+(1:Int))))]) <|
 .nx 0 [.v (.int .i64 (IntKind.i64.wrap (y1.1+(1:Int))))]) <|
 .ret [.bool (decide ((↑x0.size:Int) > (0:Int)))]
theorem fS_l01All x0 x1 x2 x3 x4:qft aS_l01All 175 [.string x0,.int .u8 x1,.int .u8 x2,.int .u8 x3,.int .u8 x4] (tS_l01All x0 x1 x2 x3 x4) :=fitK (by kernel_rfl)
def tI_roundModes_1 (_x0:Bool) (_x1:Int) (_x2:Bool):T :=
 .rF
theorem fI_roundModes_1 x0 x1 x2:qft qa0 176 [.bool x0,.int .i64 x1,.bool x2] (tI_roundModes_1 x0 x1 x2) :=fitK (by kernel_rfl)
def tI_roundModes_2 (_x0:Bool) (_x1:Int) (_x2:Bool):T :=
 .rT
theorem fI_roundModes_2 x0 x1 x2:qft qa0 177 [.bool x0,.int .i64 x1,.bool x2] (tI_roundModes_2 x0 x1 x2) :=fitK (by kernel_rfl)
def tI_roundModes_3 (x0:Bool) (_x1:Int) (_x2:Bool):T :=
 .ret [.bool x0]
theorem fI_roundModes_3 x0 x1 x2:qft qa0 178 [.bool x0,.int .i64 x1,.bool x2] (tI_roundModes_3 x0 x1 x2) :=fitK (by kernel_rfl)
def tI_roundModes_4 (x0:Bool) (_x1:Int) (_x2:Bool):T :=
 .ret [.bool (!x0)]
theorem fI_roundModes_4 x0 x1 x2:qft qa0 179 [.bool x0,.int .i64 x1,.bool x2] (tI_roundModes_4 x0 x1 x2) :=fitK (by kernel_rfl)
def tI_roundModes_5 (_x0:Bool) (x1:Int) (_x2:Bool):T :=
 .ret [.bool (decide (x1 > (0:Int)))]
theorem fI_roundModes_5 x0 x1 x2:qft qa0 180 [.bool x0,.int .i64 x1,.bool x2] (tI_roundModes_5 x0 x1 x2) :=fitK (by kernel_rfl)
def tI_roundModes_6 (_x0:Bool) (x1:Int) (_x2:Bool):T :=
 .ret [.bool (decide (x1≥(0:Int)))]
theorem fI_roundModes_6 x0 x1 x2:qft qa0 181 [.bool x0,.int .i64 x1,.bool x2] (tI_roundModes_6 x0 x1 x2) :=fitK (by kernel_rfl)
def tI_roundModes_7 (_x0:Bool) (x1:Int) (x2:Bool):T :=
 .br (decide (x1 > (0:Int))) (
  .rT) <|
 .br (x1 == (0:Int)) (
  .ret [.bool x2]) <|
 .rF
theorem fI_roundModes_7 x0 x1 x2:qft qa0 182 [.bool x0,.int .i64 x1,.bool x2] (tI_roundModes_7 x0 x1 x2) :=fitK (by kernel_rfl)
end
end Go.Proofs.YtmppmpceccpdlaaGreatDoor
