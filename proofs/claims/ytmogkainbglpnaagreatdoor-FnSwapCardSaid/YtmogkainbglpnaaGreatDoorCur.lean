/-
  The table of currencies, in the program's order and in the reference's; what the two find in it.
-/
import Derived.Test.YtmogkainbglpnaaGreatDoorTA
import Derived.Test.YtmogkainbglpnaaGreatDoorMath
namespace Go.Proofs.YtmogkainbglpnaaGreatDoor
open Sx
set_option maxRecDepth 100000
noncomputable section
def tS_DecOk (x0:qy5):T :=
 .qc4 92 [qv1 (x0.1,x0.2.1,())] fun y1 =>
 .br y1 (
  .br (decide ((↑x0.2.1.n:Int)≤(6:Int))) (
   .qc4 122 [.int .i64 x0.2.2.1,.int .i64 0,.int .i64 30] fun y2 =>
   .ret [.bool y2]) <|
 .rF) <|
 .rF
theorem fS_DecOk x0:qft qa0 138 [qv5 x0] (tS_DecOk x0) :=fitK (by kernel_rfl)
def tS_IntSign (x0:qy1):T :=
 .qc2 163 [qv1 x0,qv1 ((false),nilS,())] fun y1 =>
 .ret [.int .i64 y1]
theorem fS_IntSign x0:qft qa0 139 [qv1 x0] (tS_IntSign x0) :=fitK (by kernel_rfl)
def aS_l02Trim:An:=⟨[(2,[.s 3],[.o (.o (.i .i64))])],[],[]⟩
def tS_l02Trim (x0:SlV):T :=
 .lp [.o (.o (.i .i64))] [.v (.int .i64 ((↑x0.n:Int)))] fun y1 =>
 .br (decide (y1.1 > (0:Int))) (
  .el x0.1 (x0.n) (IntKind.i64.wrap (y1.1-(1:Int))) fun y2 =>
  .ql10 (y2.add ((IntKind.i64.wrap (y1.1-(1:Int))).toNat*(1:Nat))) fun y3 =>
  .br (y3 == (0:Int)) (
   .nx 0 [.v (.int .i64 (IntKind.i64.wrap (y1.1-(1:Int))))]) <|
 .rq ((0:Int)≤(0:Int)∧(0:Int)≤y1.1∧y1.1≤(↑x0.c:Int)∧(↑x0.c:Int)≤(↑x0.c:Int)) <|
 .ret [.slice (if (↑x0.c:Int).toNat=Int.toNat (0:Int) then x0.1 else Option.map (fun x=>x.add (Int.toNat (0:Int)*Go.Proofs.Tryz.prog.types[(3:Nat)].size)) x0.1) (Int.toNat y1.1-Int.toNat (0:Int)) ((↑x0.c:Int).toNat-Int.toNat (0:Int))]) <|
 .rq ((0:Int)≤(0:Int)∧(0:Int)≤y1.1∧y1.1≤(↑x0.c:Int)∧(↑x0.c:Int)≤(↑x0.c:Int)) <|
 .ret [.slice (if (↑x0.c:Int).toNat=Int.toNat (0:Int) then x0.1 else Option.map (fun x=>x.add (Int.toNat (0:Int)*Go.Proofs.Tryz.prog.types[(3:Nat)].size)) x0.1) (Int.toNat y1.1-Int.toNat (0:Int)) ((↑x0.c:Int).toNat-Int.toNat (0:Int))]
theorem fS_l02Trim x0:qft aS_l02Trim 140 [Sc.val .l x0] (tS_l02Trim x0) :=fitK (by kernel_rfl)
def tI_RatRound (x0:qy0) (x1:Int):T :=
 .qc4 61 [qv0 x0] fun y1 =>
 .bn y1 (.ret [qv1 ((false),nilS,()),.bool (false)]) <|
 .qc4 112 [.int .i64 x1] fun y2 =>
 .bn y2 (.ret [qv1 ((false),nilS,()),.bool (false)]) <|
 .qc11 164 [qv1 (x0.1,x0.2.1,()),Sc.val .l x0.2.2.1,.int .i64 x1] fun y3 =>
 .ret [qv1 y3,.bool (true)]
theorem fI_RatRound x0 x1:qft qa0 141 [qv0 x0,.int .i64 x1] (tI_RatRound x0 x1) :=fitK (by kernel_rfl)
def tI_RatSub (x0:qy0) (x1:qy0):T :=
 .qc4 41 [qv0 x0,qv0 x1] fun y1 =>
 .bn y1 (.ret [qv0 ((false),nilS,nilS,()),.bool (false)]) <|
 .rg <|
 .qc6 124 [qv0 x1] fun y2 =>
 .qc5 20 [qv0 x0,qv0 y2] fun y3 =>
 .ret [qv0 y3.1,.bool y3.2.1]
theorem fI_RatSub x0 x1:qft qa0 142 [qv0 x0,qv0 x1] (tI_RatSub x0 x1) :=fitK (by kernel_rfl)
def tI_isScale (x0:Int):T :=
 .br (decide (x0≥(0:Int))) (
  .ret [.bool (decide (x0≤(30:Int)))]) <|
 .rF
theorem fI_isScale x0:qft qa0 146 [.int .i64 x0] (tI_isScale x0) :=fitK (by kernel_rfl)
def aI_subTimes:An:=⟨[(3,[.s 0,.s 7,.s 13],[.o (.o (.l)),.o (.o (.i .i64)),.o (.o (.i .i64))])],[],[]⟩
def tI_subTimes (x0:SlV) (x1:SlV) (x2:Int):T :=
 .lp [.o (.o (.l)),.o (.o (.i .i64)),.o (.o (.i .i64))] [.v (Sc.val .l x0),.v (.int .i64 0),.v (.int .i64 0)] fun y1 =>
 .br (decide (y1.2.2.1<(↑x1.n:Int))) (
  .el x1.1 (x1.n) y1.2.2.1 fun y2 =>
  .ql10 (y2.add (Int.toNat y1.2.2.1*(1:Nat))) fun y3 =>
  .el y1.1.1 (y1.1.n) y1.2.2.1 fun y4 =>
  .ql10 (y4.add (Int.toNat y1.2.2.1*(1:Nat))) fun y5 =>
  .br (decide (IntKind.i64.wrap (IntKind.i64.wrap (y5-IntKind.i64.wrap (y3*x2))-y1.2.1)<(0:Int))) (
   .rq ((1000000000:Int)≠(0:Int)) <|
 .el y1.1.1 (y1.1.n) y1.2.2.1 fun y6 =>
   .st (y6.add (Int.toNat y1.2.2.1*(1:Nat))) [.int .i64 (IntKind.i64.wrap (IntKind.i64.wrap (IntKind.i64.wrap (y5-IntKind.i64.wrap (y3*x2))-y1.2.1)+IntKind.i64.wrap (IntKind.i64.wrap ((IntKind.i64.wrap (IntKind.i64.wrap (IntKind.i64.wrap ((0:Int)-IntKind.i64.wrap (IntKind.i64.wrap (y5-IntKind.i64.wrap (y3*x2))-y1.2.1))+(1000000000:Int))-(1:Int))).tdiv (1000000000:Int))*(1000000000:Int))))] <|
 .nx 0 [.v (Sc.val .l y1.1),.v (.int .i64 (IntKind.i64.wrap ((IntKind.i64.wrap (IntKind.i64.wrap (IntKind.i64.wrap ((0:Int)-IntKind.i64.wrap (IntKind.i64.wrap (y5-IntKind.i64.wrap (y3*x2))-y1.2.1))+(1000000000:Int))-(1:Int))).tdiv (1000000000:Int)))),.v (.int .i64 (IntKind.i64.wrap (y1.2.2.1+(1:Int))))]) <|
 .el y1.1.1 (y1.1.n) y1.2.2.1 fun y6 =>
  .st (y6.add (Int.toNat y1.2.2.1*(1:Nat))) [.int .i64 (IntKind.i64.wrap (IntKind.i64.wrap (y5-IntKind.i64.wrap (y3*x2))-y1.2.1))] <|
 .nx 0 [.v (Sc.val .l y1.1),.v (.int .i64 0),.v (.int .i64 (IntKind.i64.wrap (y1.2.2.1+(1:Int))))]) <|
 .el y1.1.1 (y1.1.n) ((↑x1.n:Int)) fun y2 =>
 .ql10 (y2.add ((↑x1.n:Int).toNat*(1:Nat))) fun y3 =>
 .el y1.1.1 (y1.1.n) ((↑x1.n:Int)) fun y4 =>
 .st (y4.add ((↑x1.n:Int).toNat*(1:Nat))) [.int .i64 (IntKind.i64.wrap (y3-y1.2.1))] <|
 .el y1.1.1 (y1.1.n) ((↑x1.n:Int)) fun y5 =>
 .ql10 (y5.add ((↑x1.n:Int).toNat*(1:Nat))) fun y6 =>
 .ret [.bool (decide (y6<(0:Int)))]
theorem fI_subTimes x0 x1 x2:qft aI_subTimes 147 [Sc.val .l x0,Sc.val .l x1,.int .i64 x2] (tI_subTimes x0 x1 x2) :=fitK (by kernel_rfl)
def aI_addBack:An:=⟨[(2,[.s 0,.s 4,.s 9],[.o (.o (.l)),.o (.o (.i .i64)),.o (.o (.i .i64))])],[],[]⟩
def tI_addBack (x0:SlV) (x1:SlV):T :=
 .lp [.o (.o (.l)),.o (.o (.i .i64)),.o (.o (.i .i64))] [.v (Sc.val .l x0),.v (.int .i64 0),.v (.int .i64 0)] fun y1 =>
 .br (decide (y1.2.2.1<(↑x1.n:Int))) (
  .el x1.1 (x1.n) y1.2.2.1 fun y2 =>
  .ql10 (y2.add (Int.toNat y1.2.2.1*(1:Nat))) fun y3 =>
  .el y1.1.1 (y1.1.n) y1.2.2.1 fun y4 =>
  .ql10 (y4.add (Int.toNat y1.2.2.1*(1:Nat))) fun y5 =>
  .rq ((1000000000:Int)≠(0:Int)) <|
 .el y1.1.1 (y1.1.n) y1.2.2.1 fun y6 =>
  .st (y6.add (Int.toNat y1.2.2.1*(1:Nat))) [.int .i64 ((IntKind.i64.wrap (y1.2.1+IntKind.i64.wrap (y5+y3))).tmod (1000000000:Int))] <|
 .rq ((1000000000:Int)≠(0:Int)) <|
 .nx 0 [.v (Sc.val .l y1.1),.v (.int .i64 (IntKind.i64.wrap ((IntKind.i64.wrap (y1.2.1+IntKind.i64.wrap (y5+y3))).tdiv (1000000000:Int)))),.v (.int .i64 (IntKind.i64.wrap (y1.2.2.1+(1:Int))))]) <|
 .el y1.1.1 (y1.1.n) ((↑x1.n:Int)) fun y2 =>
 .ql10 (y2.add ((↑x1.n:Int).toNat*(1:Nat))) fun y3 =>
 .el y1.1.1 (y1.1.n) ((↑x1.n:Int)) fun y4 =>
 .st (y4.add ((↑x1.n:Int).toNat*(1:Nat))) [.int .i64 (IntKind.i64.wrap (y3+y1.2.1))] <|
 .ret []
theorem fI_addBack x0 x1:qft aI_addBack 148 [Sc.val .l x0,Sc.val .l x1] (tI_addBack x0 x1) :=fitK (by kernel_rfl)
def aS_l03Small:An:=⟨[(4,[.s 6,.s 7,.s 8],[.a 3,.o (.o (.i .i64)),.o (.o (.i .i64))])],[],[]⟩
def tS_l03Small (x0:SlV) (x1:Int):T :=
 .rq ((0:Int)≤(↑x0.n:Int)∧(↑x0.n:Int)≤(↑x0.n:Int)∧(↑(8:Nat):Int)*(↑x0.n:Int)≤(281474976710656:Int)∧(↑x0.n:Int)≤(9223372036854775807:Int)) <|
 .lp [.a 3,.o (.o (.i .i64)),.o (.o (.i .i64))] [.a 3 ((↑x0.n:Int).toNat) ((madeCells { toList:=[Value.int IntKind.i64 (0:Int)]:Array Value } ((↑x0.n:Int).toNat*(1:Nat))).toList),.v (.int .i64 0),.v (.int .i64 (IntKind.i64.wrap ((↑x0.n:Int)-(1:Int))))] fun y1 =>
 .br (decide (y1.2.2.1≥(0:Int))) (
  .el x0.1 (x0.n) y1.2.2.1 fun y2 =>
  .ql10 (y2.add (Int.toNat y1.2.2.1*(1:Nat))) fun y3 =>
  .rq (x1≠(0:Int)) <|
 .rq ((0:Int)≤y1.2.2.1∧y1.2.2.1<(↑y1.1.1:Int)) <|
 .rq (Int.toNat y1.2.2.1*(1:Nat)+[Value.int IntKind.i64 (IntKind.i64.wrap ((IntKind.i64.wrap (IntKind.i64.wrap (y1.2.1*(1000000000:Int))+y3)).tdiv x1))].length≤y1.1.2.length) <|
 .rq (x1≠(0:Int)) <|
 .nx 0 [.a 3 y1.1.1 (setl y1.1.2 (Int.toNat y1.2.2.1*(1:Nat)) [Value.int IntKind.i64 (IntKind.i64.wrap ((IntKind.i64.wrap (IntKind.i64.wrap (y1.2.1*(1000000000:Int))+y3)).tdiv x1))]),.v (.int .i64 ((IntKind.i64.wrap (IntKind.i64.wrap (y1.2.1*(1000000000:Int))+y3)).tmod x1)),.v (.int .i64 (IntKind.i64.wrap (y1.2.2.1-(1:Int))))]) <|
 .fz y1.1.1 y1.1.2 3 fun b2 c2 =>
 .qc17 140 [.slice (some { block:=b2,off:=(0:Nat):Addr }) y1.1.1 (c2)] fun y3 =>
 .ret [Sc.val .l y3,.int .i64 y1.2.1]
theorem fS_l03Small x0 x1:qft aS_l03Small 149 [Sc.val .l x0,.int .i64 x1] (tS_l03Small x0 x1) :=fitK (by kernel_rfl)
def aS_l03Digit:An:=⟨[(3,[.s 5,.s 6],[.o (.o (.i .i64)),.o (.o (.i .i64))])],[],[]⟩
def tS_l03Digit (x0:SlV) (x1:SlV):T :=
 .lp [.o (.o (.i .i64)),.o (.o (.i .i64))] [.v (.int .i64 0),.v (.int .i64 999999999)] fun y1 =>
 .br (decide (y1.1<y1.2.1)) (
  .rq ((2:Int)≠(0:Int)) <|
 .qc17 70 [.int .i64 (IntKind.i64.wrap ((IntKind.i64.wrap (IntKind.i64.wrap (y1.1+y1.2.1)+(1:Int))).tdiv (2:Int)))] fun y2 =>
  .qc17 152 [Sc.val .l x1,Sc.val .l y2] fun y3 =>
  .qc2 94 [Sc.val .l y3,Sc.val .l x0] fun y4 =>
  .br (decide (y4≤(0:Int))) (
   .nx 0 [.v (.int .i64 (IntKind.i64.wrap ((IntKind.i64.wrap (IntKind.i64.wrap (y1.1+y1.2.1)+(1:Int))).tdiv (2:Int)))),.v (.int .i64 y1.2.1)]) <|
 .nx 0 [.v (.int .i64 y1.1),.v (.int .i64 (IntKind.i64.wrap (IntKind.i64.wrap ((IntKind.i64.wrap (IntKind.i64.wrap (y1.1+y1.2.1)+(1:Int))).tdiv (2:Int))-(1:Int))))]) <|
 .ret [.int .i64 y1.1]
theorem fS_l03Digit x0 x1:qft aS_l03Digit 150 [Sc.val .l x0,Sc.val .l x1] (tS_l03Digit x0 x1) :=fitK (by kernel_rfl)
def aS_l02Sub:An:=⟨[(4,[.s 5,.s 6,.s 12],[.a 3,.o (.o (.i .i64)),.o (.o (.i .i64))])],[],[]⟩
def tS_l02Sub (x0:SlV) (x1:SlV):T :=
 .lp [.a 3,.o (.o (.i .i64)),.o (.o (.i .i64))] [.a 3 ((0:Nat)) [],.v (.int .i64 0),.v (.int .i64 0)] fun y1 =>
 .br (decide (y1.2.2.1<(↑x0.n:Int))) (
  .el x0.1 (x0.n) y1.2.2.1 fun y2 =>
  .ql10 (y2.add (Int.toNat y1.2.2.1*(1:Nat))) fun y3 =>
  .br (decide (y1.2.2.1<(↑x1.n:Int))) (
   .el x1.1 (x1.n) y1.2.2.1 fun y4 =>
   .ql10 (y4.add (Int.toNat y1.2.2.1*(1:Nat))) fun y5 =>
   .br (decide (IntKind.i64.wrap (IntKind.i64.wrap (y3-y1.2.1)-y5)<(0:Int))) (
    .rq ([Value.int IntKind.i64 (IntKind.i64.wrap (IntKind.i64.wrap (IntKind.i64.wrap (y3-y1.2.1)-y5)+(1000000000:Int)))].length=(1:Nat)*(1:Nat)) <|
 .rq (one [Value.int IntKind.i64 (IntKind.i64.wrap (IntKind.i64.wrap (IntKind.i64.wrap (y3-y1.2.1)-y5)+(1000000000:Int)))]=true∧(y1.1.1+(1:Nat))*(8:Nat)≤(140737488355328:Nat)∧y1.1.1+(1:Nat)≤(9223372036854775807:Nat)) <|
 .nx 0 [.a 3 (y1.1.1+(1:Nat)) (y1.1.2++[Value.int IntKind.i64 (IntKind.i64.wrap (IntKind.i64.wrap (IntKind.i64.wrap (y3-y1.2.1)-y5)+(1000000000:Int)))]),.v (.int .i64 1),.v (.int .i64 (IntKind.i64.wrap (y1.2.2.1+(1:Int))))]) <|
 .rq ([Value.int IntKind.i64 (IntKind.i64.wrap (IntKind.i64.wrap (y3-y1.2.1)-y5))].length=(1:Nat)*(1:Nat)) <|
 .rq (one [Value.int IntKind.i64 (IntKind.i64.wrap (IntKind.i64.wrap (y3-y1.2.1)-y5))]=true∧(y1.1.1+(1:Nat))*(8:Nat)≤(140737488355328:Nat)∧y1.1.1+(1:Nat)≤(9223372036854775807:Nat)) <|
 .nx 0 [.a 3 (y1.1.1+(1:Nat)) (y1.1.2++[Value.int IntKind.i64 (IntKind.i64.wrap (IntKind.i64.wrap (y3-y1.2.1)-y5))]),.v (.int .i64 0),.v (.int .i64 (IntKind.i64.wrap (y1.2.2.1+(1:Int))))]) <|
 .br (decide (IntKind.i64.wrap (y3-y1.2.1)<(0:Int))) (
   .rq ([Value.int IntKind.i64 (IntKind.i64.wrap (IntKind.i64.wrap (y3-y1.2.1)+(1000000000:Int)))].length=(1:Nat)*(1:Nat)) <|
 .rq (one [Value.int IntKind.i64 (IntKind.i64.wrap (IntKind.i64.wrap (y3-y1.2.1)+(1000000000:Int)))]=true∧(y1.1.1+(1:Nat))*(8:Nat)≤(140737488355328:Nat)∧y1.1.1+(1:Nat)≤(9223372036854775807:Nat)) <|
 .nx 0 [.a 3 (y1.1.1+(1:Nat)) (y1.1.2++[Value.int IntKind.i64 (IntKind.i64.wrap (IntKind.i64.wrap (y3-y1.2.1)+(1000000000:Int)))]),.v (.int .i64 1),.v (.int .i64 (IntKind.i64.wrap (y1.2.2.1+(1:Int))))]) <|
 .rq ([Value.int IntKind.i64 (IntKind.i64.wrap (y3-y1.2.1))].length=(1:Nat)*(1:Nat)) <|
 .rq (one [Value.int IntKind.i64 (IntKind.i64.wrap (y3-y1.2.1))]=true∧(y1.1.1+(1:Nat))*(8:Nat)≤(140737488355328:Nat)∧y1.1.1+(1:Nat)≤(9223372036854775807:Nat)) <|
 .nx 0 [.a 3 (y1.1.1+(1:Nat)) (y1.1.2++[Value.int IntKind.i64 (IntKind.i64.wrap (y3-y1.2.1))]),.v (.int .i64 0),.v (.int .i64 (IntKind.i64.wrap (y1.2.2.1+(1:Int))))]) <|
 .fz y1.1.1 y1.1.2 3 fun b2 c2 =>
 .qc17 140 [.slice (some { block:=b2,off:=(0:Nat):Addr }) y1.1.1 (c2)] fun y3 =>
 .ret [Sc.val .l y3]
theorem fS_l02Sub x0 x1:qft aS_l02Sub 151 [Sc.val .l x0,Sc.val .l x1] (tS_l02Sub x0 x1) :=fitK (by kernel_rfl)
def aS_l02Mul:An:=⟨[(5,[.s 5,.s 28],[.a 3,.o (.o (.i .i64))]),(9,[.s 5,.s 8,.s 35],[.a 3,.o (.o (.i .i64)),.o (.o (.i .i64))])],[],[]⟩
def tS_l02Mul (x0:SlV) (x1:SlV):T :=
 .br ((↑x0.n:Int) == (0:Int)) (
  .ret [.slice none 0 0]) <|
 .br ((↑x1.n:Int) == (0:Int)) (
  .ret [.slice none 0 0]) <|
 .rq ((0:Int)≤IntKind.i64.wrap ((↑x0.n:Int)+(↑x1.n:Int))∧IntKind.i64.wrap ((↑x0.n:Int)+(↑x1.n:Int))≤IntKind.i64.wrap ((↑x0.n:Int)+(↑x1.n:Int))∧(↑(8:Nat):Int)*IntKind.i64.wrap ((↑x0.n:Int)+(↑x1.n:Int))≤(281474976710656:Int)∧IntKind.i64.wrap ((↑x0.n:Int)+(↑x1.n:Int))≤(9223372036854775807:Int)) <|
 .lp [.a 3,.o (.o (.i .i64))] [.a 3 ((IntKind.i64.wrap ((↑x0.n:Int)+(↑x1.n:Int))).toNat) ((madeCells { toList:=[Value.int IntKind.i64 (0:Int)]:Array Value } ((IntKind.i64.wrap ((↑x0.n:Int)+(↑x1.n:Int))).toNat*(1:Nat))).toList),.v (.int .i64 0)] fun y1 =>
 .br (decide (y1.2.1<(↑x0.n:Int))) (
  .el x0.1 (x0.n) y1.2.1 fun y2 =>
  .ql10 (y2.add (Int.toNat y1.2.1*(1:Nat))) fun y3 =>
  .lp [.a 3,.o (.o (.i .i64)),.o (.o (.i .i64))] [.a 3 y1.1.1 y1.1.2,.v (.int .i64 0),.v (.int .i64 0)] fun y4 =>
  .br (decide (y4.2.2.1<(↑x1.n:Int))) (
   .el x1.1 (x1.n) y4.2.2.1 fun y5 =>
   .ql10 (y5.add (Int.toNat y4.2.2.1*(1:Nat))) fun y6 =>
   .rq ((0:Int)≤IntKind.i64.wrap (y1.2.1+y4.2.2.1)∧IntKind.i64.wrap (y1.2.1+y4.2.2.1)<(↑y4.1.1:Int)) <|
 .xs y4.1.2 ((IntKind.i64.wrap (y1.2.1+y4.2.2.1)).toNat*(1:Nat)) (.o (.i .i64)) fun y7 =>
   .rq ((1000000000:Int)≠(0:Int)) <|
 .rq ((0:Int)≤IntKind.i64.wrap (y1.2.1+y4.2.2.1)∧IntKind.i64.wrap (y1.2.1+y4.2.2.1)<(↑y4.1.1:Int)) <|
 .rq ((IntKind.i64.wrap (y1.2.1+y4.2.2.1)).toNat*(1:Nat)+[Value.int IntKind.i64 ((IntKind.i64.wrap (IntKind.i64.wrap (y7+IntKind.i64.wrap (y3*y6))+y4.2.1)).tmod (1000000000:Int))].length≤y4.1.2.length) <|
 .rq ((1000000000:Int)≠(0:Int)) <|
 .nx 1 [.a 3 y4.1.1 (setl y4.1.2 ((IntKind.i64.wrap (y1.2.1+y4.2.2.1)).toNat*(1:Nat)) [Value.int IntKind.i64 ((IntKind.i64.wrap (IntKind.i64.wrap (y7+IntKind.i64.wrap (y3*y6))+y4.2.1)).tmod (1000000000:Int))]),.v (.int .i64 (IntKind.i64.wrap ((IntKind.i64.wrap (IntKind.i64.wrap (y7+IntKind.i64.wrap (y3*y6))+y4.2.1)).tdiv (1000000000:Int)))),.v (.int .i64 (IntKind.i64.wrap (y4.2.2.1+(1:Int))))]) <|
 .rq ((0:Int)≤IntKind.i64.wrap (y1.2.1+(↑x1.n:Int))∧IntKind.i64.wrap (y1.2.1+(↑x1.n:Int))<(↑y4.1.1:Int)) <|
 .rq ((IntKind.i64.wrap (y1.2.1+(↑x1.n:Int))).toNat*(1:Nat)+[(Sh1.o (Sc.i IntKind.i64)).val y4.2.1].length≤y4.1.2.length) <|
 .nx 0 [.a 3 y4.1.1 (setl y4.1.2 ((IntKind.i64.wrap (y1.2.1+(↑x1.n:Int))).toNat*(1:Nat)) [(Sh1.o (Sc.i IntKind.i64)).val y4.2.1]),.v (.int .i64 (IntKind.i64.wrap (y1.2.1+(1:Int))))]) <|
 .fz y1.1.1 y1.1.2 3 fun b2 c2 =>
 .qc17 140 [.slice (some { block:=b2,off:=(0:Nat):Addr }) y1.1.1 (c2)] fun y3 =>
 .ret [Sc.val .l y3]
theorem fS_l02Mul x0 x1:qft aS_l02Mul 152 [Sc.val .l x0,Sc.val .l x1] (tS_l02Mul x0 x1) :=fitK (by kernel_rfl)
def tS_IntCmp (x0:qy1) (x1:qy1):T :=
 .qc4 92 [qv1 x0] fun y1 =>
 .bn y1 (.ret [.int .i64 0]) <|
 .qc4 92 [qv1 x1] fun y2 =>
 .bn y2 (.ret [.int .i64 0]) <|
 .br x0.1 (
  .br (!x1.1) (
   .rM) <|
 .br (!x0.1) (
   .br x1.1 (
    .ret [.int .i64 1]) <|
 .br x0.1 (
    .qc2 94 [Sc.val .l x1.2.1,Sc.val .l x0.2.1] fun y3 =>
    .ret [.int .i64 y3]) <|
 .qc2 94 [Sc.val .l x0.2.1,Sc.val .l x1.2.1] fun y3 =>
   .ret [.int .i64 y3]) <|
 .br x0.1 (
   .qc2 94 [Sc.val .l x1.2.1,Sc.val .l x0.2.1] fun y3 =>
   .ret [.int .i64 y3]) <|
 .qc2 94 [Sc.val .l x0.2.1,Sc.val .l x1.2.1] fun y3 =>
  .ret [.int .i64 y3]) <|
 .br (!x0.1) (
  .br x1.1 (
   .ret [.int .i64 1]) <|
 .br x0.1 (
   .qc2 94 [Sc.val .l x1.2.1,Sc.val .l x0.2.1] fun y3 =>
   .ret [.int .i64 y3]) <|
 .qc2 94 [Sc.val .l x0.2.1,Sc.val .l x1.2.1] fun y3 =>
  .ret [.int .i64 y3]) <|
 .br x0.1 (
  .qc2 94 [Sc.val .l x1.2.1,Sc.val .l x0.2.1] fun y3 =>
  .ret [.int .i64 y3]) <|
 .qc2 94 [Sc.val .l x0.2.1,Sc.val .l x1.2.1] fun y3 =>
 .ret [.int .i64 y3]
theorem fS_IntCmp x0 x1:qft qa0 163 [qv1 x0,qv1 x1] (tS_IntCmp x0 x1) :=fitK (by kernel_rfl)
def tI_roundQuotient (x0:qy1) (x1:SlV) (x2:Int):T :=
 .qc31 87 [Sc.val .l x0.2.1,Sc.val .l x1] fun y1 =>
 .rg <|
 .br (decide ((↑y1.2.1.n:Int) > (0:Int))) (
  .qc43 173 [] fun y2 =>
  .rq ((0:Int)≤x2∧x2<(↑(7:Nat):Int)) <|
 .xs [.string y2.1,(Value.func (Fn.func y2.2.1) { toList:=[]:Array Value } { toList:=[]:Array Value }),.string y2.2.2.1,(Value.func (Fn.func y2.2.2.2.1) { toList:=[]:Array Value } { toList:=[]:Array Value }),.string y2.2.2.2.2.1,(Value.func (Fn.func y2.2.2.2.2.2.1) { toList:=[]:Array Value } { toList:=[]:Array Value }),.string y2.2.2.2.2.2.2.1,(Value.func (Fn.func y2.2.2.2.2.2.2.2.1) { toList:=[]:Array Value } { toList:=[]:Array Value }),.string y2.2.2.2.2.2.2.2.2.1,(Value.func (Fn.func y2.2.2.2.2.2.2.2.2.2.1) { toList:=[]:Array Value } { toList:=[]:Array Value }),.string y2.2.2.2.2.2.2.2.2.2.2.1,(Value.func (Fn.func y2.2.2.2.2.2.2.2.2.2.2.2.1) { toList:=[]:Array Value } { toList:=[]:Array Value }),.string y2.2.2.2.2.2.2.2.2.2.2.2.2.1,(Value.func (Fn.func y2.2.2.2.2.2.2.2.2.2.2.2.2.2.1) { toList:=[]:Array Value } { toList:=[]:Array Value })] (x2.toNat*(2:Nat)) (.g [.s,.f]) fun y3 =>
  .qc16 89 [Sc.val .l y1.2.1,Sc.val .l y1.2.1] fun y4 =>
  .qc13 90 [Sc.val .l y4,Sc.val .l x1] fun y5 =>
  .qc44 174 [Sc.val .l y1.1] fun y6 =>
  .call false y3.2.1 [.bool x0.1,.int .i64 y5,.bool (!y6)] (.v (.o (.b))) fun y7 =>
  .br y7 (
   .fz ((1:Nat)) [.int .i64 1] 3 fun b8 c8 =>
   .qc17 89 [Sc.val .l y1.1,.slice (some { block:=b8,off:=(0:Nat):Addr }) ((1:Nat)) (c8)] fun y9 =>
   .qc11 53 [.bool x0.1,Sc.val .l y9] fun y10 =>
   .ret [qv1 y10]) <|
 .qc11 53 [.bool x0.1,Sc.val .l y1.1] fun y8 =>
  .ret [qv1 y8]) <|
 .qc11 53 [.bool x0.1,Sc.val .l y1.1] fun y2 =>
 .ret [qv1 y2]
theorem fI_roundQuotient x0 x1 x2:qft qa0 164 [qv1 x0,Sc.val .l x1,.int .i64 x2] (tI_roundQuotient x0 x1 x2) :=fitK (by kernel_rfl)
def tI_roundModes :T :=
 .ret [.agg #[.string ({ data:={ toList:=[(100:UInt8),(111:UInt8),(119:UInt8),(110:UInt8)]:Array UInt8 }:ByteArray }),(Value.func (Fn.func (176:Nat)) { toList:=[]:Array Value } { toList:=[]:Array Value }),.string ({ data:={ toList:=[(117:UInt8),(112:UInt8)]:Array UInt8 }:ByteArray }),(Value.func (Fn.func (177:Nat)) { toList:=[]:Array Value } { toList:=[]:Array Value }),.string ({ data:={ toList:=[(102:UInt8),(108:UInt8),(111:UInt8),(111:UInt8),(114:UInt8)]:Array UInt8 }:ByteArray }),(Value.func (Fn.func (178:Nat)) { toList:=[]:Array Value } { toList:=[]:Array Value }),.string ({ data:={ toList:=[(99:UInt8),(101:UInt8),(105:UInt8),(108:UInt8)]:Array UInt8 }:ByteArray }),(Value.func (Fn.func (179:Nat)) { toList:=[]:Array Value } { toList:=[]:Array Value }),.string ({ data:={ toList:=[(104:UInt8),(97:UInt8),(108:UInt8),(102:UInt8),(100:UInt8),(111:UInt8),(119:UInt8),(110:UInt8)]:Array UInt8 }:ByteArray }),(Value.func (Fn.func (180:Nat)) { toList:=[]:Array Value } { toList:=[]:Array Value }),.string ({ data:={ toList:=[(104:UInt8),(97:UInt8),(108:UInt8),(102:UInt8),(117:UInt8),(112:UInt8)]:Array UInt8 }:ByteArray }),(Value.func (Fn.func (181:Nat)) { toList:=[]:Array Value } { toList:=[]:Array Value }),.string ({ data:={ toList:=[(104:UInt8),(97:UInt8),(108:UInt8),(102:UInt8),(101:UInt8),(118:UInt8),(101:UInt8),(110:UInt8)]:Array UInt8 }:ByteArray }),(Value.func (Fn.func (182:Nat)) { toList:=[]:Array Value } { toList:=[]:Array Value })]]
theorem fI_roundModes :qft qa0 173 [] (tI_roundModes ) :=fitK (by kernel_rfl)
def tI_NatEven (x0:SlV):T :=
 .qc4 103 [Sc.val .l x0] fun y1 =>
 .br y1 (
  .br ((↑x0.n:Int) == (0:Int)) (
   .rT) <|
 .el x0.1 (x0.n) ((0:Int)) fun y2 =>
  .ql10 (y2.add (Int.toNat (0:Int)*(1:Nat))) fun y3 =>
  .rq ((2:Int)≠(0:Int)) <|
 .ret [.bool (y3.tmod (2:Int) == (0:Int))]) <|
 .rF
theorem fI_NatEven x0:qft qa0 174 [Sc.val .l x0] (tI_NatEven x0) :=fitK (by kernel_rfl)
def tI_roundModes_1 (_x0:Bool) (_x1:Int) (_x2:Bool):T :=
 .rF
theorem fI_roundModes_1 x0 x1 x2:qft qa0 176 [.bool x0,.int .i64 x1,.bool x2] (tI_roundModes_1 x0 x1 x2) :=fitK (by kernel_rfl)
def tI_roundModes_2 (_x0:Bool) (_x1:Int) (_x2:Bool):T :=
 .rT
theorem fI_roundModes_2 x0 x1 x2:qft qa0 177 [.bool x0,.int .i64 x1,.bool x2] (tI_roundModes_2 x0 x1 x2) :=fitK (by kernel_rfl)
def tI_roundModes_3 (x0:Bool) (_x1:Int) (_x2:Bool):T :=
 .ret [.bool x0]
theorem fI_roundModes_3 x0 x1 x2:qft qa0 178 [.bool x0,.int .i64 x1,.bool x2] (tI_roundModes_3 x0 x1 x2) :=fitK (by kernel_rfl)
def tI_roundModes_4 (x0:Bool) (_x1:Int) (_x2:Bool):T :=
 .ret [.bool (!x0)]
theorem fI_roundModes_4 x0 x1 x2:qft qa0 179 [.bool x0,.int .i64 x1,.bool x2] (tI_roundModes_4 x0 x1 x2) :=fitK (by kernel_rfl)
def tI_roundModes_5 (_x0:Bool) (x1:Int) (_x2:Bool):T :=
 .ret [.bool (decide (x1 > (0:Int)))]
theorem fI_roundModes_5 x0 x1 x2:qft qa0 180 [.bool x0,.int .i64 x1,.bool x2] (tI_roundModes_5 x0 x1 x2) :=fitK (by kernel_rfl)
def tI_roundModes_6 (_x0:Bool) (x1:Int) (_x2:Bool):T :=
 .ret [.bool (decide (x1≥(0:Int)))]
theorem fI_roundModes_6 x0 x1 x2:qft qa0 181 [.bool x0,.int .i64 x1,.bool x2] (tI_roundModes_6 x0 x1 x2) :=fitK (by kernel_rfl)
def tI_roundModes_7 (_x0:Bool) (x1:Int) (x2:Bool):T :=
 .br (decide (x1 > (0:Int))) (
  .rT) <|
 .br (x1 == (0:Int)) (
  .ret [.bool x2]) <|
 .rF
theorem fI_roundModes_7 x0 x1 x2:qft qa0 182 [.bool x0,.int .i64 x1,.bool x2] (tI_roundModes_7 x0 x1 x2) :=fitK (by kernel_rfl)
end
end Go.Proofs.YtmogkainbglpnaaGreatDoor

namespace Go.Proofs.YtmogkainbglpnaaGreatDoor
open Sx
set_option maxRecDepth 100000
theorem Tryz.mix:Tryz.prog.follows .mixedOrders=true:=Tryz.checked.mixed
abbrev CurRow:Type:=Scs [.s,.s,.i .i64,.i .i64]
def curI:List CurRow:=[
 (⟨#[67,72,70]⟩,⟨#[55,53,54]⟩,2,5,()),
 (⟨#[69,85,82]⟩,⟨#[57,55,56]⟩,2,1,()),
 (⟨#[85,83,68]⟩,⟨#[56,52,48]⟩,2,1,()),
 (⟨#[71,66,80]⟩,⟨#[56,50,54]⟩,2,1,()),
 (⟨#[74,80,89]⟩,⟨#[51,57,50]⟩,0,1,()),
 (⟨#[83,69,75]⟩,⟨#[55,53,50]⟩,2,100,()),
 (⟨#[78,79,75]⟩,⟨#[53,55,56]⟩,2,100,()),
 (⟨#[68,75,75]⟩,⟨#[50,48,56]⟩,2,50,()),
 (⟨#[67,90,75]⟩,⟨#[50,48,51]⟩,2,100,()),
 (⟨#[72,85,70]⟩,⟨#[51,52,56]⟩,2,500,()),
 (⟨#[80,76,78]⟩,⟨#[57,56,53]⟩,2,1,()),
 (⟨#[67,65,68]⟩,⟨#[49,50,52]⟩,2,5,()),
 (⟨#[65,85,68]⟩,⟨#[48,51,54]⟩,2,5,()),
 (⟨#[78,90,68]⟩,⟨#[53,53,52]⟩,2,10,()),
 (⟨#[75,87,68]⟩,⟨#[52,49,52]⟩,3,5,()),
 (⟨#[66,72,68]⟩,⟨#[48,52,56]⟩,3,5,()),
 (⟨#[84,78,68]⟩,⟨#[55,56,56]⟩,3,10,()),
 (⟨#[73,83,75]⟩,⟨#[51,53,50]⟩,0,1,()),
 (⟨#[75,82,87]⟩,⟨#[52,49,48]⟩,0,10,()),
 (⟨#[67,76,70]⟩,⟨#[57,57,48]⟩,4,1,())]
def curS:List CurRow:=[
 (⟨#[65,85,68]⟩,⟨#[48,51,54]⟩,2,5,()),
 (⟨#[66,72,68]⟩,⟨#[48,52,56]⟩,3,5,()),
 (⟨#[67,65,68]⟩,⟨#[49,50,52]⟩,2,5,()),
 (⟨#[67,72,70]⟩,⟨#[55,53,54]⟩,2,5,()),
 (⟨#[67,76,70]⟩,⟨#[57,57,48]⟩,4,1,()),
 (⟨#[67,90,75]⟩,⟨#[50,48,51]⟩,2,100,()),
 (⟨#[68,75,75]⟩,⟨#[50,48,56]⟩,2,50,()),
 (⟨#[69,85,82]⟩,⟨#[57,55,56]⟩,2,1,()),
 (⟨#[71,66,80]⟩,⟨#[56,50,54]⟩,2,1,()),
 (⟨#[72,85,70]⟩,⟨#[51,52,56]⟩,2,500,()),
 (⟨#[73,83,75]⟩,⟨#[51,53,50]⟩,0,1,()),
 (⟨#[74,80,89]⟩,⟨#[51,57,50]⟩,0,1,()),
 (⟨#[75,82,87]⟩,⟨#[52,49,48]⟩,0,10,()),
 (⟨#[75,87,68]⟩,⟨#[52,49,52]⟩,3,5,()),
 (⟨#[78,79,75]⟩,⟨#[53,55,56]⟩,2,100,()),
 (⟨#[78,90,68]⟩,⟨#[53,53,52]⟩,2,10,()),
 (⟨#[80,76,78]⟩,⟨#[57,56,53]⟩,2,1,()),
 (⟨#[83,69,75]⟩,⟨#[55,53,50]⟩,2,100,()),
 (⟨#[84,78,68]⟩,⟨#[55,56,56]⟩,3,10,()),
 (⟨#[85,83,68]⟩,⟨#[56,52,48]⟩,2,1,())]
def rowC (r:CurRow):List Value:=Scs.vals [.s,.s,.i .i64,.i .i64] r
def curCells (l:List CurRow):List Value:=l.flatMap rowC
theorem rowC_len (r:CurRow):(rowC r).length=4:=rfl
theorem cur_at {l:List CurRow} {n:Nat} (h:n<l.length) (r:List Value):cutv (curCells l++r) (n*4) 4=some (rowC l[n]):=cutv_flat rowC_len h r
theorem cur_at' {l:List CurRow} {n:Nat} (h:n<l.length):cutv (curCells l) (n*4) 4=some (rowC l[n]):=by
 have:=cur_at h []
 rwa [List.append_nil] at this
def curHas (x:ByteArray) (r:CurRow):Bool:=r.1.toList == x.toList
def curFrom (l:List CurRow) (x:ByteArray) (n:Nat):Option CurRow:=(l.drop n).find? (curHas x)
theorem curFrom_step {l:List CurRow} {x:ByteArray} {n:Nat} (h:n<l.length):curFrom l x n=if curHas x l[n] then some l[n] else curFrom l x (n+1):=by
 unfold curFrom
 rw [List.drop_eq_getElem_cons h,List.find?_cons]
 cases curHas x l[n] <;> rfl
theorem curFrom_end {l:List CurRow} {x:ByteArray}:curFrom l x l.length=none:=by
 unfold curFrom; rw [List.drop_length]; rfl
def curRow0:CurRow:=(⟨#[]⟩,⟨#[]⟩,0,0,())
def curRowOf (x:ByteArray):CurRow:=(curFrom curI x 0).getD curRow0
def known (x:ByteArray):Bool:=(curFrom curI x 0).isSome
theorem cur_both (x:ByteArray):curFrom curS x 0=curFrom curI x 0:=by
 have key:∀ c∈curI.map (fun r=>r.1.toList),(curS.find? fun r=>r.1.toList == c)=(curI.find? fun r=>r.1.toList == c):=by decide +kernel
 by_cases h:x.toList∈curI.map (fun r=>r.1.toList)
 ·exact key _ h
 ·have hS:∀ r∈curS,r.1.toList∈curI.map (fun r=>r.1.toList):=by decide +kernel
  have h1:curFrom curS x 0=none:=by
   refine List.find?_eq_none.2 fun r hr hx=>h ?_
   have:=hS r hr
   rw [show x.toList=r.1.toList from(beq_iff_eq.1 hx).symm]; exact this
  have h2:curFrom curI x 0=none:=by
   refine List.find?_eq_none.2 fun r hr hx=>h ?_
   rw [show x.toList=r.1.toList from(beq_iff_eq.1 hx).symm]
   exact List.mem_map_of_mem hr
  rw [h1,h2]
theorem known_iff (x:ByteArray):known x=!((curRowOf x).1.toList == (⟨#[]⟩:ByteArray).toList):=by
 unfold known curRowOf
 cases h:curFrom curI x 0 with
 | none=>simp [curRow0]
 | some r =>
  have hm:r∈curI:=List.mem_of_find?_eq_some h
  have:∀ r∈curI,(!(r.1.toList == (⟨#[]⟩:ByteArray).toList))=true:=by decide +kernel
  exact(this r hm).symm
theorem cS_l08Table (V:Know):CallX Tryz.prog V 82 [] (fun V' r=>∃ b c spare t,V b=none∧V'=kset V b (curCells curS++spare,t)∧r=.slice (some ⟨b,0,none⟩) 20 c):=by
 refine CallX.of_fits Tryz.mix fS_l08Table fun _=>?_
 simp only [tS_l08Table,T.wp]
 intro b c spare hb hc _
 exact⟨b,c,spare,_,hb,rfl,rfl⟩
theorem cS_l08Find (V:Know) (x:ByteArray):CallX Tryz.prog V 47 [.string x] (fun V' r=>V.le V'∧r=qv8 (curRowOf x)):=by
 refine CallX.of_fits Tryz.mix (fS_l08Find x) fun _=>?_
 simp only [tS_l08Find,T.wp]
 refine(cS_l08Table V).mono ?_
 rintro V1 r ⟨b,c,spare,t,hb,rfl,rfl⟩
 refine⟨nofun,⟨some ⟨b,0,none⟩,20,c⟩,rfl,?_⟩
 refine⟨fun y V'=>V'=kset V b (curCells curS++spare,t)∧∃ n:Nat,y.1=(n:Int)∧n≤20∧curFrom curS x n=curFrom curS x 0,fun y=>(20-(y.1:Int)).toNat,
  ⟨((0:Int),⟨#[]⟩,⟨#[]⟩,(0:Int),(0:Int),()),rfl,rfl,0,rfl,by omega,rfl⟩,?_⟩
 rintro⟨(i:Int),s1,s2,(i1:Int),(i2:Int),u⟩ V' ⟨rfl,n,hi,hn,hf⟩
 replace hi:i=(n:Int):=hi
 subst hi
 have hlen:curS.length=20:=rfl
 refine⟨fun h=>?_,fun h=>?_⟩
 ·have hb1:n<curS.length:=by (have:(n:Int)<20:=(by simpa using h); omega)
  refine⟨_,rfl,by omega,(by omega:(n:Int)<20),curS[n],?_,fun h=>?_,fun h=>?_⟩
  ·simp only [addr_add_eq,loadV,kset_same,Bool.false_eq_true,if_false,Nat.zero_add,Int.toNat_natCast]
   exact cur_at hb1 spare
  ·have h2:curFrom curS x 0=some curS[n]:=by
    rw [← hf,curFrom_step hb1,if_pos (show curHas x _=true from h)]
   refine⟨kset_le hb,?_⟩
   rw [curRowOf,← cur_both,h2]; rfl
  ·have h2:curFrom curS x (n+1)=curFrom curS x 0:=by
    rw [← hf,curFrom_step hb1,if_neg (by rw [curHas,h]; decide)]
   have hw:IntKind.i64.wrap ((n:Int)+1)=((n+1:Nat):Int):=by rw [wrap_i64 (by omega)]; omega
   refine⟨_,rfl,(((n+1:Nat):Int),s1,s2,i1,i2,()),by rw [hw]; rfl,⟨rfl,n+1,rfl,by omega,h2⟩,?_⟩
   show(20-((n+1:Nat):Int)).toNat<(20-(n:Int)).toNat
   omega
 ·have hn20:n=20:=by (have:¬ (n:Int)<20:=(by simpa using h); omega)
  subst hn20
  refine⟨kset_le hb,?_⟩
  have h2:curFrom curS x 0=none:=by rw [← hf]; exact curFrom_end
  rw [curRowOf,← cur_both,h2]; rfl
theorem cS_CurKnown (V:Know) (x:ByteArray):CallX Tryz.prog V 16 [.string x] (fun V' r=>V.le V'∧r=.bool (known x)):=by
 refine CallX.of_fits Tryz.mix (fS_CurKnown x) fun _=>?_
 simp only [tS_CurKnown,T.wp]
 refine(cS_l08Find V x).mono ?_
 rintro V1 r ⟨hle,rfl⟩
 exact⟨nofun,_,rfl,hle,by rw [known_iff]; rfl⟩
def curY:Scs (List.replicate 20 [Sc.s,.s,.i .i64,.i .i64]).flatten:=(⟨#[67,72,70]⟩,⟨#[55,53,54]⟩,2,5,⟨#[69,85,82]⟩,⟨#[57,55,56]⟩,2,1,⟨#[85,83,68]⟩,⟨#[56,52,48]⟩,2,1,⟨#[71,66,80]⟩,⟨#[56,50,54]⟩,2,1,⟨#[74,80,89]⟩,⟨#[51,57,50]⟩,0,1,⟨#[83,69,75]⟩,⟨#[55,53,50]⟩,2,100,⟨#[78,79,75]⟩,⟨#[53,55,56]⟩,2,100,⟨#[68,75,75]⟩,⟨#[50,48,56]⟩,2,50,⟨#[67,90,75]⟩,⟨#[50,48,51]⟩,2,100,⟨#[72,85,70]⟩,⟨#[51,52,56]⟩,2,500,⟨#[80,76,78]⟩,⟨#[57,56,53]⟩,2,1,⟨#[67,65,68]⟩,⟨#[49,50,52]⟩,2,5,⟨#[65,85,68]⟩,⟨#[48,51,54]⟩,2,5,⟨#[78,90,68]⟩,⟨#[53,53,52]⟩,2,10,⟨#[75,87,68]⟩,⟨#[52,49,52]⟩,3,5,⟨#[66,72,68]⟩,⟨#[48,52,56]⟩,3,5,⟨#[84,78,68]⟩,⟨#[55,56,56]⟩,3,10,⟨#[73,83,75]⟩,⟨#[51,53,50]⟩,0,1,⟨#[75,82,87]⟩,⟨#[52,49,48]⟩,0,10,⟨#[67,76,70]⟩,⟨#[57,57,48]⟩,4,1,())
def hasCur (V:Know):Prop:=∃ t,V 1=some (curCells curI,t)
theorem hasCur.le {V V':Know} (h:hasCur V) (hle:V.le V'):hasCur V':=let ⟨t,ht⟩:=h; ⟨t,hle _ _ ht⟩
theorem cI_currencyOf {V:Know} (hV:hasCur V) (x:ByteArray):CallX Tryz.prog V 80 [.string x] (fun V' r=>V'=V∧r=.tuple #[qv8 (curRowOf x),.bool (known x)]):=by
 obtain⟨t,hV⟩:=hV
 refine CallX.of_fits Tryz.mix (fI_currencyOf x) fun _=>?_
 simp only [tI_currencyOf,T.wp]
 refine⟨curY,by simp only [loadV,hV,Bool.false_eq_true,if_false]; exact by kernel_rfl,?_⟩
 refine⟨fun y V'=>V'=V∧∃ n:Nat,y.1=(n:Int)∧n≤20∧curFrom curI x n=curFrom curI x 0,fun y=>(20-(y.1:Int)).toNat,
  ⟨((0:Int),⟨#[]⟩,⟨#[]⟩,(0:Int),(0:Int),()),rfl,rfl,0,rfl,by omega,rfl⟩,?_⟩
 rintro⟨(i:Int),s1,s2,(i1:Int),(i2:Int),u⟩ V' ⟨rfl,n,hi,hn,hf⟩
 replace hi:i=(n:Int):=hi
 subst hi
 have hlen:curI.length=20:=rfl
 refine⟨fun h=>?_,fun h=>?_⟩
 ·have hb1:n<curI.length:=by (have:(n:Int)<20:=(by simpa using h); omega)
  refine⟨⟨by omega,(by omega:(n:Int)<20)⟩,curI[n],?_,fun h=>?_,fun h=>?_⟩
  ·simp only [Int.toNat_natCast]
   exact cur_at' hb1
  ·have h2:curFrom curI x 0=some curI[n]:=by
    rw [← hf,curFrom_step hb1,if_pos (show curHas x _=true from h)]
   refine⟨rfl,?_⟩
   rw [curRowOf,known,h2]; rfl
  ·have h2:curFrom curI x (n+1)=curFrom curI x 0:=by
    rw [← hf,curFrom_step hb1,if_neg (by rw [curHas,h]; decide)]
   have hw:IntKind.i64.wrap ((n:Int)+1)=((n+1:Nat):Int):=by rw [wrap_i64 (by omega)]; omega
   refine⟨_,rfl,(((n+1:Nat):Int),s1,s2,i1,i2,()),by rw [hw]; rfl,⟨rfl,n+1,rfl,by omega,h2⟩,?_⟩
   show(20-((n+1:Nat):Int)).toNat<(20-(n:Int)).toNat
   omega
 ·have hn20:n=20:=by (have:¬ (n:Int)<20:=(by simpa using h); omega)
  subst hn20
  refine⟨rfl,?_⟩
  have h2:curFrom curI x 0=none:=by rw [← hf]; exact curFrom_end
  rw [curRowOf,known,h2]; rfl
theorem cI_CurKnown {V:Know} (hV:hasCur V) (x:ByteArray):CallX Tryz.prog V 45 [.string x] (fun V' r=>V'=V∧r=.bool (known x)):=by
 refine CallX.of_fits Tryz.mix (fI_CurKnown x) fun _=>?_
 simp only [tI_CurKnown,T.wp]
 refine(cI_currencyOf hV x).mono ?_
 rintro V1 r ⟨rfl,rfl⟩
 exact⟨nofun,(curRowOf x,known x,()),rfl,rfl,rfl⟩
end Go.Proofs.YtmogkainbglpnaaGreatDoor
