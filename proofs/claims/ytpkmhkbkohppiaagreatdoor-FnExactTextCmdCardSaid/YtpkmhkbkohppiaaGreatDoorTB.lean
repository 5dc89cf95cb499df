/-
  What each function of the seat comes to, as a tree; each tree is checked against the code.
-/
import Derived.Test.YtpkmhkbkohppiaaGreatDoorTA
namespace Go.Proofs.YtpkmhkbkohppiaaGreatDoor
open Sx
set_option maxRecDepth 100000
noncomputable section
def tS_IntCmp (x0:qy1) (x1:qy1):T :=
 .qc1 117 [qv1 x0] fun y1 =>
 .bn y1 (.ret [.int .i64 0]) <|
 .qc1 117 [qv1 x1] fun y2 =>
 .bn y2 (.ret [.int .i64 0]) <|
 .br x0.1 (
  .br (!x1.1) (
   .rM) <|
 .br (!x0.1) (
   .br x1.1 (
    .ret [.int .i64 1]) <|
 .br x0.1 (
    .qc2 150 [Sc.val .l x1.2.1,Sc.val .l x0.2.1] fun y3 =>
    .ret [.int .i64 y3]) <|
 .qc2 150 [Sc.val .l x0.2.1,Sc.val .l x1.2.1] fun y3 =>
   .ret [.int .i64 y3]) <|
 .br x0.1 (
   .qc2 150 [Sc.val .l x1.2.1,Sc.val .l x0.2.1] fun y3 =>
   .ret [.int .i64 y3]) <|
 .qc2 150 [Sc.val .l x0.2.1,Sc.val .l x1.2.1] fun y3 =>
  .ret [.int .i64 y3]) <|
 .br (!x0.1) (
  .br x1.1 (
   .ret [.int .i64 1]) <|
 .br x0.1 (
   .qc2 150 [Sc.val .l x1.2.1,Sc.val .l x0.2.1] fun y3 =>
   .ret [.int .i64 y3]) <|
 .qc2 150 [Sc.val .l x0.2.1,Sc.val .l x1.2.1] fun y3 =>
  .ret [.int .i64 y3]) <|
 .br x0.1 (
  .qc2 150 [Sc.val .l x1.2.1,Sc.val .l x0.2.1] fun y3 =>
  .ret [.int .i64 y3]) <|
 .qc2 150 [Sc.val .l x0.2.1,Sc.val .l x1.2.1] fun y3 =>
 .ret [.int .i64 y3]
theorem fS_IntCmp x0 x1:qft qa0 118 [qv1 x0,qv1 x1] (tS_IntCmp x0 x1) :=fitK (by kernel_rfl)
def tS_IntMul (x0:qy1) (x1:qy1):T :=
 .qc1 117 [qv1 x0] fun y1 =>
 .bn y1 (.ret [qv1 ((false),nilS,())]) <|
 .qc1 117 [qv1 x1] fun y2 =>
 .bn y2 (.ret [qv1 ((false),nilS,())]) <|
 .rg <|
 .qc38 151 [Sc.val .l x0.2.1,Sc.val .l x1.2.1] fun y3 =>
 .qc24 122 [.bool (!x0.1 == x1.1),Sc.val .l y3] fun y4 =>
 .ret [qv1 y4]
theorem fS_IntMul x0 x1:qft qa0 119 [qv1 x0,qv1 x1] (tS_IntMul x0 x1) :=fitK (by kernel_rfl)
def tS_l07Ten (x0:Int):T :=
 .qc3 152 [.int .i64 x0] fun y1 =>
 .ret [qv1 ((false),y1,())]
theorem fS_l07Ten x0:qft qa0 120 [.int .i64 x0] (tS_l07Ten x0) :=fitK (by kernel_rfl)
def tS_NatCut (x0:SlV) (x1:Int):T :=
 .qc1 45 [.int .i64 x1,.int .i64 0,.int .i64 440] fun y1 =>
 .bn y1 (.ret [.slice none 0 0,.slice none 0 0]) <|
 .qc3 152 [.int .i64 x1] fun y2 =>
 .qc33 153 [Sc.val .l x0,Sc.val .l y2] fun y3 =>
 .ret [Sc.val .l y3.1,Sc.val .l y3.2.1]
theorem fS_NatCut x0 x1:qft qa0 121 [Sc.val .l x0,.int .i64 x1] (tS_NatCut x0 x1) :=fitK (by kernel_rfl)
def tS_l04Make (x0:Bool) (x1:SlV):T :=
 .qc3 154 [Sc.val .l x1] fun y1 =>
 .br x0 (
  .rd ({ a:=y1.1,n:=y1.n,c:=y1.c:SlV }) ((1:Nat)) fun y2 =>
  .rq (one y2=true∧((0:Nat)+y1.n)*(8:Nat)≤(140737488355328:Nat)∧(0:Nat)+y1.n≤(9223372036854775807:Nat)) <|
 .fz ((0:Nat)+y1.n) ([]++y2) 3 fun b3 c3 =>
  .ret [qv1 ((decide ((↑y1.n:Int) > (0:Int))),(⟨(some { block:=b3,off:=(0:Nat):Addr }),((0:Nat)+y1.n),(c3)⟩:SlV),())]) <|
 .rd ({ a:=y1.1,n:=y1.n,c:=y1.c:SlV }) ((1:Nat)) fun y2 =>
 .rq (one y2=true∧((0:Nat)+y1.n)*(8:Nat)≤(140737488355328:Nat)∧(0:Nat)+y1.n≤(9223372036854775807:Nat)) <|
 .fz ((0:Nat)+y1.n) ([]++y2) 3 fun b3 c3 =>
 .ret [qv1 ((false),(⟨(some { block:=b3,off:=(0:Nat):Addr }),((0:Nat)+y1.n),(c3)⟩:SlV),())]
theorem fS_l04Make x0 x1:qft qa0 122 [.bool x0,Sc.val .l x1] (tS_l04Make x0 x1) :=fitK (by kernel_rfl)
def aS_NatOf:An:=⟨[(2,[.s 0,.s 3],[.o (.o (.i .i64)),.a 3])],[],[]⟩
def tS_NatOf (x0:Int):T :=
 .lp [.o (.o (.i .i64)),.a 3] [.v (.int .i64 x0),.a 3 ((0:Nat)) []] fun y1 =>
 .br (decide (y1.1 > (0:Int))) (
  .rq ((1000000000:Int)≠(0:Int)) <|
 .rq ([Value.int IntKind.i64 (Int.tmod y1.1 (1000000000:Int))].length=(1:Nat)*(1:Nat)) <|
 .rq (one [Value.int IntKind.i64 (Int.tmod y1.1 (1000000000:Int))]=true∧(y1.2.1.1+(1:Nat))*(8:Nat)≤(140737488355328:Nat)∧y1.2.1.1+(1:Nat)≤(9223372036854775807:Nat)) <|
 .rq ((1000000000:Int)≠(0:Int)) <|
 .nx 0 [.v (.int .i64 (IntKind.i64.wrap (Int.tdiv y1.1 (1000000000:Int)))),.a 3 (y1.2.1.1+(1:Nat)) (y1.2.1.2++[Value.int IntKind.i64 (Int.tmod y1.1 (1000000000:Int))])]) <|
 .fz y1.2.1.1 y1.2.1.2 3 fun b2 c2 =>
 .ret [.slice (some { block:=b2,off:=(0:Nat):Addr }) y1.2.1.1 (c2)]
theorem fS_NatOf x0:qft aS_NatOf 123 [.int .i64 x0] (tS_NatOf x0) :=fitK (by kernel_rfl)
def tS_l07Both (x0:qy0) (x1:qy0):T :=
 .br (decide (x1.2.2.1 > x0.2.2.1)) (
  .rg <|
 .qc25 120 [.int .i64 (IntKind.i64.wrap (x1.2.2.1-x0.2.2.1))] fun y1 =>
  .qc25 119 [qv1 (x0.1,x0.2.1,()),qv1 y1] fun y2 =>
  .qc25 120 [.int .i64 (IntKind.i64.wrap (x1.2.2.1-x1.2.2.1))] fun y3 =>
  .qc24 119 [qv1 (x1.1,x1.2.1,()),qv1 y3] fun y4 =>
  .ret [qv1 y2,qv1 y4,.int .i64 x1.2.2.1]) <|
 .rg <|
 .qc25 120 [.int .i64 (IntKind.i64.wrap (x0.2.2.1-x0.2.2.1))] fun y1 =>
 .qc25 119 [qv1 (x0.1,x0.2.1,()),qv1 y1] fun y2 =>
 .qc25 120 [.int .i64 (IntKind.i64.wrap (x0.2.2.1-x1.2.2.1))] fun y3 =>
 .qc24 119 [qv1 (x1.1,x1.2.1,()),qv1 y3] fun y4 =>
 .ret [qv1 y2,qv1 y4,.int .i64 x0.2.2.1]
theorem fS_l07Both x0 x1:qft qa0 124 [qv0 x0,qv0 x1] (tS_l07Both x0 x1) :=fitK (by kernel_rfl)
def aS_NatOk:An:=⟨[(2,[.s 7],[.o (.o (.i .i64))])],[],[]⟩
def tS_NatOk (x0:SlV):T :=
 .lp [.o (.o (.i .i64))] [.v (.int .i64 0)] fun y1 =>
 .br (decide (y1.1<(↑x0.n:Int))) (
  .el x0.1 (x0.n) y1.1 fun y2 =>
  .ql13 (y2.add (Int.toNat y1.1*(1:Nat))) fun y3 =>
  .qc1 45 [.int .i64 y3,.int .i64 0,.int .i64 999999999] fun y4 =>
  .bF y4 <|
 .nx 0 [.v (.int .i64 (IntKind.i64.wrap (y1.1+(1:Int))))]) <|
 .br (decide ((↑x0.n:Int)≤(50:Int))) (
  .br ((↑x0.n:Int) == (0:Int)) (
   .rT) <|
 .el x0.1 (x0.n) (IntKind.i64.wrap ((↑x0.n:Int)-(1:Int))) fun y2 =>
  .ql13 (y2.add ((IntKind.i64.wrap ((↑x0.n:Int)-(1:Int))).toNat*(1:Nat))) fun y3 =>
  .ret [.bool (y3 != (0:Int))]) <|
 .rF
theorem fS_NatOk x0:qft aS_NatOk 125 [Sc.val .l x0] (tS_NatOk x0) :=fitK (by kernel_rfl)
def aI_TextDec:An:=⟨[(12,[.s 8],[.o (.o (.s))])],[],[]⟩
def tI_TextDec (x0:ByteArray):T :=
 .br (!x0.toList == { data:={ toList:=[]:Array UInt8 }:ByteArray }.toList) (
  .rq ((0:Int)≤(0:Int)∧(0:Int)<(↑x0.size:Int)) <|
 .br (at0 x0 (Int.toNat (0:Int)) == (45:Int)) (
   .rq ((0:Int)≤(1:Int)∧(1:Int)≤(↑x0.size:Int)∧(↑x0.size:Int)≤(↑x0.size:Int)) <|
 .qc3 66 [.string (x0.extract (Int.toNat (1:Int)) (↑x0.size:Int).toNat),.string ({ data:={ toList:=[(46:UInt8)]:Array UInt8 }:ByteArray })] fun y1 =>
   .br (decide ((↑y1.n:Int) > (2:Int))) (
    .ret [qv0 ((false),nilS,(((0:Int)):Int),()),.bool (false)]) <|
 .br (decide ((↑(x0.extract (Int.toNat (1:Int)) (↑x0.size:Int).toNat).size:Int) > (100:Int))) (
    .ret [qv0 ((false),nilS,(((0:Int)):Int),()),.bool (false)]) <|
 .br ((↑y1.n:Int) == (2:Int)) (
    .el y1.1 (y1.n) ((1:Int)) fun y2 =>
    .ql9 (y2.add (Int.toNat (1:Int)*(1:Nat))) fun y3 =>
    .qc6 27 [Sc.val .l y1,.string ({ data:={ toList:=[]:Array UInt8 }:ByteArray })] fun y4 =>
    .lp [.o (.o (.s))] [.v (.string y4)] fun y5 =>
    .br (decide ((↑(ByteArray.size y5.1):Int) > (1:Int))) (
     .rq ((0:Int)≤(0:Int)∧(0:Int)<(↑(ByteArray.size y5.1):Int)) <|
 .br (at0 y5.1 (Int.toNat (0:Int)) == (48:Int)) (
      .rq ((0:Int)≤(1:Int)∧(1:Int)≤(↑(ByteArray.size y5.1):Int)∧(↑(ByteArray.size y5.1):Int)≤(↑(ByteArray.size y5.1):Int)) <|
 .nx 0 [.v (.string (ByteArray.extract y5.1 (Int.toNat (1:Int)) (↑(ByteArray.size y5.1):Int).toNat))]) <|
 .qc22 156 [.string y5.1] fun y6 =>
     .qc24 157 [.bool (at0 x0 (Int.toNat (0:Int)) == (45:Int)),Sc.val .l y6.1] fun y7 =>
     .bn y6.2.1 (.ret [qv0 ((false),nilS,(((0:Int)):Int),()),.bool (false)]) <|
 .qc6 158 [qv0 (y7.1,y7.2.1,(((↑y3.size:Int)):Int),())] fun y8 =>
     .br (!y8.toList == x0.toList) (
      .ret [qv0 ((false),nilS,(((0:Int)):Int),()),.bool (false)]) <|
 .ret [qv0 (y7.1,y7.2.1,(((↑y3.size:Int)):Int),()),.bool (true)]) <|
 .qc22 156 [.string y5.1] fun y6 =>
    .qc24 157 [.bool (at0 x0 (Int.toNat (0:Int)) == (45:Int)),Sc.val .l y6.1] fun y7 =>
    .bn y6.2.1 (.ret [qv0 ((false),nilS,(((0:Int)):Int),()),.bool (false)]) <|
 .qc6 158 [qv0 (y7.1,y7.2.1,(((↑y3.size:Int)):Int),())] fun y8 =>
    .br (!y8.toList == x0.toList) (
     .ret [qv0 ((false),nilS,(((0:Int)):Int),()),.bool (false)]) <|
 .ret [qv0 (y7.1,y7.2.1,(((↑y3.size:Int)):Int),()),.bool (true)]) <|
 .qc6 27 [Sc.val .l y1,.string ({ data:={ toList:=[]:Array UInt8 }:ByteArray })] fun y2 =>
   .lp [.o (.o (.s))] [.v (.string y2)] fun y3 =>
   .br (decide ((↑(ByteArray.size y3.1):Int) > (1:Int))) (
    .rq ((0:Int)≤(0:Int)∧(0:Int)<(↑(ByteArray.size y3.1):Int)) <|
 .br (at0 y3.1 (Int.toNat (0:Int)) == (48:Int)) (
     .rq ((0:Int)≤(1:Int)∧(1:Int)≤(↑(ByteArray.size y3.1):Int)∧(↑(ByteArray.size y3.1):Int)≤(↑(ByteArray.size y3.1):Int)) <|
 .nx 0 [.v (.string (ByteArray.extract y3.1 (Int.toNat (1:Int)) (↑(ByteArray.size y3.1):Int).toNat))]) <|
 .qc22 156 [.string y3.1] fun y4 =>
    .qc24 157 [.bool (at0 x0 (Int.toNat (0:Int)) == (45:Int)),Sc.val .l y4.1] fun y5 =>
    .bn y4.2.1 (.ret [qv0 ((false),nilS,(((0:Int)):Int),()),.bool (false)]) <|
 .qc6 158 [qv0 (y5.1,y5.2.1,(((0:Int)):Int),())] fun y6 =>
    .br (!y6.toList == x0.toList) (
     .ret [qv0 ((false),nilS,(((0:Int)):Int),()),.bool (false)]) <|
 .ret [qv0 (y5.1,y5.2.1,(((0:Int)):Int),()),.bool (true)]) <|
 .qc22 156 [.string y3.1] fun y4 =>
   .qc24 157 [.bool (at0 x0 (Int.toNat (0:Int)) == (45:Int)),Sc.val .l y4.1] fun y5 =>
   .bn y4.2.1 (.ret [qv0 ((false),nilS,(((0:Int)):Int),()),.bool (false)]) <|
 .qc6 158 [qv0 (y5.1,y5.2.1,(((0:Int)):Int),())] fun y6 =>
   .br (!y6.toList == x0.toList) (
    .ret [qv0 ((false),nilS,(((0:Int)):Int),()),.bool (false)]) <|
 .ret [qv0 (y5.1,y5.2.1,(((0:Int)):Int),()),.bool (true)]) <|
 .qc3 66 [.string x0,.string ({ data:={ toList:=[(46:UInt8)]:Array UInt8 }:ByteArray })] fun y1 =>
  .br (decide ((↑y1.n:Int) > (2:Int))) (
   .ret [qv0 ((false),nilS,(((0:Int)):Int),()),.bool (false)]) <|
 .br (decide ((↑x0.size:Int) > (100:Int))) (
   .ret [qv0 ((false),nilS,(((0:Int)):Int),()),.bool (false)]) <|
 .br ((↑y1.n:Int) == (2:Int)) (
   .el y1.1 (y1.n) ((1:Int)) fun y2 =>
   .ql9 (y2.add (Int.toNat (1:Int)*(1:Nat))) fun y3 =>
   .qc6 27 [Sc.val .l y1,.string ({ data:={ toList:=[]:Array UInt8 }:ByteArray })] fun y4 =>
   .lp [.o (.o (.s))] [.v (.string y4)] fun y5 =>
   .br (decide ((↑(ByteArray.size y5.1):Int) > (1:Int))) (
    .rq ((0:Int)≤(0:Int)∧(0:Int)<(↑(ByteArray.size y5.1):Int)) <|
 .br (at0 y5.1 (Int.toNat (0:Int)) == (48:Int)) (
     .rq ((0:Int)≤(1:Int)∧(1:Int)≤(↑(ByteArray.size y5.1):Int)∧(↑(ByteArray.size y5.1):Int)≤(↑(ByteArray.size y5.1):Int)) <|
 .nx 0 [.v (.string (ByteArray.extract y5.1 (Int.toNat (1:Int)) (↑(ByteArray.size y5.1):Int).toNat))]) <|
 .qc22 156 [.string y5.1] fun y6 =>
    .qc24 157 [.bool (at0 x0 (Int.toNat (0:Int)) == (45:Int)),Sc.val .l y6.1] fun y7 =>
    .bn y6.2.1 (.ret [qv0 ((false),nilS,(((0:Int)):Int),()),.bool (false)]) <|
 .qc6 158 [qv0 (y7.1,y7.2.1,(((↑y3.size:Int)):Int),())] fun y8 =>
    .br (!y8.toList == x0.toList) (
     .ret [qv0 ((false),nilS,(((0:Int)):Int),()),.bool (false)]) <|
 .ret [qv0 (y7.1,y7.2.1,(((↑y3.size:Int)):Int),()),.bool (true)]) <|
 .qc22 156 [.string y5.1] fun y6 =>
   .qc24 157 [.bool (at0 x0 (Int.toNat (0:Int)) == (45:Int)),Sc.val .l y6.1] fun y7 =>
   .bn y6.2.1 (.ret [qv0 ((false),nilS,(((0:Int)):Int),()),.bool (false)]) <|
 .qc6 158 [qv0 (y7.1,y7.2.1,(((↑y3.size:Int)):Int),())] fun y8 =>
   .br (!y8.toList == x0.toList) (
    .ret [qv0 ((false),nilS,(((0:Int)):Int),()),.bool (false)]) <|
 .ret [qv0 (y7.1,y7.2.1,(((↑y3.size:Int)):Int),()),.bool (true)]) <|
 .qc6 27 [Sc.val .l y1,.string ({ data:={ toList:=[]:Array UInt8 }:ByteArray })] fun y2 =>
  .lp [.o (.o (.s))] [.v (.string y2)] fun y3 =>
  .br (decide ((↑(ByteArray.size y3.1):Int) > (1:Int))) (
   .rq ((0:Int)≤(0:Int)∧(0:Int)<(↑(ByteArray.size y3.1):Int)) <|
 .br (at0 y3.1 (Int.toNat (0:Int)) == (48:Int)) (
    .rq ((0:Int)≤(1:Int)∧(1:Int)≤(↑(ByteArray.size y3.1):Int)∧(↑(ByteArray.size y3.1):Int)≤(↑(ByteArray.size y3.1):Int)) <|
 .nx 0 [.v (.string (ByteArray.extract y3.1 (Int.toNat (1:Int)) (↑(ByteArray.size y3.1):Int).toNat))]) <|
 .qc22 156 [.string y3.1] fun y4 =>
   .qc24 157 [.bool (at0 x0 (Int.toNat (0:Int)) == (45:Int)),Sc.val .l y4.1] fun y5 =>
   .bn y4.2.1 (.ret [qv0 ((false),nilS,(((0:Int)):Int),()),.bool (false)]) <|
 .qc6 158 [qv0 (y5.1,y5.2.1,(((0:Int)):Int),())] fun y6 =>
   .br (!y6.toList == x0.toList) (
    .ret [qv0 ((false),nilS,(((0:Int)):Int),()),.bool (false)]) <|
 .ret [qv0 (y5.1,y5.2.1,(((0:Int)):Int),()),.bool (true)]) <|
 .qc22 156 [.string y3.1] fun y4 =>
  .qc24 157 [.bool (at0 x0 (Int.toNat (0:Int)) == (45:Int)),Sc.val .l y4.1] fun y5 =>
  .bn y4.2.1 (.ret [qv0 ((false),nilS,(((0:Int)):Int),()),.bool (false)]) <|
 .qc6 158 [qv0 (y5.1,y5.2.1,(((0:Int)):Int),())] fun y6 =>
  .br (!y6.toList == x0.toList) (
   .ret [qv0 ((false),nilS,(((0:Int)):Int),()),.bool (false)]) <|
 .ret [qv0 (y5.1,y5.2.1,(((0:Int)):Int),()),.bool (true)]) <|
 .qc3 66 [.string x0,.string ({ data:={ toList:=[(46:UInt8)]:Array UInt8 }:ByteArray })] fun y1 =>
 .br (decide ((↑y1.n:Int) > (2:Int))) (
  .ret [qv0 ((false),nilS,(((0:Int)):Int),()),.bool (false)]) <|
 .br (decide ((↑x0.size:Int) > (100:Int))) (
  .ret [qv0 ((false),nilS,(((0:Int)):Int),()),.bool (false)]) <|
 .br ((↑y1.n:Int) == (2:Int)) (
  .el y1.1 (y1.n) ((1:Int)) fun y2 =>
  .ql9 (y2.add (Int.toNat (1:Int)*(1:Nat))) fun y3 =>
  .qc6 27 [Sc.val .l y1,.string ({ data:={ toList:=[]:Array UInt8 }:ByteArray })] fun y4 =>
  .lp [.o (.o (.s))] [.v (.string y4)] fun y5 =>
  .br (decide ((↑(ByteArray.size y5.1):Int) > (1:Int))) (
   .rq ((0:Int)≤(0:Int)∧(0:Int)<(↑(ByteArray.size y5.1):Int)) <|
 .br (at0 y5.1 (Int.toNat (0:Int)) == (48:Int)) (
    .rq ((0:Int)≤(1:Int)∧(1:Int)≤(↑(ByteArray.size y5.1):Int)∧(↑(ByteArray.size y5.1):Int)≤(↑(ByteArray.size y5.1):Int)) <|
 .nx 0 [.v (.string (ByteArray.extract y5.1 (Int.toNat (1:Int)) (↑(ByteArray.size y5.1):Int).toNat))]) <|
 .qc22 156 [.string y5.1] fun y6 =>
   .qc24 157 [.bool (false),Sc.val .l y6.1] fun y7 =>
   .bn y6.2.1 (.ret [qv0 ((false),nilS,(((0:Int)):Int),()),.bool (false)]) <|
 .qc6 158 [qv0 (y7.1,y7.2.1,(((↑y3.size:Int)):Int),())] fun y8 =>
   .br (!y8.toList == x0.toList) (
    .ret [qv0 ((false),nilS,(((0:Int)):Int),()),.bool (false)]) <|
 .ret [qv0 (y7.1,y7.2.1,(((↑y3.size:Int)):Int),()),.bool (true)]) <|
 .qc22 156 [.string y5.1] fun y6 =>
  .qc24 157 [.bool (false),Sc.val .l y6.1] fun y7 =>
  .bn y6.2.1 (.ret [qv0 ((false),nilS,(((0:Int)):Int),()),.bool (false)]) <|
 .qc6 158 [qv0 (y7.1,y7.2.1,(((↑y3.size:Int)):Int),())] fun y8 =>
  .br (!y8.toList == x0.toList) (
   .ret [qv0 ((false),nilS,(((0:Int)):Int),()),.bool (false)]) <|
 .ret [qv0 (y7.1,y7.2.1,(((↑y3.size:Int)):Int),()),.bool (true)]) <|
 .qc6 27 [Sc.val .l y1,.string ({ data:={ toList:=[]:Array UInt8 }:ByteArray })] fun y2 =>
 .lp [.o (.o (.s))] [.v (.string y2)] fun y3 =>
 .br (decide ((↑(ByteArray.size y3.1):Int) > (1:Int))) (
  .rq ((0:Int)≤(0:Int)∧(0:Int)<(↑(ByteArray.size y3.1):Int)) <|
 .br (at0 y3.1 (Int.toNat (0:Int)) == (48:Int)) (
   .rq ((0:Int)≤(1:Int)∧(1:Int)≤(↑(ByteArray.size y3.1):Int)∧(↑(ByteArray.size y3.1):Int)≤(↑(ByteArray.size y3.1):Int)) <|
 .nx 0 [.v (.string (ByteArray.extract y3.1 (Int.toNat (1:Int)) (↑(ByteArray.size y3.1):Int).toNat))]) <|
 .qc22 156 [.string y3.1] fun y4 =>
  .qc24 157 [.bool (false),Sc.val .l y4.1] fun y5 =>
  .bn y4.2.1 (.ret [qv0 ((false),nilS,(((0:Int)):Int),()),.bool (false)]) <|
 .qc6 158 [qv0 (y5.1,y5.2.1,(((0:Int)):Int),())] fun y6 =>
  .br (!y6.toList == x0.toList) (
   .ret [qv0 ((false),nilS,(((0:Int)):Int),()),.bool (false)]) <|
 .ret [qv0 (y5.1,y5.2.1,(((0:Int)):Int),()),.bool (true)]) <|
 .qc22 156 [.string y3.1] fun y4 =>
 .qc24 157 [.bool (false),Sc.val .l y4.1] fun y5 =>
 .bn y4.2.1 (.ret [qv0 ((false),nilS,(((0:Int)):Int),()),.bool (false)]) <|
 .qc6 158 [qv0 (y5.1,y5.2.1,(((0:Int)):Int),())] fun y6 =>
 .br (!y6.toList == x0.toList) (
  .ret [qv0 ((false),nilS,(((0:Int)):Int),()),.bool (false)]) <|
 .ret [qv0 (y5.1,y5.2.1,(((0:Int)):Int),()),.bool (true)]
theorem fI_TextDec x0:qft aI_TextDec 127 [.string x0] (tI_TextDec x0) :=fitK (by kernel_rfl)
def tI_MoneyText (x0:qy2):T :=
 .qc1 139 [qv2 x0] fun y1 =>
 .bn y1 (.ret [.string ({ data:={ toList:=[]:Array UInt8 }:ByteArray })]) <|
 .rg <|
 .rq (ByteArray.size x0.1+{ data:={ toList:=[(32:UInt8)]:Array UInt8 }:ByteArray }.size≤(9223372036854775807:Nat)) <|
 .qc23 159 [.string x0.1] fun y2 =>
 .qc18 158 [qv0 (x0.2.1,x0.2.2.1,((y2):Int),())] fun y3 =>
 .rq ((x0.1++{ data:={ toList:=[(32:UInt8)]:Array UInt8 }:ByteArray }).size+y3.size≤(9223372036854775807:Nat)) <|
 .ret [.string (x0.1++{ data:={ toList:=[(32:UInt8)]:Array UInt8 }:ByteArray }++y3)]
theorem fI_MoneyText x0:qft qa0 128 [qv2 x0] (tI_MoneyText x0) :=fitK (by kernel_rfl)
def aI_lowest:An:=⟨[(1,[.s 1,.c 2 0,.c 2 1],[.o (.o (.i .i64)),.o (.o (.b)),.o (.o (.l))])],[],[]⟩
def tI_lowest (x0:qy1) (x1:Int):T :=
 .lp [.o (.o (.i .i64)),.o (.o (.b)),.o (.o (.l))] [.v (.int .i64 x1),.v (.bool x0.1),.v (Sc.val .l x0.2.1)] fun y1 =>
 .br (decide (y1.1 > (0:Int))) (
  .qc39 160 [Sc.val .l y1.2.2.1,.int .i64 10] fun y2 =>
  .br (decide (y2.2.1 > (0:Int))) (
   .ret [qv0 (y1.2.1,y1.2.2.1,((y1.1):Int),())]) <|
 .qc24 157 [.bool y1.2.1,Sc.val .l y2.1] fun y3 =>
  .nx 0 [.v (.int .i64 (IntKind.i64.wrap (y1.1-(1:Int)))),.v (.bool y3.1),.v (Sc.val .l y3.2.1)]) <|
 .ret [qv0 (y1.2.1,y1.2.2.1,((y1.1):Int),())]
theorem fI_lowest x0 x1:qft aI_lowest 129 [qv1 x0,.int .i64 x1] (tI_lowest x0 x1) :=fitK (by kernel_rfl)
def tI_Percent (x0:qy0):T :=
 .qc1 110 [qv0 x0] fun y1 =>
 .bn y1 (.ret [.string ({ data:={ toList:=[]:Array UInt8 }:ByteArray })]) <|
 .rg <|
 .qc25 145 [.int .i64 100] fun y2 =>
 .qc8 161 [qv0 x0,qv0 (y2.1,y2.2.1,(((0:Int)):Int),())] fun y3 =>
 .qc15 112 [qv0 y3.1] fun y4 =>
 .qc6 158 [qv0 y4] fun y5 =>
 .rq (y5.size+{ data:={ toList:=[(37:UInt8)]:Array UInt8 }:ByteArray }.size≤(9223372036854775807:Nat)) <|
 .ret [.string (y5++{ data:={ toList:=[(37:UInt8)]:Array UInt8 }:ByteArray })]
theorem fI_Percent x0:qft qa0 130 [qv0 x0] (tI_Percent x0) :=fitK (by kernel_rfl)
def tI_roundModes :T :=
 .ret [.agg #[.string ({ data:={ toList:=[(100:UInt8),(111:UInt8),(119:UInt8),(110:UInt8)]:Array UInt8 }:ByteArray }),(Value.func (Fn.func (162:Nat)) { toList:=[]:Array Value } { toList:=[]:Array Value }),.string ({ data:={ toList:=[(117:UInt8),(112:UInt8)]:Array UInt8 }:ByteArray }),(Value.func (Fn.func (163:Nat)) { toList:=[]:Array Value } { toList:=[]:Array Value }),.string ({ data:={ toList:=[(102:UInt8),(108:UInt8),(111:UInt8),(111:UInt8),(114:UInt8)]:Array UInt8 }:ByteArray }),(Value.func (Fn.func (164:Nat)) { toList:=[]:Array Value } { toList:=[]:Array Value }),.string ({ data:={ toList:=[(99:UInt8),(101:UInt8),(105:UInt8),(108:UInt8)]:Array UInt8 }:ByteArray }),(Value.func (Fn.func (165:Nat)) { toList:=[]:Array Value } { toList:=[]:Array Value }),.string ({ data:={ toList:=[(104:UInt8),(97:UInt8),(108:UInt8),(102:UInt8),(100:UInt8),(111:UInt8),(119:UInt8),(110:UInt8)]:Array UInt8 }:ByteArray }),(Value.func (Fn.func (166:Nat)) { toList:=[]:Array Value } { toList:=[]:Array Value }),.string ({ data:={ toList:=[(104:UInt8),(97:UInt8),(108:UInt8),(102:UInt8),(117:UInt8),(112:UInt8)]:Array UInt8 }:ByteArray }),(Value.func (Fn.func (167:Nat)) { toList:=[]:Array Value } { toList:=[]:Array Value }),.string ({ data:={ toList:=[(104:UInt8),(97:UInt8),(108:UInt8),(102:UInt8),(101:UInt8),(118:UInt8),(101:UInt8),(110:UInt8)]:Array UInt8 }:ByteArray }),(Value.func (Fn.func (168:Nat)) { toList:=[]:Array Value } { toList:=[]:Array Value })]]
theorem fI_roundModes :qft qa0 131 [] (tI_roundModes ) :=fitK (by kernel_rfl)
def tI_intSame (x0:qy1) (x1:qy1):T :=
 .br (x0.1 == x1.1) (
  .qc1 174 [Sc.val .l x0.2.1,Sc.val .l x1.2.1] fun y1 =>
  .ret [.bool y1]) <|
 .rF
theorem fI_intSame x0 x1:qft qa0 136 [qv1 x0,qv1 x1] (tI_intSame x0 x1) :=fitK (by kernel_rfl)
def tI_isLower (x0:Int):T :=
 .br (decide (x0≥(97:Int))) (
  .ret [.bool (decide (x0≤(122:Int)))]) <|
 .rF
theorem fI_isLower x0:qft qa0 137 [.int .u8 x0] (tI_isLower x0) :=fitK (by kernel_rfl)
def tI_isDigit (x0:Int):T :=
 .br (decide (x0≥(48:Int))) (
  .ret [.bool (decide (x0≤(57:Int)))]) <|
 .rF
theorem fI_isDigit x0:qft qa0 138 [.int .u8 x0] (tI_isDigit x0) :=fitK (by kernel_rfl)
def tI_MoneyOk (x0:qy2):T :=
 .qc1 147 [.string x0.1] fun y1 =>
 .br y1 (
  .qc1 175 [qv1 x0.2] fun y2 =>
  .br y2 (
   .ret [.bool (decide ((↑x0.2.2.1.n:Int)≤(4:Int)))]) <|
 .rF) <|
 .rF
theorem fI_MoneyOk x0:qft qa0 139 [qv2 x0] (tI_MoneyOk x0) :=fitK (by kernel_rfl)
def aI_areNames:An:=⟨[(2,[.s 7],[.o (.o (.i .i64))])],[],[]⟩
def tI_areNames (x0:SlV):T :=
 .lp [.o (.o (.i .i64))] [.v (.int .i64 0)] fun y1 =>
 .br (decide (y1.1<(↑x0.n:Int))) (
  .el x0.1 (x0.n) y1.1 fun y2 =>
  .ql9 (y2.add (Int.toNat y1.1*(1:Nat))) fun y3 =>
  .qc1 106 [.string y3] fun y4 =>
  .bF y4 <|
 .nx 0 [.v (.int .i64 (IntKind.i64.wrap (y1.1+(1:Int))))]) <|
 .rT
theorem fI_areNames x0:qft aI_areNames 140 [Sc.val .l x0] (tI_areNames x0) :=fitK (by kernel_rfl)
def tX_ContainsFunc_int (x0:SlV) (x1:Nat):T :=
 .qc2 176 [Sc.val .l x0,(Value.func (Fn.func x1) { toList:=[]:Array Value } { toList:=[]:Array Value })] fun y1 =>
 .ret [.bool (decide (y1≥(0:Int)))]
theorem fX_ContainsFunc_int x0 x1:qft qa0 141 [Sc.val .l x0,(Value.func (Fn.func x1) { toList:=[]:Array Value } { toList:=[]:Array Value })] (tX_ContainsFunc_int x0 x1) :=fitK (by kernel_rfl)
def tI_dealOk_1 (x0:Int):T :=
 .br (decide (x0<(0:Int))) (
  .rT) <|
 .ret [.bool (decide (x0 > (1000000000:Int)))]
theorem fI_dealOk_1 x0:qft qa0 142 [.int .i64 x0] (tI_dealOk_1 x0) :=fitK (by kernel_rfl)
def tI_DecOk (x0:qy0):T :=
 .qc1 175 [qv1 (x0.1,x0.2.1,())] fun y1 =>
 .br y1 (
  .br (decide ((↑x0.2.1.n:Int)≤(6:Int))) (
   .qc1 177 [.int .i64 x0.2.2.1] fun y2 =>
   .ret [.bool y2]) <|
 .rF) <|
 .rF
theorem fI_DecOk x0:qft qa0 143 [qv0 x0] (tI_DecOk x0) :=fitK (by kernel_rfl)
def tI_DecCmp (x0:qy0) (x1:qy0):T :=
 .qc1 143 [qv0 x0] fun y1 =>
 .bn y1 (.ret [.int .i64 0]) <|
 .qc1 143 [qv0 x1] fun y2 =>
 .bn y2 (.ret [.int .i64 0]) <|
 .qc40 178 [.int .i64 (if x1.2.2.1 > x0.2.2.1 then x1.2.2.1 else x0.2.2.1)] fun y3 =>
 .rg <|
 .call true y3.1 [qv0 x0,.pointer (some y3.2)] (.v (.g [.b,.l])) fun y4 =>
 .call false y3.1 [qv0 x1,.pointer (some y3.2)] (.v (.g [.b,.l])) fun y5 =>
 .qc2 179 [qv1 y4,qv1 y5] fun y6 =>
 .ret [.int .i64 y6]
theorem fI_DecCmp x0 x1:qft qa0 144 [qv0 x0,qv0 x1] (tI_DecCmp x0 x1) :=fitK (by kernel_rfl)
def tI_IntOf (x0:Int):T :=
 .br (decide (x0<(0:Int))) (
  .qc3 180 [.int .u64 (IntKind.u64.wrap ((0:Int)-IntKind.u64.wrap x0))] fun y1 =>
  .ret [qv1 ((true),y1,())]) <|
 .qc3 180 [.int .u64 (IntKind.u64.wrap x0)] fun y1 =>
 .ret [qv1 ((false),y1,())]
theorem fI_IntOf x0:qft qa0 145 [.int .i64 x0] (tI_IntOf x0) :=fitK (by kernel_rfl)
def tI_DecAt (x0:qy0) (x1:Int):T :=
 .qc1 143 [qv0 x0] fun y1 =>
 .bn y1 (.ret [qv0 ((false),nilS,(((0:Int)):Int),()),.bool (false)]) <|
 .qc1 177 [.int .i64 x1] fun y2 =>
 .bn y2 (.ret [qv0 ((false),nilS,(((0:Int)):Int),()),.bool (false)]) <|
 .br (decide (x1≥x0.2.2.1)) (
  .rg <|
 .qc41 178 [.int .i64 x1] fun y3 =>
  .call false y3.1 [qv0 x0,.pointer (some y3.2)] (.v (.g [.b,.l])) fun y4 =>
  .qc8 181 [qv1 y4,.int .i64 x1] fun y5 =>
  .ret [qv0 y5.1,.bool y5.2.1]) <|
 .rg <|
 .qc38 183 [.int .i64 (IntKind.i64.wrap (x0.2.2.1-x1))] fun y3 =>
 .qc33 182 [Sc.val .l x0.2.1,Sc.val .l y3] fun y4 =>
 .br (decide ((↑y4.2.1.n:Int) > (0:Int))) (
  .ret [qv0 ((false),nilS,(((0:Int)):Int),()),.bool (false)]) <|
 .qc24 157 [.bool x0.1,Sc.val .l y4.1] fun y5 =>
 .qc8 181 [qv1 y5,.int .i64 x1] fun y6 =>
 .ret [qv0 y6.1,.bool y6.2.1]
theorem fI_DecAt x0 x1:qft qa0 146 [qv0 x0,.int .i64 x1] (tI_DecAt x0 x1) :=fitK (by kernel_rfl)
def tI_CurKnown (x0:ByteArray):T :=
 .qc42 184 [.string x0] fun y1 =>
 .ret [.bool y1.2.1]
theorem fI_CurKnown x0:qft qa0 147 [.string x0] (tI_CurKnown x0) :=fitK (by kernel_rfl)
def tI_intSign (x0:qy1):T :=
 .br ((↑x0.2.1.n:Int) == (0:Int)) (
  .ret [.int .i64 0]) <|
 .br x0.1 (
  .rM) <|
 .ret [.int .i64 1]
theorem fI_intSign x0:qft qa0 148 [qv1 x0] (tI_intSign x0) :=fitK (by kernel_rfl)
def tS_l08Table :T :=
 .fz ((20:Nat)) [.string ({ data:={ toList:=[(65:UInt8),(85:UInt8),(68:UInt8)]:Array UInt8 }:ByteArray }),.string ({ data:={ toList:=[(48:UInt8),(51:UInt8),(54:UInt8)]:Array UInt8 }:ByteArray }),.int .i64 2,.int .i64 5,.string ({ data:={ toList:=[(66:UInt8),(72:UInt8),(68:UInt8)]:Array UInt8 }:ByteArray }),.string ({ data:={ toList:=[(48:UInt8),(52:UInt8),(56:UInt8)]:Array UInt8 }:ByteArray }),.int .i64 3,.int .i64 5,.string ({ data:={ toList:=[(67:UInt8),(65:UInt8),(68:UInt8)]:Array UInt8 }:ByteArray }),.string ({ data:={ toList:=[(49:UInt8),(50:UInt8),(52:UInt8)]:Array UInt8 }:ByteArray }),.int .i64 2,.int .i64 5,.string ({ data:={ toList:=[(67:UInt8),(72:UInt8),(70:UInt8)]:Array UInt8 }:ByteArray }),.string ({ data:={ toList:=[(55:UInt8),(53:UInt8),(54:UInt8)]:Array UInt8 }:ByteArray }),.int .i64 2,.int .i64 5,.string ({ data:={ toList:=[(67:UInt8),(76:UInt8),(70:UInt8)]:Array UInt8 }:ByteArray }),.string ({ data:={ toList:=[(57:UInt8),(57:UInt8),(48:UInt8)]:Array UInt8 }:ByteArray }),.int .i64 4,.int .i64 1,.string ({ data:={ toList:=[(67:UInt8),(90:UInt8),(75:UInt8)]:Array UInt8 }:ByteArray }),.string ({ data:={ toList:=[(50:UInt8),(48:UInt8),(51:UInt8)]:Array UInt8 }:ByteArray }),.int .i64 2,.int .i64 100,.string ({ data:={ toList:=[(68:UInt8),(75:UInt8),(75:UInt8)]:Array UInt8 }:ByteArray }),.string ({ data:={ toList:=[(50:UInt8),(48:UInt8),(56:UInt8)]:Array UInt8 }:ByteArray }),.int .i64 2,.int .i64 50,.string ({ data:={ toList:=[(69:UInt8),(85:UInt8),(82:UInt8)]:Array UInt8 }:ByteArray }),.string ({ data:={ toList:=[(57:UInt8),(55:UInt8),(56:UInt8)]:Array UInt8 }:ByteArray }),.int .i64 2,.int .i64 1,.string ({ data:={ toList:=[(71:UInt8),(66:UInt8),(80:UInt8)]:Array UInt8 }:ByteArray }),.string ({ data:={ toList:=[(56:UInt8),(50:UInt8),(54:UInt8)]:Array UInt8 }:ByteArray }),.int .i64 2,.int .i64 1,.string ({ data:={ toList:=[(72:UInt8),(85:UInt8),(70:UInt8)]:Array UInt8 }:ByteArray }),.string ({ data:={ toList:=[(51:UInt8),(52:UInt8),(56:UInt8)]:Array UInt8 }:ByteArray }),.int .i64 2,.int .i64 500,.string ({ data:={ toList:=[(73:UInt8),(83:UInt8),(75:UInt8)]:Array UInt8 }:ByteArray }),.string ({ data:={ toList:=[(51:UInt8),(53:UInt8),(50:UInt8)]:Array UInt8 }:ByteArray }),.int .i64 0,.int .i64 1,.string ({ data:={ toList:=[(74:UInt8),(80:UInt8),(89:UInt8)]:Array UInt8 }:ByteArray }),.string ({ data:={ toList:=[(51:UInt8),(57:UInt8),(50:UInt8)]:Array UInt8 }:ByteArray }),.int .i64 0,.int .i64 1,.string ({ data:={ toList:=[(75:UInt8),(82:UInt8),(87:UInt8)]:Array UInt8 }:ByteArray }),.string ({ data:={ toList:=[(52:UInt8),(49:UInt8),(48:UInt8)]:Array UInt8 }:ByteArray }),.int .i64 0,.int .i64 10,.string ({ data:={ toList:=[(75:UInt8),(87:UInt8),(68:UInt8)]:Array UInt8 }:ByteArray }),.string ({ data:={ toList:=[(52:UInt8),(49:UInt8),(52:UInt8)]:Array UInt8 }:ByteArray }),.int .i64 3,.int .i64 5,.string ({ data:={ toList:=[(78:UInt8),(79:UInt8),(75:UInt8)]:Array UInt8 }:ByteArray }),.string ({ data:={ toList:=[(53:UInt8),(55:UInt8),(56:UInt8)]:Array UInt8 }:ByteArray }),.int .i64 2,.int .i64 100,.string ({ data:={ toList:=[(78:UInt8),(90:UInt8),(68:UInt8)]:Array UInt8 }:ByteArray }),.string ({ data:={ toList:=[(53:UInt8),(53:UInt8),(52:UInt8)]:Array UInt8 }:ByteArray }),.int .i64 2,.int .i64 10,.string ({ data:={ toList:=[(80:UInt8),(76:UInt8),(78:UInt8)]:Array UInt8 }:ByteArray }),.string ({ data:={ toList:=[(57:UInt8),(56:UInt8),(53:UInt8)]:Array UInt8 }:ByteArray }),.int .i64 2,.int .i64 1,.string ({ data:={ toList:=[(83:UInt8),(69:UInt8),(75:UInt8)]:Array UInt8 }:ByteArray }),.string ({ data:={ toList:=[(55:UInt8),(53:UInt8),(50:UInt8)]:Array UInt8 }:ByteArray }),.int .i64 2,.int .i64 100,.string ({ data:={ toList:=[(84:UInt8),(78:UInt8),(68:UInt8)]:Array UInt8 }:ByteArray }),.string ({ data:={ toList:=[(55:UInt8),(56:UInt8),(56:UInt8)]:Array UInt8 }:ByteArray }),.int .i64 3,.int .i64 10,.string ({ data:={ toList:=[(85:UInt8),(83:UInt8),(68:UInt8)]:Array UInt8 }:ByteArray }),.string ({ data:={ toList:=[(56:UInt8),(52:UInt8),(48:UInt8)]:Array UInt8 }:ByteArray }),.int .i64 2,.int .i64 1] 118 fun b1 c1 =>
 .ret [.slice (some { block:=b1,off:=(0:Nat):Addr }) ((20:Nat)) (c1)]
theorem fS_l08Table :qft qa0 149 [] (tS_l08Table ) :=fitK (by kernel_rfl)
def aS_l02Cmp:An:=⟨[(6,[.s 5],[.o (.o (.i .i64))])],[],[]⟩
def tS_l02Cmp (x0:SlV) (x1:SlV):T :=
 .br ((↑x0.n:Int) != (↑x1.n:Int)) (
  .br (decide ((↑x0.n:Int)<(↑x1.n:Int))) (
   .rM) <|
 .ret [.int .i64 1]) <|
 .lp [.o (.o (.i .i64))] [.v (.int .i64 (IntKind.i64.wrap ((↑x0.n:Int)-(1:Int))))] fun y1 =>
 .br (decide (y1.1≥(0:Int))) (
  .rg <|
 .el x0.1 (x0.n) y1.1 fun y2 =>
  .ql21 (y2.add (Int.toNat y1.1*(1:Nat))) fun y3 =>
  .el x1.1 (x1.n) y1.1 fun y4 =>
  .ql21 (y4.add (Int.toNat y1.1*(1:Nat))) fun y5 =>
  .br (decide (y3<y5)) (
   .rM) <|
 .rg <|
 .el x0.1 (x0.n) y1.1 fun y6 =>
  .ql21 (y6.add (Int.toNat y1.1*(1:Nat))) fun y7 =>
  .el x1.1 (x1.n) y1.1 fun y8 =>
  .ql21 (y8.add (Int.toNat y1.1*(1:Nat))) fun y9 =>
  .br (decide (y7 > y9)) (
   .ret [.int .i64 1]) <|
 .nx 0 [.v (.int .i64 (IntKind.i64.wrap (y1.1-(1:Int))))]) <|
 .ret [.int .i64 0]
theorem fS_l02Cmp x0 x1:qft aS_l02Cmp 150 [Sc.val .l x0,Sc.val .l x1] (tS_l02Cmp x0 x1) :=fitK (by kernel_rfl)
def aS_l02Mul:An:=⟨[(5,[.s 5,.s 28],[.a 3,.o (.o (.i .i64))]),(9,[.s 5,.s 8,.s 35],[.a 3,.o (.o (.i .i64)),.o (.o (.i .i64))])],[],[]⟩
def tS_l02Mul (x0:SlV) (x1:SlV):T :=
 .br ((↑x0.n:Int) == (0:Int)) (
  .ret [.slice none 0 0]) <|
 .br ((↑x1.n:Int) == (0:Int)) (
  .ret [.slice none 0 0]) <|
 .rq ((0:Int)≤IntKind.i64.wrap ((↑x0.n:Int)+(↑x1.n:Int))∧IntKind.i64.wrap ((↑x0.n:Int)+(↑x1.n:Int))≤IntKind.i64.wrap ((↑x0.n:Int)+(↑x1.n:Int))∧(↑(8:Nat):Int)*IntKind.i64.wrap ((↑x0.n:Int)+(↑x1.n:Int))≤(281474976710656:Int)∧IntKind.i64.wrap ((↑x0.n:Int)+(↑x1.n:Int))≤(9223372036854775807:Int)) <|
 .lp [.a 3,.o (.o (.i .i64))] [.a 3 ((IntKind.i64.wrap ((↑x0.n:Int)+(↑x1.n:Int))).toNat) ((madeCells { toList:=[Value.int IntKind.i64 (0:Int)]:Array Value } ((IntKind.i64.wrap ((↑x0.n:Int)+(↑x1.n:Int))).toNat*(1:Nat))).toList),.v (.int .i64 0)] fun y1 =>
 .br (decide (y1.2.1<(↑x0.n:Int))) (
  .el x0.1 (x0.n) y1.2.1 fun y2 =>
  .ql13 (y2.add (Int.toNat y1.2.1*(1:Nat))) fun y3 =>
  .lp [.a 3,.o (.o (.i .i64)),.o (.o (.i .i64))] [.a 3 y1.1.1 y1.1.2,.v (.int .i64 0),.v (.int .i64 0)] fun y4 =>
  .br (decide (y4.2.2.1<(↑x1.n:Int))) (
   .el x1.1 (x1.n) y4.2.2.1 fun y5 =>
   .ql13 (y5.add (Int.toNat y4.2.2.1*(1:Nat))) fun y6 =>
   .rq ((0:Int)≤IntKind.i64.wrap (y1.2.1+y4.2.2.1)∧IntKind.i64.wrap (y1.2.1+y4.2.2.1)<(↑y4.1.1:Int)) <|
 .xs y4.1.2 ((IntKind.i64.wrap (y1.2.1+y4.2.2.1)).toNat*(1:Nat)) (.o (.i .i64)) fun y7 =>
   .rq ((1000000000:Int)≠(0:Int)) <|
 .rq ((0:Int)≤IntKind.i64.wrap (y1.2.1+y4.2.2.1)∧IntKind.i64.wrap (y1.2.1+y4.2.2.1)<(↑y4.1.1:Int)) <|
 .rq ((IntKind.i64.wrap (y1.2.1+y4.2.2.1)).toNat*(1:Nat)+[Value.int IntKind.i64 ((IntKind.i64.wrap (IntKind.i64.wrap (y7+IntKind.i64.wrap (y3*y6))+y4.2.1)).tmod (1000000000:Int))].length≤y4.1.2.length) <|
 .rq ((1000000000:Int)≠(0:Int)) <|
 .nx 1 [.a 3 y4.1.1 (setl y4.1.2 ((IntKind.i64.wrap (y1.2.1+y4.2.2.1)).toNat*(1:Nat)) [Value.int IntKind.i64 ((IntKind.i64.wrap (IntKind.i64.wrap (y7+IntKind.i64.wrap (y3*y6))+y4.2.1)).tmod (1000000000:Int))]),.v (.int .i64 (IntKind.i64.wrap ((IntKind.i64.wrap (IntKind.i64.wrap (y7+IntKind.i64.wrap (y3*y6))+y4.2.1)).tdiv (1000000000:Int)))),.v (.int .i64 (IntKind.i64.wrap (y4.2.2.1+(1:Int))))]) <|
 .rq ((0:Int)≤IntKind.i64.wrap (y1.2.1+(↑x1.n:Int))∧IntKind.i64.wrap (y1.2.1+(↑x1.n:Int))<(↑y4.1.1:Int)) <|
 .rq ((IntKind.i64.wrap (y1.2.1+(↑x1.n:Int))).toNat*(1:Nat)+[(Sh1.o (Sc.i IntKind.i64)).val y4.2.1].length≤y4.1.2.length) <|
 .nx 0 [.a 3 y4.1.1 (setl y4.1.2 ((IntKind.i64.wrap (y1.2.1+(↑x1.n:Int))).toNat*(1:Nat)) [(Sh1.o (Sc.i IntKind.i64)).val y4.2.1]),.v (.int .i64 (IntKind.i64.wrap (y1.2.1+(1:Int))))]) <|
 .fz y1.1.1 y1.1.2 3 fun b2 c2 =>
 .qc3 115 [.slice (some { block:=b2,off:=(0:Nat):Addr }) y1.1.1 (c2)] fun y3 =>
 .ret [Sc.val .l y3]
theorem fS_l02Mul x0 x1:qft aS_l02Mul 151 [Sc.val .l x0,Sc.val .l x1] (tS_l02Mul x0 x1) :=fitK (by kernel_rfl)
def aS_NatTen:An:=⟨[(6,[.s 4,.s 5],[.o (.o (.i .i64)),.o (.o (.i .i64))])],[],[]⟩
def tS_NatTen (x0:Int):T :=
 .qc1 45 [.int .i64 x0,.int .i64 0,.int .i64 449] fun y1 =>
 .bn y1 (.ret [.slice none 0 0]) <|
 .rq ((9:Int)≠(0:Int)) <|
 .rq ((0:Int)≤IntKind.i64.wrap (x0.tdiv (9:Int))∧IntKind.i64.wrap (x0.tdiv (9:Int))≤IntKind.i64.wrap (x0.tdiv (9:Int))∧(↑(8:Nat):Int)*IntKind.i64.wrap (x0.tdiv (9:Int))≤(281474976710656:Int)∧IntKind.i64.wrap (x0.tdiv (9:Int))≤(9223372036854775807:Int)) <|
 .lp [.o (.o (.i .i64)),.o (.o (.i .i64))] [.v (.int .i64 1),.v (.int .i64 0)] fun y2 =>
 .rq ((9:Int)≠(0:Int)) <|
 .br (decide (y2.2.1<x0.tmod (9:Int))) (
  .nx 0 [.v (.int .i64 (IntKind.i64.wrap (y2.1*(10:Int)))),.v (.int .i64 (IntKind.i64.wrap (y2.2.1+(1:Int))))]) <|
 .rq ([Value.int IntKind.i64 y2.1].length=(1:Nat)*(1:Nat)) <|
 .rq (one [Value.int IntKind.i64 y2.1]=true∧((IntKind.i64.wrap (x0.tdiv (9:Int))).toNat+(1:Nat))*(8:Nat)≤(140737488355328:Nat)∧(IntKind.i64.wrap (x0.tdiv (9:Int))).toNat+(1:Nat)≤(9223372036854775807:Nat)) <|
 .fz ((IntKind.i64.wrap (x0.tdiv (9:Int))).toNat+(1:Nat)) ((madeCells { toList:=[Value.int IntKind.i64 (0:Int)]:Array Value } ((IntKind.i64.wrap (x0.tdiv (9:Int))).toNat*(1:Nat))).toList++[Value.int IntKind.i64 y2.1]) 3 fun b3 c3 =>
 .ret [.slice (some { block:=b3,off:=(0:Nat):Addr }) ((IntKind.i64.wrap (x0.tdiv (9:Int))).toNat+(1:Nat)) (c3)]
theorem fS_NatTen x0:qft aS_NatTen 152 [.int .i64 x0] (tS_NatTen x0) :=fitK (by kernel_rfl)
def tS_NatDiv (x0:SlV) (x1:SlV):T :=
 .qc1 125 [Sc.val .l x0] fun y1 =>
 .bn y1 (.ret [.slice none 0 0,.slice none 0 0]) <|
 .qc1 125 [Sc.val .l x1] fun y2 =>
 .bn y2 (.ret [.slice none 0 0,.slice none 0 0]) <|
 .br ((↑x1.n:Int) == (0:Int)) (
  .ret [.slice none 0 0,.slice none 0 0]) <|
 .qc33 185 [Sc.val .l x0,Sc.val .l x1] fun y3 =>
 .ret [Sc.val .l y3.1,Sc.val .l y3.2.1]
theorem fS_NatDiv x0 x1:qft qa0 153 [Sc.val .l x0,Sc.val .l x1] (tS_NatDiv x0 x1) :=fitK (by kernel_rfl)
def tS_l02Cap (x0:SlV):T :=
 .qc3 115 [Sc.val .l x0] fun y1 =>
 .br (decide ((↑y1.n:Int) > (50:Int))) (
  .ret [.slice none 0 0]) <|
 .ret [Sc.val .l y1]
theorem fS_l02Cap x0:qft qa0 154 [Sc.val .l x0] (tS_l02Cap x0) :=fitK (by kernel_rfl)
def aI_TextNat:An:=⟨[(5,[.s 4,.s 5],[.a 3,.o (.o (.i .i64))]),(9,[.s 6,.s 42],[.o (.o (.i .i64)),.o (.o (.i .i64))])],[],[]⟩
def tI_TextNat (x0:ByteArray):T :=
 .qc1 186 [.string x0] fun y1 =>
 .bn y1 (.ret [.slice none 0 0,.bool (false)]) <|
 .br (decide ((↑x0.size:Int) > (450:Int))) (
  .ret [.slice none 0 0,.bool (false)]) <|
 .rq ((0:Int)≤(0:Int)∧(0:Int)<(↑x0.size:Int)) <|
 .br (at0 x0 (Int.toNat (0:Int)) == (48:Int)) (
  .br (decide ((↑x0.size:Int) > (1:Int))) (
   .ret [.slice none 0 0,.bool (false)]) <|
 .lp [.a 3,.o (.o (.i .i64))] [.a 3 ((0:Nat)) [],.v (.int .i64 ((↑x0.size:Int)))] fun y2 =>
  .br (decide (y2.2.1 > (0:Int))) (
   .rq (((0:Int)≤if IntKind.i64.wrap (y2.2.1-(9:Int)) > (0:Int) then IntKind.i64.wrap (y2.2.1-(9:Int)) else (0:Int))∧(if IntKind.i64.wrap (y2.2.1-(9:Int)) > (0:Int) then IntKind.i64.wrap (y2.2.1-(9:Int)) else (0:Int))≤y2.2.1∧y2.2.1≤(↑x0.size:Int)) <|
 .mo (.cv 9 97 (.string (x0.extract (if IntKind.i64.wrap (y2.2.1-(9:Int)) > (0:Int) then IntKind.i64.wrap (y2.2.1-(9:Int)) else (0:Int)).toNat (Int.toNat y2.2.1)))) (.v (.o (.l))) fun y3 =>
   .lp [.o (.o (.i .i64)),.o (.o (.i .i64))] [.v (.int .i64 0),.v (.int .i64 0)] fun y4 =>
   .br (decide (y4.2.1<(↑y3.n:Int))) (
    .el y3.1 (y3.n) y4.2.1 fun y5 =>
    .ql43 (y5.add (Int.toNat y4.2.1*(1:Nat))) fun y6 =>
    .nx 1 [.v (.int .i64 (IntKind.i64.wrap (IntKind.i64.wrap ((10:Int)*y4.1)+IntKind.i64.wrap (IntKind.u8.wrap (y6-(48:Int)))))),.v (.int .i64 (IntKind.i64.wrap (y4.2.1+(1:Int))))]) <|
 .rq ([Value.int IntKind.i64 y4.1].length=(1:Nat)*(1:Nat)) <|
 .rq (one [Value.int IntKind.i64 y4.1]=true∧(y2.1.1+(1:Nat))*(8:Nat)≤(140737488355328:Nat)∧y2.1.1+(1:Nat)≤(9223372036854775807:Nat)) <|
 .nx 0 [.a 3 (y2.1.1+(1:Nat)) (y2.1.2++[Value.int IntKind.i64 y4.1]),.v (.int .i64 (IntKind.i64.wrap (y2.2.1-(9:Int))))]) <|
 .fz y2.1.1 y2.1.2 3 fun b3 c3 =>
  .qc3 187 [.slice (some { block:=b3,off:=(0:Nat):Addr }) y2.1.1 (c3)] fun y4 =>
  .ret [Sc.val .l y4,.bool (true)]) <|
 .lp [.a 3,.o (.o (.i .i64))] [.a 3 ((0:Nat)) [],.v (.int .i64 ((↑x0.size:Int)))] fun y2 =>
 .br (decide (y2.2.1 > (0:Int))) (
  .rq (((0:Int)≤if IntKind.i64.wrap (y2.2.1-(9:Int)) > (0:Int) then IntKind.i64.wrap (y2.2.1-(9:Int)) else (0:Int))∧(if IntKind.i64.wrap (y2.2.1-(9:Int)) > (0:Int) then IntKind.i64.wrap (y2.2.1-(9:Int)) else (0:Int))≤y2.2.1∧y2.2.1≤(↑x0.size:Int)) <|
 .mo (.cv 9 97 (.string (x0.extract (if IntKind.i64.wrap (y2.2.1-(9:Int)) > (0:Int) then IntKind.i64.wrap (y2.2.1-(9:Int)) else (0:Int)).toNat (Int.toNat y2.2.1)))) (.v (.o (.l))) fun y3 =>
  .lp [.o (.o (.i .i64)),.o (.o (.i .i64))] [.v (.int .i64 0),.v (.int .i64 0)] fun y4 =>
  .br (decide (y4.2.1<(↑y3.n:Int))) (
   .el y3.1 (y3.n) y4.2.1 fun y5 =>
   .ql43 (y5.add (Int.toNat y4.2.1*(1:Nat))) fun y6 =>
   .nx 1 [.v (.int .i64 (IntKind.i64.wrap (IntKind.i64.wrap ((10:Int)*y4.1)+IntKind.i64.wrap (IntKind.u8.wrap (y6-(48:Int)))))),.v (.int .i64 (IntKind.i64.wrap (y4.2.1+(1:Int))))]) <|
 .rq ([Value.int IntKind.i64 y4.1].length=(1:Nat)*(1:Nat)) <|
 .rq (one [Value.int IntKind.i64 y4.1]=true∧(y2.1.1+(1:Nat))*(8:Nat)≤(140737488355328:Nat)∧y2.1.1+(1:Nat)≤(9223372036854775807:Nat)) <|
 .nx 0 [.a 3 (y2.1.1+(1:Nat)) (y2.1.2++[Value.int IntKind.i64 y4.1]),.v (.int .i64 (IntKind.i64.wrap (y2.2.1-(9:Int))))]) <|
 .fz y2.1.1 y2.1.2 3 fun b3 c3 =>
 .qc3 187 [.slice (some { block:=b3,off:=(0:Nat):Addr }) y2.1.1 (c3)] fun y4 =>
 .ret [Sc.val .l y4,.bool (true)]
theorem fI_TextNat x0:qft aI_TextNat 156 [.string x0] (tI_TextNat x0) :=fitK (by kernel_rfl)
def tI_signed (x0:Bool) (x1:SlV):T :=
 .br x0 (
  .ret [qv1 ((decide ((↑x1.n:Int) > (0:Int))),x1,())]) <|
 .ret [qv1 ((false),x1,())]
theorem fI_signed x0 x1:qft qa0 157 [.bool x0,Sc.val .l x1] (tI_signed x0 x1) :=fitK (by kernel_rfl)
def tI_DecText (x0:qy0):T :=
 .qc1 143 [qv0 x0] fun y1 =>
 .bn y1 (.ret [.string ({ data:={ toList:=[]:Array UInt8 }:ByteArray })]) <|
 .rg <|
 .qc18 189 [Sc.val .l x0.2.1] fun y2 =>
 .qc6 188 [.string y2,.int .i64 (IntKind.i64.wrap (x0.2.2.1+(1:Int)))] fun y3 =>
 .br (decide (x0.2.2.1 > (0:Int))) (
  .rg <|
 .rq ((0:Int)≤(0:Int)∧(0:Int)≤IntKind.i64.wrap ((↑y3.size:Int)-x0.2.2.1)∧IntKind.i64.wrap ((↑y3.size:Int)-x0.2.2.1)≤(↑y3.size:Int)) <|
 .rq ((y3.extract (Int.toNat (0:Int)) (IntKind.i64.wrap ((↑y3.size:Int)-x0.2.2.1)).toNat).size+{ data:={ toList:=[(46:UInt8)]:Array UInt8 }:ByteArray }.size≤(9223372036854775807:Nat)) <|
 .rq ((0:Int)≤IntKind.i64.wrap ((↑y3.size:Int)-x0.2.2.1)∧IntKind.i64.wrap ((↑y3.size:Int)-x0.2.2.1)≤(↑y3.size:Int)∧(↑y3.size:Int)≤(↑y3.size:Int)) <|
 .rq ((y3.extract (Int.toNat (0:Int)) (IntKind.i64.wrap ((↑y3.size:Int)-x0.2.2.1)).toNat++{ data:={ toList:=[(46:UInt8)]:Array UInt8 }:ByteArray }).size+(y3.extract (IntKind.i64.wrap ((↑y3.size:Int)-x0.2.2.1)).toNat (↑y3.size:Int).toNat).size≤(9223372036854775807:Nat)) <|
 .br x0.1 (
   .rq ({ data:={ toList:=[(45:UInt8)]:Array UInt8 }:ByteArray }.size+(y3.extract (Int.toNat (0:Int)) (IntKind.i64.wrap ((↑y3.size:Int)-x0.2.2.1)).toNat++{ data:={ toList:=[(46:UInt8)]:Array UInt8 }:ByteArray }++y3.extract (IntKind.i64.wrap ((↑y3.size:Int)-x0.2.2.1)).toNat (↑y3.size:Int).toNat).size≤(9223372036854775807:Nat)) <|
 .ret [.string ({ data:={ toList:=[(45:UInt8)]:Array UInt8 }:ByteArray }++(y3.extract (Int.toNat (0:Int)) (IntKind.i64.wrap ((↑y3.size:Int)-x0.2.2.1)).toNat++{ data:={ toList:=[(46:UInt8)]:Array UInt8 }:ByteArray }++y3.extract (IntKind.i64.wrap ((↑y3.size:Int)-x0.2.2.1)).toNat (↑y3.size:Int).toNat))]) <|
 .ret [.string (y3.extract (Int.toNat (0:Int)) (IntKind.i64.wrap ((↑y3.size:Int)-x0.2.2.1)).toNat++{ data:={ toList:=[(46:UInt8)]:Array UInt8 }:ByteArray }++y3.extract (IntKind.i64.wrap ((↑y3.size:Int)-x0.2.2.1)).toNat (↑y3.size:Int).toNat)]) <|
 .br x0.1 (
  .rq ({ data:={ toList:=[(45:UInt8)]:Array UInt8 }:ByteArray }.size+y3.size≤(9223372036854775807:Nat)) <|
 .ret [.string ({ data:={ toList:=[(45:UInt8)]:Array UInt8 }:ByteArray }++y3)]) <|
 .ret [.string y3]
theorem fI_DecText x0:qft qa0 158 [qv0 x0] (tI_DecText x0) :=fitK (by kernel_rfl)
def tI_CurPlaces (x0:ByteArray):T :=
 .qc42 184 [.string x0] fun y1 =>
 .ret [.int .i64 y1.1.2.2.1]
theorem fI_CurPlaces x0:qft qa0 159 [.string x0] (tI_CurPlaces x0) :=fitK (by kernel_rfl)
def aI_natSmall:An:=⟨[(4,[.s 6,.s 7,.s 8],[.a 3,.o (.o (.i .i64)),.o (.o (.i .i64))])],[],[]⟩
def tI_natSmall (x0:SlV) (x1:Int):T :=
 .rq ((0:Int)≤(↑x0.n:Int)∧(↑x0.n:Int)≤(↑x0.n:Int)∧(↑(8:Nat):Int)*(↑x0.n:Int)≤(281474976710656:Int)∧(↑x0.n:Int)≤(9223372036854775807:Int)) <|
 .lp [.a 3,.o (.o (.i .i64)),.o (.o (.i .i64))] [.a 3 ((↑x0.n:Int).toNat) ((madeCells { toList:=[Value.int IntKind.i64 (0:Int)]:Array Value } ((↑x0.n:Int).toNat*(1:Nat))).toList),.v (.int .i64 0),.v (.int .i64 (IntKind.i64.wrap ((↑x0.n:Int)-(1:Int))))] fun y1 =>
 .br (decide (y1.2.2.1≥(0:Int))) (
  .el x0.1 (x0.n) y1.2.2.1 fun y2 =>
  .ql13 (y2.add (Int.toNat y1.2.2.1*(1:Nat))) fun y3 =>
  .rq (x1≠(0:Int)) <|
 .rq ((0:Int)≤y1.2.2.1∧y1.2.2.1<(↑y1.1.1:Int)) <|
 .rq (Int.toNat y1.2.2.1*(1:Nat)+[Value.int IntKind.i64 (IntKind.i64.wrap ((IntKind.i64.wrap (IntKind.i64.wrap (y1.2.1*(1000000000:Int))+y3)).tdiv x1))].length≤y1.1.2.length) <|
 .rq (x1≠(0:Int)) <|
 .nx 0 [.a 3 y1.1.1 (setl y1.1.2 (Int.toNat y1.2.2.1*(1:Nat)) [Value.int IntKind.i64 (IntKind.i64.wrap ((IntKind.i64.wrap (IntKind.i64.wrap (y1.2.1*(1000000000:Int))+y3)).tdiv x1))]),.v (.int .i64 ((IntKind.i64.wrap (IntKind.i64.wrap (y1.2.1*(1000000000:Int))+y3)).tmod x1)),.v (.int .i64 (IntKind.i64.wrap (y1.2.2.1-(1:Int))))]) <|
 .fz y1.1.1 y1.1.2 3 fun b2 c2 =>
 .qc3 187 [.slice (some { block:=b2,off:=(0:Nat):Addr }) y1.1.1 (c2)] fun y3 =>
 .ret [Sc.val .l y3,.int .i64 y1.2.1]
theorem fI_natSmall x0 x1:qft aI_natSmall 160 [Sc.val .l x0,.int .i64 x1] (tI_natSmall x0 x1) :=fitK (by kernel_rfl)
def tI_DecMul (x0:qy0) (x1:qy0):T :=
 .qc1 143 [qv0 x0] fun y1 =>
 .bn y1 (.ret [qv0 ((false),nilS,(((0:Int)):Int),()),.bool (false)]) <|
 .qc1 143 [qv0 x1] fun y2 =>
 .bn y2 (.ret [qv0 ((false),nilS,(((0:Int)):Int),()),.bool (false)]) <|
 .rg <|
 .qc25 190 [qv1 (x0.1,x0.2.1,()),qv1 (x1.1,x1.2.1,())] fun y3 =>
 .qc8 181 [qv1 y3,.int .i64 (IntKind.i64.wrap (x0.2.2.1+x1.2.2.1))] fun y4 =>
 .ret [qv0 y4.1,.bool y4.2.1]
theorem fI_DecMul x0 x1:qft qa0 161 [qv0 x0,qv0 x1] (tI_DecMul x0 x1) :=fitK (by kernel_rfl)
def aI_sameInts:An:=⟨[(4,[.s 13],[.o (.o (.i .i64))])],[],[]⟩
def tI_sameInts (x0:SlV) (x1:SlV):T :=
 .br ((↑x0.n:Int) != (↑x1.n:Int)) (
  .rF) <|
 .lp [.o (.o (.i .i64))] [.v (.int .i64 0)] fun y1 =>
 .br (decide (y1.1<(↑x0.n:Int))) (
  .rg <|
 .el x0.1 (x0.n) y1.1 fun y2 =>
  .ql21 (y2.add (Int.toNat y1.1*(1:Nat))) fun y3 =>
  .el x1.1 (x1.n) y1.1 fun y4 =>
  .ql21 (y4.add (Int.toNat y1.1*(1:Nat))) fun y5 =>
  .br (y3 != y5) (
   .rF) <|
 .nx 0 [.v (.int .i64 (IntKind.i64.wrap (y1.1+(1:Int))))]) <|
 .rT
theorem fI_sameInts x0 x1:qft aI_sameInts 174 [Sc.val .l x0,Sc.val .l x1] (tI_sameInts x0 x1) :=fitK (by kernel_rfl)
def tI_IntOk (x0:qy1):T :=
 .qc1 197 [Sc.val .l x0.2.1] fun y1 =>
 .br y1 (
  .br (!x0.1) (
   .rT) <|
 .ret [.bool (decide ((↑x0.2.1.n:Int) > (0:Int)))]) <|
 .rF
theorem fI_IntOk x0:qft qa0 175 [qv1 x0] (tI_IntOk x0) :=fitK (by kernel_rfl)
def aX_IndexFunc_int:An:=⟨[(2,[.s 8],[.o (.o (.i .i64))])],[],[]⟩
def tX_IndexFunc_int (x0:SlV) (x1:Nat):T :=
 .lp [.o (.o (.i .i64))] [.v (.int .i64 0)] fun y1 =>
 .br (decide (y1.1<(↑x0.n:Int))) (
  .el x0.1 (x0.n) y1.1 fun y2 =>
  .ql13 (y2.add (Int.toNat y1.1*(1:Nat))) fun y3 =>
  .call false x1 [.int .i64 y3] (.v (.o (.b))) fun y4 =>
  .br y4 (
   .ret [.int .i64 y1.1]) <|
 .nx 0 [.v (.int .i64 (IntKind.i64.wrap (y1.1+(1:Int))))]) <|
 .rM
theorem fX_IndexFunc_int x0 x1:qft aX_IndexFunc_int 176 [Sc.val .l x0,(Value.func (Fn.func x1) { toList:=[]:Array Value } { toList:=[]:Array Value })] (tX_IndexFunc_int x0 x1) :=fitK (by kernel_rfl)
def tI_isScale (x0:Int):T :=
 .br (decide (x0≥(0:Int))) (
  .ret [.bool (decide (x0≤(30:Int)))]) <|
 .rF
theorem fI_isScale x0:qft qa0 177 [.int .i64 x0] (tI_isScale x0) :=fitK (by kernel_rfl)
def tI_scaled (x0:Int):T :=
 .es [.int .i64 x0] 3 fun b1 =>
 .ret [(Value.func (Fn.func (198:Nat)) { toList:=[]:Array Value } { toList:=[Value.pointer (some { block:=b1,off:=(0:Nat):Addr })]:Array Value })]
theorem fI_scaled x0:qft qa0 178 [.int .i64 x0] (tI_scaled x0) :=fitK (by kernel_rfl)
def tI_intCmp (x0:qy1) (x1:qy1):T :=
 .rg <|
 .qc25 201 [qv1 x1] fun y1 =>
 .qc24 200 [qv1 x0,qv1 y1] fun y2 =>
 .qc2 148 [qv1 y2] fun y3 =>
 .ret [.int .i64 y3]
theorem fI_intCmp x0 x1:qft qa0 179 [qv1 x0,qv1 x1] (tI_intCmp x0 x1) :=fitK (by kernel_rfl)
def aI_natOf:An:=⟨[(2,[.s 0,.s 3],[.o (.o (.i .u64)),.a 3])],[],[]⟩
def tI_natOf (x0:Int):T :=
 .lp [.o (.o (.i .u64)),.a 3] [.v (.int .u64 x0),.a 3 ((0:Nat)) []] fun y1 =>
 .br (decide (y1.1 > (0:Int))) (
  .rq ((1000000000:Int)≠(0:Int)) <|
 .rq ([Value.int IntKind.i64 (IntKind.i64.wrap (Int.tmod y1.1 (1000000000:Int)))].length=(1:Nat)*(1:Nat)) <|
 .rq (one [Value.int IntKind.i64 (IntKind.i64.wrap (Int.tmod y1.1 (1000000000:Int)))]=true∧(y1.2.1.1+(1:Nat))*(8:Nat)≤(140737488355328:Nat)∧y1.2.1.1+(1:Nat)≤(9223372036854775807:Nat)) <|
 .rq ((1000000000:Int)≠(0:Int)) <|
 .nx 0 [.v (.int .u64 (IntKind.u64.wrap (Int.tdiv y1.1 (1000000000:Int)))),.a 3 (y1.2.1.1+(1:Nat)) (y1.2.1.2++[Value.int IntKind.i64 (IntKind.i64.wrap (Int.tmod y1.1 (1000000000:Int)))])]) <|
 .fz y1.2.1.1 y1.2.1.2 3 fun b2 c2 =>
 .ret [.slice (some { block:=b2,off:=(0:Nat):Addr }) y1.2.1.1 (c2)]
theorem fI_natOf x0:qft aI_natOf 180 [.int .u64 x0] (tI_natOf x0) :=fitK (by kernel_rfl)
def tI_decOf (x0:qy1) (x1:Int):T :=
 .qc1 143 [qv0 (x0.1,x0.2.1,((x1):Int),())] fun y1 =>
 .br y1 (
  .ret [qv0 (x0.1,x0.2.1,((x1):Int),()),.bool (true)]) <|
 .ret [qv0 ((false),nilS,(((0:Int)):Int),()),.bool (false)]
theorem fI_decOf x0 x1:qft qa0 181 [qv1 x0,.int .i64 x1] (tI_decOf x0 x1) :=fitK (by kernel_rfl)
def aI_natDiv:An:=⟨[(9,[.s 9],[.o (.o (.l))]),(14,[.s 12,.s 13],[.a 3,.o (.o (.i .i64))])],[],[]⟩
def tI_natDiv (x0:SlV) (x1:SlV):T :=
 .qc2 202 [Sc.val .l x0,Sc.val .l x1] fun y1 =>
 .br (decide (y1<(0:Int))) (
  .qc3 203 [Sc.val .l x0] fun y2 =>
  .fz ((0:Nat)) [] 3 fun b3 c3 =>
  .ret [.slice (some { block:=b3,off:=(0:Nat):Addr }) ((0:Nat)) (c3),Sc.val .l y2]) <|
 .br ((↑x1.n:Int) == (1:Int)) (
  .el x1.1 (x1.n) ((0:Int)) fun y2 =>
  .ql13 (y2.add (Int.toNat (0:Int)*(1:Nat))) fun y3 =>
  .qc39 160 [Sc.val .l x0,.int .i64 y3] fun y4 =>
  .qc3 204 [.int .i64 y4.2.1] fun y5 =>
  .ret [Sc.val .l y4.1,Sc.val .l y5]) <|
 .el x1.1 (x1.n) (IntKind.i64.wrap ((↑x1.n:Int)-(1:Int))) fun y2 =>
 .ql13 (y2.add ((IntKind.i64.wrap ((↑x1.n:Int)-(1:Int))).toNat*(1:Nat))) fun y3 =>
 .rq (IntKind.i64.wrap (y3+(1:Int))≠(0:Int)) <|
 .fz ((1:Nat)) [.int .i64 (IntKind.i64.wrap (Int.tdiv (1000000000:Int) (IntKind.i64.wrap (y3+(1:Int)))))] 3 fun b4 c4 =>
 .qc3 199 [Sc.val .l x0,.slice (some { block:=b4,off:=(0:Nat):Addr }) ((1:Nat)) (c4)] fun y5 =>
 .fz ((1:Nat)) [.int .i64 (IntKind.i64.wrap (Int.tdiv (1000000000:Int) (IntKind.i64.wrap (y3+(1:Int)))))] 3 fun b6 c6 =>
 .qc3 199 [Sc.val .l x1,.slice (some { block:=b6,off:=(0:Nat):Addr }) ((1:Nat)) (c6)] fun y7 =>
 .lp [.o (.o (.l))] [.v (Sc.val .l y5)] fun y8 =>
 .br (decide ((↑y8.1.n:Int)≤(↑x0.n:Int))) (
  .rq ([Value.int IntKind.i64 (0:Int)].length=(1:Nat)*(1:Nat)) <|
 .rq (one [Value.int IntKind.i64 (0:Int)]=true) <|
 .ap ({ a:=y8.1.1,n:=y8.1.n,c:=y8.1.c:SlV }) 1 8 [.int .i64 0] ((1:Nat)) 3 fun y9 =>
  .nx 0 [.v (Sc.val .l y9)]) <|
 .rq ((0:Int)≤IntKind.i64.wrap ((↑y8.1.n:Int)-(↑y7.n:Int))∧IntKind.i64.wrap ((↑y8.1.n:Int)-(↑y7.n:Int))≤IntKind.i64.wrap ((↑y8.1.n:Int)-(↑y7.n:Int))∧(↑(8:Nat):Int)*IntKind.i64.wrap ((↑y8.1.n:Int)-(↑y7.n:Int))≤(281474976710656:Int)∧IntKind.i64.wrap ((↑y8.1.n:Int)-(↑y7.n:Int))≤(9223372036854775807:Int)) <|
 .lp [.a 3,.o (.o (.i .i64))] [.a 3 ((IntKind.i64.wrap ((↑y8.1.n:Int)-(↑y7.n:Int))).toNat) ((madeCells { toList:=[Value.int IntKind.i64 (0:Int)]:Array Value } ((IntKind.i64.wrap ((↑y8.1.n:Int)-(↑y7.n:Int))).toNat*(1:Nat))).toList),.v (.int .i64 (IntKind.i64.wrap ((↑(IntKind.i64.wrap ((↑y8.1.n:Int)-(↑y7.n:Int))).toNat:Int)-(1:Int))))] fun y9 =>
 .br (decide (y9.2.1≥(0:Int))) (
  .rq ((0:Int)≤y9.2.1∧y9.2.1≤IntKind.i64.wrap (IntKind.i64.wrap (y9.2.1+(↑y7.n:Int))+(1:Int))∧IntKind.i64.wrap (IntKind.i64.wrap (y9.2.1+(↑y7.n:Int))+(1:Int))≤(↑y8.1.c:Int)∧(↑y8.1.c:Int)≤(↑y8.1.c:Int)) <|
 .qc2 205 [.slice (if (↑y8.1.c:Int).toNat=Int.toNat y9.2.1 then y8.1.1 else Option.map (fun x=>x.add (Int.toNat y9.2.1*Go.Proofs.Tryz.prog.types[(3:Nat)].size)) y8.1.1) ((IntKind.i64.wrap (IntKind.i64.wrap (y9.2.1+(↑y7.n:Int))+(1:Int))).toNat-Int.toNat y9.2.1) ((↑y8.1.c:Int).toNat-Int.toNat y9.2.1),Sc.val .l y7] fun y10 =>
  .rq ((0:Int)≤y9.2.1∧y9.2.1<(↑y9.1.1:Int)) <|
 .rq (Int.toNat y9.2.1*(1:Nat)+[Value.int IntKind.i64 y10].length≤y9.1.2.length) <|
 .nx 1 [.a 3 y9.1.1 (setl y9.1.2 (Int.toNat y9.2.1*(1:Nat)) [Value.int IntKind.i64 y10]),.v (.int .i64 (IntKind.i64.wrap (y9.2.1-(1:Int))))]) <|
 .qc3 187 [Sc.val .l y8.1] fun y10 =>
 .qc39 160 [Sc.val .l y10,.int .i64 (IntKind.i64.wrap (Int.tdiv (1000000000:Int) (IntKind.i64.wrap (y3+(1:Int)))))] fun y11 =>
 .fz y9.1.1 y9.1.2 3 fun b12 c12 =>
 .qc3 187 [.slice (some { block:=b12,off:=(0:Nat):Addr }) y9.1.1 (c12)] fun y13 =>
 .ret [Sc.val .l y13,Sc.val .l y11.1]
theorem fI_natDiv x0 x1:qft aI_natDiv 182 [Sc.val .l x0,Sc.val .l x1] (tI_natDiv x0 x1) :=fitK (by kernel_rfl)
def aI_natTen:An:=⟨[(4,[.s 4,.s 13],[.o (.o (.i .i64)),.o (.o (.i .i64))])],[],[]⟩
def tI_natTen (x0:Int):T :=
 .rq ((9:Int)≠(0:Int)) <|
 .rq ((9:Int)≠(0:Int)) <|
 .rq ((0:Int)≤IntKind.i64.wrap (x0.tdiv (9:Int))∧IntKind.i64.wrap (x0.tdiv (9:Int))≤IntKind.i64.wrap (IntKind.i64.wrap (x0.tdiv (9:Int))+(1:Int))∧(↑(8:Nat):Int)*IntKind.i64.wrap (IntKind.i64.wrap (x0.tdiv (9:Int))+(1:Int))≤(281474976710656:Int)∧IntKind.i64.wrap (IntKind.i64.wrap (x0.tdiv (9:Int))+(1:Int))≤(9223372036854775807:Int)) <|
 .rq ((9:Int)≠(0:Int)) <|
 .lp [.o (.o (.i .i64)),.o (.o (.i .i64))] [.v (.int .i64 1),.v (.int .i64 0)] fun y1 =>
 .br (decide (y1.2.1<x0.tmod (9:Int))) (
  .nx 0 [.v (.int .i64 (IntKind.i64.wrap (y1.1*(10:Int)))),.v (.int .i64 (IntKind.i64.wrap (y1.2.1+(1:Int))))]) <|
 .rq ([Value.int IntKind.i64 y1.1].length=(1:Nat)*(1:Nat)) <|
 .rq (one [Value.int IntKind.i64 y1.1]=true∧((IntKind.i64.wrap (x0.tdiv (9:Int))).toNat+(1:Nat))*(8:Nat)≤(140737488355328:Nat)∧(IntKind.i64.wrap (x0.tdiv (9:Int))).toNat+(1:Nat)≤(9223372036854775807:Nat)) <|
 .fz ((IntKind.i64.wrap (x0.tdiv (9:Int))).toNat+(1:Nat)) ((madeCells { toList:=[Value.int IntKind.i64 (0:Int)]:Array Value } ((IntKind.i64.wrap (x0.tdiv (9:Int))).toNat*(1:Nat))).toList++[Value.int IntKind.i64 y1.1]) 3 fun b2 c2 =>
 .ret [.slice (some { block:=b2,off:=(0:Nat):Addr }) ((IntKind.i64.wrap (x0.tdiv (9:Int))).toNat+(1:Nat)) (c2)]
theorem fI_natTen x0:qft aI_natTen 183 [.int .i64 x0] (tI_natTen x0) :=fitK (by kernel_rfl)
def aI_currencyOf:An:=⟨[(2,[.s 7,.c 2 0,.c 2 1,.c 2 2,.c 2 3],[.o (.o (.i .i64)),.o (.o (.s)),.o (.o (.s)),.o (.o (.i .i64)),.o (.o (.i .i64))])],[],[]⟩
def tI_currencyOf (x0:ByteArray):T :=
 .ql44 ({ block:=(1:Nat),off:=(0:Nat):Addr }) fun y1 =>
 .lp [.o (.o (.i .i64)),.o (.o (.s)),.o (.o (.s)),.o (.o (.i .i64)),.o (.o (.i .i64))] [.v (.int .i64 0),.v (.string ({ data:={ toList:=[]:Array UInt8 }:ByteArray })),.v (.string ({ data:={ toList:=[]:Array UInt8 }:ByteArray })),.v (.int .i64 0),.v (.int .i64 0)] fun y2 =>
 .br (decide (y2.1<(20:Int))) (
  .rq ((0:Int)≤y2.1∧y2.1<(↑(20:Nat):Int)) <|
 .xs [.string y1.1,.string y1.2.1,.int .i64 y1.2.2.1,.int .i64 y1.2.2.2.1,.string y1.2.2.2.2.1,.string y1.2.2.2.2.2.1,.int .i64 y1.2.2.2.2.2.2.1,.int .i64 y1.2.2.2.2.2.2.2.1,.string y1.2.2.2.2.2.2.2.2.1,.string y1.2.2.2.2.2.2.2.2.2.1,.int .i64 y1.2.2.2.2.2.2.2.2.2.2.1,.int .i64 y1.2.2.2.2.2.2.2.2.2.2.2.1,.string y1.2.2.2.2.2.2.2.2.2.2.2.2.1,.string y1.2.2.2.2.2.2.2.2.2.2.2.2.2.1,.int .i64 y1.2.2.2.2.2.2.2.2.2.2.2.2.2.2.1,.int .i64 y1.2.2.2.2.2.2.2.2.2.2.2.2.2.2.2.1,.string y1.2.2.2.2.2.2.2.2.2.2.2.2.2.2.2.2.1,.string y1.2.2.2.2.2.2.2.2.2.2.2.2.2.2.2.2.2.1,.int .i64 y1.2.2.2.2.2.2.2.2.2.2.2.2.2.2.2.2.2.2.1,.int .i64 y1.2.2.2.2.2.2.2.2.2.2.2.2.2.2.2.2.2.2.2.1,.string y1.2.2.2.2.2.2.2.2.2.2.2.2.2.2.2.2.2.2.2.2.1,.string y1.2.2.2.2.2.2.2.2.2.2.2.2.2.2.2.2.2.2.2.2.2.1,.int .i64 y1.2.2.2.2.2.2.2.2.2.2.2.2.2.2.2.2.2.2.2.2.2.2.1,.int .i64 y1.2.2.2.2.2.2.2.2.2.2.2.2.2.2.2.2.2.2.2.2.2.2.2.1,.string y1.2.2.2.2.2.2.2.2.2.2.2.2.2.2.2.2.2.2.2.2.2.2.2.2.1,.string y1.2.2.2.2.2.2.2.2.2.2.2.2.2.2.2.2.2.2.2.2.2.2.2.2.2.1,.int .i64 y1.2.2.2.2.2.2.2.2.2.2.2.2.2.2.2.2.2.2.2.2.2.2.2.2.2.2.1,.int .i64 y1.2.2.2.2.2.2.2.2.2.2.2.2.2.2.2.2.2.2.2.2.2.2.2.2.2.2.2.1,.string y1.2.2.2.2.2.2.2.2.2.2.2.2.2.2.2.2.2.2.2.2.2.2.2.2.2.2.2.2.1,.string y1.2.2.2.2.2.2.2.2.2.2.2.2.2.2.2.2.2.2.2.2.2.2.2.2.2.2.2.2.2.1,.int .i64 y1.2.2.2.2.2.2.2.2.2.2.2.2.2.2.2.2.2.2.2.2.2.2.2.2.2.2.2.2.2.2.1,.int .i64 y1.2.2.2.2.2.2.2.2.2.2.2.2.2.2.2.2.2.2.2.2.2.2.2.2.2.2.2.2.2.2.2.1,.string y1.2.2.2.2.2.2.2.2.2.2.2.2.2.2.2.2.2.2.2.2.2.2.2.2.2.2.2.2.2.2.2.2.1,.string y1.2.2.2.2.2.2.2.2.2.2.2.2.2.2.2.2.2.2.2.2.2.2.2.2.2.2.2.2.2.2.2.2.2.1,.int .i64 y1.2.2.2.2.2.2.2.2.2.2.2.2.2.2.2.2.2.2.2.2.2.2.2.2.2.2.2.2.2.2.2.2.2.2.1,.int .i64 y1.2.2.2.2.2.2.2.2.2.2.2.2.2.2.2.2.2.2.2.2.2.2.2.2.2.2.2.2.2.2.2.2.2.2.2.1,.string y1.2.2.2.2.2.2.2.2.2.2.2.2.2.2.2.2.2.2.2.2.2.2.2.2.2.2.2.2.2.2.2.2.2.2.2.2.1,.string y1.2.2.2.2.2.2.2.2.2.2.2.2.2.2.2.2.2.2.2.2.2.2.2.2.2.2.2.2.2.2.2.2.2.2.2.2.2.1,.int .i64 y1.2.2.2.2.2.2.2.2.2.2.2.2.2.2.2.2.2.2.2.2.2.2.2.2.2.2.2.2.2.2.2.2.2.2.2.2.2.2.1,.int .i64 y1.2.2.2.2.2.2.2.2.2.2.2.2.2.2.2.2.2.2.2.2.2.2.2.2.2.2.2.2.2.2.2.2.2.2.2.2.2.2.2.1,.string y1.2.2.2.2.2.2.2.2.2.2.2.2.2.2.2.2.2.2.2.2.2.2.2.2.2.2.2.2.2.2.2.2.2.2.2.2.2.2.2.2.1,.string y1.2.2.2.2.2.2.2.2.2.2.2.2.2.2.2.2.2.2.2.2.2.2.2.2.2.2.2.2.2.2.2.2.2.2.2.2.2.2.2.2.2.1,.int .i64 y1.2.2.2.2.2.2.2.2.2.2.2.2.2.2.2.2.2.2.2.2.2.2.2.2.2.2.2.2.2.2.2.2.2.2.2.2.2.2.2.2.2.2.1,.int .i64 y1.2.2.2.2.2.2.2.2.2.2.2.2.2.2.2.2.2.2.2.2.2.2.2.2.2.2.2.2.2.2.2.2.2.2.2.2.2.2.2.2.2.2.2.1,.string y1.2.2.2.2.2.2.2.2.2.2.2.2.2.2.2.2.2.2.2.2.2.2.2.2.2.2.2.2.2.2.2.2.2.2.2.2.2.2.2.2.2.2.2.2.1,.string y1.2.2.2.2.2.2.2.2.2.2.2.2.2.2.2.2.2.2.2.2.2.2.2.2.2.2.2.2.2.2.2.2.2.2.2.2.2.2.2.2.2.2.2.2.2.1,.int .i64 y1.2.2.2.2.2.2.2.2.2.2.2.2.2.2.2.2.2.2.2.2.2.2.2.2.2.2.2.2.2.2.2.2.2.2.2.2.2.2.2.2.2.2.2.2.2.2.1,.int .i64 y1.2.2.2.2.2.2.2.2.2.2.2.2.2.2.2.2.2.2.2.2.2.2.2.2.2.2.2.2.2.2.2.2.2.2.2.2.2.2.2.2.2.2.2.2.2.2.2.1,.string y1.2.2.2.2.2.2.2.2.2.2.2.2.2.2.2.2.2.2.2.2.2.2.2.2.2.2.2.2.2.2.2.2.2.2.2.2.2.2.2.2.2.2.2.2.2.2.2.2.1,.string y1.2.2.2.2.2.2.2.2.2.2.2.2.2.2.2.2.2.2.2.2.2.2.2.2.2.2.2.2.2.2.2.2.2.2.2.2.2.2.2.2.2.2.2.2.2.2.2.2.2.1,.int .i64 y1.2.2.2.2.2.2.2.2.2.2.2.2.2.2.2.2.2.2.2.2.2.2.2.2.2.2.2.2.2.2.2.2.2.2.2.2.2.2.2.2.2.2.2.2.2.2.2.2.2.2.1,.int .i64 y1.2.2.2.2.2.2.2.2.2.2.2.2.2.2.2.2.2.2.2.2.2.2.2.2.2.2.2.2.2.2.2.2.2.2.2.2.2.2.2.2.2.2.2.2.2.2.2.2.2.2.2.1,.string y1.2.2.2.2.2.2.2.2.2.2.2.2.2.2.2.2.2.2.2.2.2.2.2.2.2.2.2.2.2.2.2.2.2.2.2.2.2.2.2.2.2.2.2.2.2.2.2.2.2.2.2.2.1,.string y1.2.2.2.2.2.2.2.2.2.2.2.2.2.2.2.2.2.2.2.2.2.2.2.2.2.2.2.2.2.2.2.2.2.2.2.2.2.2.2.2.2.2.2.2.2.2.2.2.2.2.2.2.2.1,.int .i64 y1.2.2.2.2.2.2.2.2.2.2.2.2.2.2.2.2.2.2.2.2.2.2.2.2.2.2.2.2.2.2.2.2.2.2.2.2.2.2.2.2.2.2.2.2.2.2.2.2.2.2.2.2.2.2.1,.int .i64 y1.2.2.2.2.2.2.2.2.2.2.2.2.2.2.2.2.2.2.2.2.2.2.2.2.2.2.2.2.2.2.2.2.2.2.2.2.2.2.2.2.2.2.2.2.2.2.2.2.2.2.2.2.2.2.2.1,.string y1.2.2.2.2.2.2.2.2.2.2.2.2.2.2.2.2.2.2.2.2.2.2.2.2.2.2.2.2.2.2.2.2.2.2.2.2.2.2.2.2.2.2.2.2.2.2.2.2.2.2.2.2.2.2.2.2.1,.string y1.2.2.2.2.2.2.2.2.2.2.2.2.2.2.2.2.2.2.2.2.2.2.2.2.2.2.2.2.2.2.2.2.2.2.2.2.2.2.2.2.2.2.2.2.2.2.2.2.2.2.2.2.2.2.2.2.2.1,.int .i64 y1.2.2.2.2.2.2.2.2.2.2.2.2.2.2.2.2.2.2.2.2.2.2.2.2.2.2.2.2.2.2.2.2.2.2.2.2.2.2.2.2.2.2.2.2.2.2.2.2.2.2.2.2.2.2.2.2.2.2.1,.int .i64 y1.2.2.2.2.2.2.2.2.2.2.2.2.2.2.2.2.2.2.2.2.2.2.2.2.2.2.2.2.2.2.2.2.2.2.2.2.2.2.2.2.2.2.2.2.2.2.2.2.2.2.2.2.2.2.2.2.2.2.2.1,.string y1.2.2.2.2.2.2.2.2.2.2.2.2.2.2.2.2.2.2.2.2.2.2.2.2.2.2.2.2.2.2.2.2.2.2.2.2.2.2.2.2.2.2.2.2.2.2.2.2.2.2.2.2.2.2.2.2.2.2.2.2.1,.string y1.2.2.2.2.2.2.2.2.2.2.2.2.2.2.2.2.2.2.2.2.2.2.2.2.2.2.2.2.2.2.2.2.2.2.2.2.2.2.2.2.2.2.2.2.2.2.2.2.2.2.2.2.2.2.2.2.2.2.2.2.2.1,.int .i64 y1.2.2.2.2.2.2.2.2.2.2.2.2.2.2.2.2.2.2.2.2.2.2.2.2.2.2.2.2.2.2.2.2.2.2.2.2.2.2.2.2.2.2.2.2.2.2.2.2.2.2.2.2.2.2.2.2.2.2.2.2.2.2.1,.int .i64 y1.2.2.2.2.2.2.2.2.2.2.2.2.2.2.2.2.2.2.2.2.2.2.2.2.2.2.2.2.2.2.2.2.2.2.2.2.2.2.2.2.2.2.2.2.2.2.2.2.2.2.2.2.2.2.2.2.2.2.2.2.2.2.2.1,.string y1.2.2.2.2.2.2.2.2.2.2.2.2.2.2.2.2.2.2.2.2.2.2.2.2.2.2.2.2.2.2.2.2.2.2.2.2.2.2.2.2.2.2.2.2.2.2.2.2.2.2.2.2.2.2.2.2.2.2.2.2.2.2.2.2.1,.string y1.2.2.2.2.2.2.2.2.2.2.2.2.2.2.2.2.2.2.2.2.2.2.2.2.2.2.2.2.2.2.2.2.2.2.2.2.2.2.2.2.2.2.2.2.2.2.2.2.2.2.2.2.2.2.2.2.2.2.2.2.2.2.2.2.2.1,.int .i64 y1.2.2.2.2.2.2.2.2.2.2.2.2.2.2.2.2.2.2.2.2.2.2.2.2.2.2.2.2.2.2.2.2.2.2.2.2.2.2.2.2.2.2.2.2.2.2.2.2.2.2.2.2.2.2.2.2.2.2.2.2.2.2.2.2.2.2.1,.int .i64 y1.2.2.2.2.2.2.2.2.2.2.2.2.2.2.2.2.2.2.2.2.2.2.2.2.2.2.2.2.2.2.2.2.2.2.2.2.2.2.2.2.2.2.2.2.2.2.2.2.2.2.2.2.2.2.2.2.2.2.2.2.2.2.2.2.2.2.2.1,.string y1.2.2.2.2.2.2.2.2.2.2.2.2.2.2.2.2.2.2.2.2.2.2.2.2.2.2.2.2.2.2.2.2.2.2.2.2.2.2.2.2.2.2.2.2.2.2.2.2.2.2.2.2.2.2.2.2.2.2.2.2.2.2.2.2.2.2.2.2.1,.string y1.2.2.2.2.2.2.2.2.2.2.2.2.2.2.2.2.2.2.2.2.2.2.2.2.2.2.2.2.2.2.2.2.2.2.2.2.2.2.2.2.2.2.2.2.2.2.2.2.2.2.2.2.2.2.2.2.2.2.2.2.2.2.2.2.2.2.2.2.2.1,.int .i64 y1.2.2.2.2.2.2.2.2.2.2.2.2.2.2.2.2.2.2.2.2.2.2.2.2.2.2.2.2.2.2.2.2.2.2.2.2.2.2.2.2.2.2.2.2.2.2.2.2.2.2.2.2.2.2.2.2.2.2.2.2.2.2.2.2.2.2.2.2.2.2.1,.int .i64 y1.2.2.2.2.2.2.2.2.2.2.2.2.2.2.2.2.2.2.2.2.2.2.2.2.2.2.2.2.2.2.2.2.2.2.2.2.2.2.2.2.2.2.2.2.2.2.2.2.2.2.2.2.2.2.2.2.2.2.2.2.2.2.2.2.2.2.2.2.2.2.2.1,.string y1.2.2.2.2.2.2.2.2.2.2.2.2.2.2.2.2.2.2.2.2.2.2.2.2.2.2.2.2.2.2.2.2.2.2.2.2.2.2.2.2.2.2.2.2.2.2.2.2.2.2.2.2.2.2.2.2.2.2.2.2.2.2.2.2.2.2.2.2.2.2.2.2.1,.string y1.2.2.2.2.2.2.2.2.2.2.2.2.2.2.2.2.2.2.2.2.2.2.2.2.2.2.2.2.2.2.2.2.2.2.2.2.2.2.2.2.2.2.2.2.2.2.2.2.2.2.2.2.2.2.2.2.2.2.2.2.2.2.2.2.2.2.2.2.2.2.2.2.2.1,.int .i64 y1.2.2.2.2.2.2.2.2.2.2.2.2.2.2.2.2.2.2.2.2.2.2.2.2.2.2.2.2.2.2.2.2.2.2.2.2.2.2.2.2.2.2.2.2.2.2.2.2.2.2.2.2.2.2.2.2.2.2.2.2.2.2.2.2.2.2.2.2.2.2.2.2.2.2.1,.int .i64 y1.2.2.2.2.2.2.2.2.2.2.2.2.2.2.2.2.2.2.2.2.2.2.2.2.2.2.2.2.2.2.2.2.2.2.2.2.2.2.2.2.2.2.2.2.2.2.2.2.2.2.2.2.2.2.2.2.2.2.2.2.2.2.2.2.2.2.2.2.2.2.2.2.2.2.2.1,.string y1.2.2.2.2.2.2.2.2.2.2.2.2.2.2.2.2.2.2.2.2.2.2.2.2.2.2.2.2.2.2.2.2.2.2.2.2.2.2.2.2.2.2.2.2.2.2.2.2.2.2.2.2.2.2.2.2.2.2.2.2.2.2.2.2.2.2.2.2.2.2.2.2.2.2.2.2.1,.string y1.2.2.2.2.2.2.2.2.2.2.2.2.2.2.2.2.2.2.2.2.2.2.2.2.2.2.2.2.2.2.2.2.2.2.2.2.2.2.2.2.2.2.2.2.2.2.2.2.2.2.2.2.2.2.2.2.2.2.2.2.2.2.2.2.2.2.2.2.2.2.2.2.2.2.2.2.2.1,.int .i64 y1.2.2.2.2.2.2.2.2.2.2.2.2.2.2.2.2.2.2.2.2.2.2.2.2.2.2.2.2.2.2.2.2.2.2.2.2.2.2.2.2.2.2.2.2.2.2.2.2.2.2.2.2.2.2.2.2.2.2.2.2.2.2.2.2.2.2.2.2.2.2.2.2.2.2.2.2.2.2.1,.int .i64 y1.2.2.2.2.2.2.2.2.2.2.2.2.2.2.2.2.2.2.2.2.2.2.2.2.2.2.2.2.2.2.2.2.2.2.2.2.2.2.2.2.2.2.2.2.2.2.2.2.2.2.2.2.2.2.2.2.2.2.2.2.2.2.2.2.2.2.2.2.2.2.2.2.2.2.2.2.2.2.2.1] (Int.toNat y2.1*(4:Nat)) (.g [.s,.s,.i .i64,.i .i64]) fun y3 =>
  .br (ByteArray.toList y3.1 == x0.toList) (
   .ret [qv5 y3,.bool (true)]) <|
 .nx 0 [.v (.int .i64 (IntKind.i64.wrap (y2.1+(1:Int)))),.v (.string y2.2.1),.v (.string y2.2.2.1),.v (.int .i64 y2.2.2.2.1),.v (.int .i64 y2.2.2.2.2.1)]) <|
 .ret [qv5 (({ data:={ toList:=[]:Array UInt8 }:ByteArray }),({ data:={ toList:=[]:Array UInt8 }:ByteArray }),(((0:Int)):Int),(((0:Int)):Int),()),.bool (false)]
theorem fI_currencyOf x0:qft aI_currencyOf 184 [.string x0] (tI_currencyOf x0) :=fitK (by kernel_rfl)
def aS_l03Div:An:=⟨[(7,[.s 8,.s 9,.s 10],[.a 3,.o (.o (.l)),.o (.o (.i .i64))])],[],[]⟩
def tS_l03Div (x0:SlV) (x1:SlV):T :=
 .br ((↑x1.n:Int) == (1:Int)) (
  .el x1.1 (x1.n) ((0:Int)) fun y1 =>
  .ql13 (y1.add (Int.toNat (0:Int)*(1:Nat))) fun y2 =>
  .qc39 206 [Sc.val .l x0,.int .i64 y2] fun y3 =>
  .qc3 123 [.int .i64 y3.2.1] fun y4 =>
  .ret [Sc.val .l y3.1,Sc.val .l y4]) <|
 .rq ((0:Int)≤(↑x0.n:Int)∧(↑x0.n:Int)≤(↑x0.n:Int)∧(↑(8:Nat):Int)*(↑x0.n:Int)≤(281474976710656:Int)∧(↑x0.n:Int)≤(9223372036854775807:Int)) <|
 .fz ((0:Nat)) [] 3 fun b1 c1 =>
 .lp [.a 3,.o (.o (.l)),.o (.o (.i .i64))] [.a 3 ((↑x0.n:Int).toNat) ((madeCells { toList:=[Value.int IntKind.i64 (0:Int)]:Array Value } ((↑x0.n:Int).toNat*(1:Nat))).toList),.v (.slice (some { block:=b1,off:=(0:Nat):Addr }) ((0:Nat)) (c1)),.v (.int .i64 (IntKind.i64.wrap ((↑x0.n:Int)-(1:Int))))] fun y2 =>
 .br (decide (y2.2.2.1≥(0:Int))) (
  .el x0.1 (x0.n) y2.2.2.1 fun y3 =>
  .ql13 (y3.add (Int.toNat y2.2.2.1*(1:Nat))) fun y4 =>
  .rd ({ a:=y2.2.1.1,n:=y2.2.1.n,c:=y2.2.1.c:SlV }) ((1:Nat)) fun y5 =>
  .rq (one y5=true∧((1:Nat)+y2.2.1.n)*(8:Nat)≤(140737488355328:Nat)∧(1:Nat)+y2.2.1.n≤(9223372036854775807:Nat)) <|
 .fz ((1:Nat)+y2.2.1.n) ([Value.int IntKind.i64 y4]++y5) 3 fun b6 c6 =>
  .qc3 115 [.slice (some { block:=b6,off:=(0:Nat):Addr }) ((1:Nat)+y2.2.1.n) (c6)] fun y7 =>
  .qc2 150 [Sc.val .l y7,Sc.val .l x1] fun y8 =>
  .br (decide (y8<(0:Int))) (
   .nx 0 [.a 3 y2.1.1 y2.1.2,.v (Sc.val .l y7),.v (.int .i64 (IntKind.i64.wrap (y2.2.2.1-(1:Int))))]) <|
 .qc2 207 [Sc.val .l y7,Sc.val .l x1] fun y9 =>
  .rq ((0:Int)≤y2.2.2.1∧y2.2.2.1<(↑y2.1.1:Int)) <|
 .rq (Int.toNat y2.2.2.1*(1:Nat)+[Value.int IntKind.i64 y9].length≤y2.1.2.length) <|
 .qc3 123 [.int .i64 y9] fun y10 =>
  .qc3 151 [Sc.val .l x1,Sc.val .l y10] fun y11 =>
  .qc3 208 [Sc.val .l y7,Sc.val .l y11] fun y12 =>
  .nx 0 [.a 3 y2.1.1 (setl y2.1.2 (Int.toNat y2.2.2.1*(1:Nat)) [Value.int IntKind.i64 y9]),.v (Sc.val .l y12),.v (.int .i64 (IntKind.i64.wrap (y2.2.2.1-(1:Int))))]) <|
 .fz y2.1.1 y2.1.2 3 fun b3 c3 =>
 .qc3 115 [.slice (some { block:=b3,off:=(0:Nat):Addr }) y2.1.1 (c3)] fun y4 =>
 .ret [Sc.val .l y4,Sc.val .l y2.2.1]
theorem fS_l03Div x0 x1:qft aS_l03Div 185 [Sc.val .l x0,Sc.val .l x1] (tS_l03Div x0 x1) :=fitK (by kernel_rfl)
def aI_IsDigits:An:=⟨[(2,[.s 3],[.o (.o (.i .i64))])],[],[]⟩
def tI_IsDigits (x0:ByteArray):T :=
 .lp [.o (.o (.i .i64))] [.v (.int .i64 0)] fun y1 =>
 .br (decide (y1.1<(↑x0.size:Int))) (
  .rq ((0:Int)≤y1.1∧y1.1<(↑x0.size:Int)) <|
 .qc1 138 [.int .u8 (at0 x0 (Int.toNat y1.1))] fun y2 =>
  .bF y2 <|
 .nx 0 [.v (.int .i64 (IntKind.i64.wrap (y1.1+(1:Int))))]) <|
 .ret [.bool (!x0.toList == { data:={ toList:=[]:Array UInt8 }:ByteArray }.toList)]
theorem fI_IsDigits x0:qft aI_IsDigits 186 [.string x0] (tI_IsDigits x0) :=fitK (by kernel_rfl)
def aI_trim:An:=⟨[(1,[.s 0],[.o (.o (.l))])],[],[]⟩
def tI_trim (x0:SlV):T :=
 .lp [.o (.o (.l))] [.v (Sc.val .l x0)] fun y1 =>
 .br (decide ((↑y1.1.n:Int) > (0:Int))) (
  .el y1.1.1 (y1.1.n) (IntKind.i64.wrap ((↑y1.1.n:Int)-(1:Int))) fun y2 =>
  .ql13 (y2.add ((IntKind.i64.wrap ((↑y1.1.n:Int)-(1:Int))).toNat*(1:Nat))) fun y3 =>
  .br (y3 == (0:Int)) (
   .rq ((0:Int)≤(0:Int)∧(0:Int)≤IntKind.i64.wrap ((↑y1.1.n:Int)-(1:Int))∧IntKind.i64.wrap ((↑y1.1.n:Int)-(1:Int))≤(↑y1.1.c:Int)∧(↑y1.1.c:Int)≤(↑y1.1.c:Int)) <|
 .nx 0 [.v (.slice (if (↑y1.1.c:Int).toNat=Int.toNat (0:Int) then y1.1.1 else Option.map (fun x=>x.add (Int.toNat (0:Int)*Go.Proofs.Tryz.prog.types[(3:Nat)].size)) y1.1.1) ((IntKind.i64.wrap ((↑y1.1.n:Int)-(1:Int))).toNat-Int.toNat (0:Int)) ((↑y1.1.c:Int).toNat-Int.toNat (0:Int)))]) <|
 .ret [Sc.val .l y1.1]) <|
 .ret [Sc.val .l y1.1]
theorem fI_trim x0:qft aI_trim 187 [Sc.val .l x0] (tI_trim x0) :=fitK (by kernel_rfl)
def tI_Pad (x0:ByteArray) (x1:Int):T :=
 .br (decide ((↑x0.size:Int)≥x1)) (
  .ret [.string x0]) <|
 .br (decide (x1 > (2000:Int))) (
  .ret [.string x0]) <|
 .qc6 209 [.string ({ data:={ toList:=[(48:UInt8)]:Array UInt8 }:ByteArray }),.int .i64 (IntKind.i64.wrap (x1-(↑x0.size:Int)))] fun y1 =>
 .rq (y1.size+x0.size≤(9223372036854775807:Nat)) <|
 .ret [.string (y1++x0)]
theorem fI_Pad x0 x1:qft qa0 188 [.string x0,.int .i64 x1] (tI_Pad x0 x1) :=fitK (by kernel_rfl)
def aI_natText:An:=⟨[(5,[.s 3,.s 4],[.o (.o (.s)),.o (.o (.i .i64))])],[],[]⟩
def tI_natText (x0:SlV):T :=
 .br ((↑x0.n:Int) == (0:Int)) (
  .ret [.string ({ data:={ toList:=[(48:UInt8)]:Array UInt8 }:ByteArray })]) <|
 .el x0.1 (x0.n) (IntKind.i64.wrap ((↑x0.n:Int)-(1:Int))) fun y1 =>
 .ql13 (y1.add ((IntKind.i64.wrap ((↑x0.n:Int)-(1:Int))).toNat*(1:Nat))) fun y2 =>
 .qc6 210 [.int .i64 y2] fun y3 =>
 .lp [.o (.o (.s)),.o (.o (.i .i64))] [.v (.string y3),.v (.int .i64 (IntKind.i64.wrap ((↑x0.n:Int)-(2:Int))))] fun y4 =>
 .br (decide (y4.2.1≥(0:Int))) (
  .el x0.1 (x0.n) y4.2.1 fun y5 =>
  .ql13 (y5.add (Int.toNat y4.2.1*(1:Nat))) fun y6 =>
  .qc6 210 [.int .i64 y6] fun y7 =>
  .qc6 188 [.string y7,.int .i64 9] fun y8 =>
  .rq (ByteArray.size y4.1+y8.size≤(9223372036854775807:Nat)) <|
 .nx 0 [.v (.string (y4.1++y8)),.v (.int .i64 (IntKind.i64.wrap (y4.2.1-(1:Int))))]) <|
 .ret [.string y4.1]
theorem fI_natText x0:qft aI_natText 189 [Sc.val .l x0] (tI_natText x0) :=fitK (by kernel_rfl)
def tI_intMul (x0:qy1) (x1:qy1):T :=
 .rg <|
 .qc38 199 [Sc.val .l x0.2.1,Sc.val .l x1.2.1] fun y1 =>
 .qc24 157 [.bool (!x0.1 == x1.1),Sc.val .l y1] fun y2 =>
 .ret [qv1 y2]
theorem fI_intMul x0 x1:qft qa0 190 [qv1 x0,qv1 x1] (tI_intMul x0 x1) :=fitK (by kernel_rfl)
def aI_NatOk:An:=⟨[(4,[.s 24],[.o (.o (.i .i64))])],[],[]⟩
def tI_NatOk (x0:SlV):T :=
 .br (decide ((↑x0.n:Int) > (50:Int))) (
  .rF) <|
 .br (decide ((↑x0.n:Int) > (0:Int))) (
  .el x0.1 (x0.n) (IntKind.i64.wrap ((↑x0.n:Int)-(1:Int))) fun y1 =>
  .ql13 (y1.add ((IntKind.i64.wrap ((↑x0.n:Int)-(1:Int))).toNat*(1:Nat))) fun y2 =>
  .br (y2 == (0:Int)) (
   .rF) <|
 .lp [.o (.o (.i .i64))] [.v (.int .i64 0)] fun y3 =>
  .br (decide (y3.1<(↑x0.n:Int))) (
   .el x0.1 (x0.n) y3.1 fun y4 =>
   .ql13 (y4.add (Int.toNat y3.1*(1:Nat))) fun y5 =>
   .br (decide (y5<(0:Int))) (
    .rF) <|
 .br (decide (y5≥(1000000000:Int))) (
    .rF) <|
 .nx 0 [.v (.int .i64 (IntKind.i64.wrap (y3.1+(1:Int))))]) <|
 .rT) <|
 .lp [.o (.o (.i .i64))] [.v (.int .i64 0)] fun y1 =>
 .br (decide (y1.1<(↑x0.n:Int))) (
  .el x0.1 (x0.n) y1.1 fun y2 =>
  .ql13 (y2.add (Int.toNat y1.1*(1:Nat))) fun y3 =>
  .br (decide (y3<(0:Int))) (
   .rF) <|
 .br (decide (y3≥(1000000000:Int))) (
   .rF) <|
 .nx 0 [.v (.int .i64 (IntKind.i64.wrap (y1.1+(1:Int))))]) <|
 .rT
theorem fI_NatOk x0:qft aI_NatOk 197 [Sc.val .l x0] (tI_NatOk x0) :=fitK (by kernel_rfl)
def tI_scaled_1 (x0:qy0) (x1:Addr):T :=
 .rf <|
 .ld true x1 (.o (.i .i64)) fun y1 =>
 .qc38 183 [.int .i64 (IntKind.i64.wrap (y1-x0.2.2.1))] fun y2 =>
 .qc38 199 [Sc.val .l x0.2.1,Sc.val .l y2] fun y3 =>
 .qc24 157 [.bool x0.1,Sc.val .l y3] fun y4 =>
 .ret [qv1 y4]
theorem fI_scaled_1 x0 x1:qft qa0 198 [qv0 x0,.pointer (some x1)] (tI_scaled_1 x0 x1) :=fitK (by kernel_rfl)
def aI_natMul:An:=⟨[(3,[.s 5,.s 21],[.a 3,.o (.o (.i .i64))]),(7,[.s 5,.s 8,.s 28],[.a 3,.o (.o (.i .i64)),.o (.o (.i .i64))]),(14,[.s 5,.s 8,.s 11],[.a 3,.o (.o (.i .i64)),.o (.o (.i .i64))])],[],[]⟩
def tI_natMul (x0:SlV) (x1:SlV):T :=
 .rq ((0:Int)≤IntKind.i64.wrap (IntKind.i64.wrap ((↑x0.n:Int)+(↑x1.n:Int))+(1:Int))∧IntKind.i64.wrap (IntKind.i64.wrap ((↑x0.n:Int)+(↑x1.n:Int))+(1:Int))≤IntKind.i64.wrap (IntKind.i64.wrap ((↑x0.n:Int)+(↑x1.n:Int))+(1:Int))∧(↑(8:Nat):Int)*IntKind.i64.wrap (IntKind.i64.wrap ((↑x0.n:Int)+(↑x1.n:Int))+(1:Int))≤(281474976710656:Int)∧IntKind.i64.wrap (IntKind.i64.wrap ((↑x0.n:Int)+(↑x1.n:Int))+(1:Int))≤(9223372036854775807:Int)) <|
 .lp [.a 3,.o (.o (.i .i64))] [.a 3 ((IntKind.i64.wrap (IntKind.i64.wrap ((↑x0.n:Int)+(↑x1.n:Int))+(1:Int))).toNat) ((madeCells { toList:=[Value.int IntKind.i64 (0:Int)]:Array Value } ((IntKind.i64.wrap (IntKind.i64.wrap ((↑x0.n:Int)+(↑x1.n:Int))+(1:Int))).toNat*(1:Nat))).toList),.v (.int .i64 0)] fun y1 =>
 .br (decide (y1.2.1<(↑x0.n:Int))) (
  .el x0.1 (x0.n) y1.2.1 fun y2 =>
  .ql13 (y2.add (Int.toNat y1.2.1*(1:Nat))) fun y3 =>
  .lp [.a 3,.o (.o (.i .i64)),.o (.o (.i .i64))] [.a 3 y1.1.1 y1.1.2,.v (.int .i64 0),.v (.int .i64 0)] fun y4 =>
  .br (decide (y4.2.2.1<(↑x1.n:Int))) (
   .el x1.1 (x1.n) y4.2.2.1 fun y5 =>
   .ql13 (y5.add (Int.toNat y4.2.2.1*(1:Nat))) fun y6 =>
   .rq ((0:Int)≤IntKind.i64.wrap (y1.2.1+y4.2.2.1)∧IntKind.i64.wrap (y1.2.1+y4.2.2.1)<(↑y4.1.1:Int)) <|
 .xs y4.1.2 ((IntKind.i64.wrap (y1.2.1+y4.2.2.1)).toNat*(1:Nat)) (.o (.i .i64)) fun y7 =>
   .rq ((1000000000:Int)≠(0:Int)) <|
 .rq ((0:Int)≤IntKind.i64.wrap (y1.2.1+y4.2.2.1)∧IntKind.i64.wrap (y1.2.1+y4.2.2.1)<(↑y4.1.1:Int)) <|
 .rq ((IntKind.i64.wrap (y1.2.1+y4.2.2.1)).toNat*(1:Nat)+[Value.int IntKind.i64 ((IntKind.i64.wrap (y4.2.1+IntKind.i64.wrap (y7+IntKind.i64.wrap (y3*y6)))).tmod (1000000000:Int))].length≤y4.1.2.length) <|
 .rq ((1000000000:Int)≠(0:Int)) <|
 .nx 1 [.a 3 y4.1.1 (setl y4.1.2 ((IntKind.i64.wrap (y1.2.1+y4.2.2.1)).toNat*(1:Nat)) [Value.int IntKind.i64 ((IntKind.i64.wrap (y4.2.1+IntKind.i64.wrap (y7+IntKind.i64.wrap (y3*y6)))).tmod (1000000000:Int))]),.v (.int .i64 (IntKind.i64.wrap ((IntKind.i64.wrap (y4.2.1+IntKind.i64.wrap (y7+IntKind.i64.wrap (y3*y6)))).tdiv (1000000000:Int)))),.v (.int .i64 (IntKind.i64.wrap (y4.2.2.1+(1:Int))))]) <|
 .lp [.a 3,.o (.o (.i .i64)),.o (.o (.i .i64))] [.a 3 y4.1.1 y4.1.2,.v (.int .i64 y4.2.1),.v (.int .i64 (IntKind.i64.wrap (y1.2.1+(↑x1.n:Int))))] fun y5 =>
  .br (decide (y5.2.1 > (0:Int))) (
   .rq ((0:Int)≤y5.2.2.1∧y5.2.2.1<(↑y5.1.1:Int)) <|
 .xs y5.1.2 (Int.toNat y5.2.2.1*(1:Nat)) (.o (.i .i64)) fun y6 =>
   .rq ((1000000000:Int)≠(0:Int)) <|
 .rq ((0:Int)≤y5.2.2.1∧y5.2.2.1<(↑y5.1.1:Int)) <|
 .rq (Int.toNat y5.2.2.1*(1:Nat)+[Value.int IntKind.i64 ((IntKind.i64.wrap (y5.2.1+y6)).tmod (1000000000:Int))].length≤y5.1.2.length) <|
 .rq ((1000000000:Int)≠(0:Int)) <|
 .nx 2 [.a 3 y5.1.1 (setl y5.1.2 (Int.toNat y5.2.2.1*(1:Nat)) [Value.int IntKind.i64 ((IntKind.i64.wrap (y5.2.1+y6)).tmod (1000000000:Int))]),.v (.int .i64 (IntKind.i64.wrap ((IntKind.i64.wrap (y5.2.1+y6)).tdiv (1000000000:Int)))),.v (.int .i64 (IntKind.i64.wrap (y5.2.2.1+(1:Int))))]) <|
 .nx 0 [.a 3 y5.1.1 y5.1.2,.v (.int .i64 (IntKind.i64.wrap (y1.2.1+(1:Int))))]) <|
 .fz y1.1.1 y1.1.2 3 fun b2 c2 =>
 .qc3 187 [.slice (some { block:=b2,off:=(0:Nat):Addr }) y1.1.1 (c2)] fun y3 =>
 .ret [Sc.val .l y3]
theorem fI_natMul x0 x1:qft aI_natMul 199 [Sc.val .l x0,Sc.val .l x1] (tI_natMul x0 x1) :=fitK (by kernel_rfl)
def tI_intAdd (x0:qy1) (x1:qy1):T :=
 .br (x0.1 == x1.1) (
  .rg <|
 .qc38 218 [Sc.val .l x0.2.1,Sc.val .l x1.2.1] fun y1 =>
  .qc24 157 [.bool x0.1,Sc.val .l y1] fun y2 =>
  .ret [qv1 y2]) <|
 .qc2 202 [Sc.val .l x0.2.1,Sc.val .l x1.2.1] fun y1 =>
 .br (decide (y1<(0:Int))) (
  .rg <|
 .qc38 219 [Sc.val .l x1.2.1,Sc.val .l x0.2.1] fun y2 =>
  .qc24 157 [.bool x1.1,Sc.val .l y2] fun y3 =>
  .ret [qv1 y3]) <|
 .rg <|
 .qc38 219 [Sc.val .l x0.2.1,Sc.val .l x1.2.1] fun y2 =>
 .qc24 157 [.bool x0.1,Sc.val .l y2] fun y3 =>
 .ret [qv1 y3]
theorem fI_intAdd x0 x1:qft qa0 200 [qv1 x0,qv1 x1] (tI_intAdd x0 x1) :=fitK (by kernel_rfl)
def tI_intNeg (x0:qy1):T :=
 .rg <|
 .qc38 203 [Sc.val .l x0.2.1] fun y1 =>
 .qc24 157 [.bool (!x0.1),Sc.val .l y1] fun y2 =>
 .ret [qv1 y2]
theorem fI_intNeg x0:qft qa0 201 [qv1 x0] (tI_intNeg x0) :=fitK (by kernel_rfl)
def aI_natCmp:An:=⟨[(6,[.s 5],[.o (.o (.i .i64))])],[],[]⟩
def tI_natCmp (x0:SlV) (x1:SlV):T :=
 .br ((↑x0.n:Int) != (↑x1.n:Int)) (
  .br (decide ((↑x0.n:Int)<(↑x1.n:Int))) (
   .rM) <|
 .ret [.int .i64 1]) <|
 .lp [.o (.o (.i .i64))] [.v (.int .i64 (IntKind.i64.wrap ((↑x0.n:Int)-(1:Int))))] fun y1 =>
 .br (decide (y1.1≥(0:Int))) (
  .rg <|
 .el x0.1 (x0.n) y1.1 fun y2 =>
  .ql21 (y2.add (Int.toNat y1.1*(1:Nat))) fun y3 =>
  .el x1.1 (x1.n) y1.1 fun y4 =>
  .ql21 (y4.add (Int.toNat y1.1*(1:Nat))) fun y5 =>
  .br (y3 != y5) (
   .rg <|
 .el x0.1 (x0.n) y1.1 fun y6 =>
   .ql21 (y6.add (Int.toNat y1.1*(1:Nat))) fun y7 =>
   .el x1.1 (x1.n) y1.1 fun y8 =>
   .ql21 (y8.add (Int.toNat y1.1*(1:Nat))) fun y9 =>
   .br (decide (y7<y9)) (
    .rM) <|
 .ret [.int .i64 1]) <|
 .nx 0 [.v (.int .i64 (IntKind.i64.wrap (y1.1-(1:Int))))]) <|
 .ret [.int .i64 0]
theorem fI_natCmp x0 x1:qft aI_natCmp 202 [Sc.val .l x0,Sc.val .l x1] (tI_natCmp x0 x1) :=fitK (by kernel_rfl)
def tI_natCopy (x0:SlV):T :=
 .rd ({ a:=x0.1,n:=x0.n,c:=x0.c:SlV }) ((1:Nat)) fun y1 =>
 .rq (one y1=true∧((0:Nat)+x0.n)*(8:Nat)≤(140737488355328:Nat)∧(0:Nat)+x0.n≤(9223372036854775807:Nat)) <|
 .fz ((0:Nat)+x0.n) ([]++y1) 3 fun b2 c2 =>
 .ret [.slice (some { block:=b2,off:=(0:Nat):Addr }) ((0:Nat)+x0.n) (c2)]
theorem fI_natCopy x0:qft qa0 203 [Sc.val .l x0] (tI_natCopy x0) :=fitK (by kernel_rfl)
def tI_NatOf (x0:Int):T :=
 .br (decide (x0<(0:Int))) (
  .ret [.slice none 0 0]) <|
 .qc3 180 [.int .u64 (IntKind.u64.wrap x0)] fun y1 =>
 .ret [Sc.val .l y1]
theorem fI_NatOf x0:qft qa0 204 [.int .i64 x0] (tI_NatOf x0) :=fitK (by kernel_rfl)
def aI_divStep:An:=⟨[(4,[.s 7],[.o (.o (.i .i64))])],[],[]⟩
def tI_divStep (x0:SlV) (x1:SlV):T :=
 .rg <|
 .el x0.1 (x0.n) ((↑x1.n:Int)) fun y1 =>
 .ql21 (y1.add ((↑x1.n:Int).toNat*(1:Nat))) fun y2 =>
 .el x0.1 (x0.n) (IntKind.i64.wrap ((↑x1.n:Int)-(1:Int))) fun y3 =>
 .ql21 (y3.add ((IntKind.i64.wrap ((↑x1.n:Int)-(1:Int))).toNat*(1:Nat))) fun y4 =>
 .el x1.1 (x1.n) (IntKind.i64.wrap ((↑x1.n:Int)-(1:Int))) fun y5 =>
 .ql13 (y5.add ((IntKind.i64.wrap ((↑x1.n:Int)-(1:Int))).toNat*(1:Nat))) fun y6 =>
 .rq (y6≠(0:Int)) <|
 .lp [.o (.o (.i .i64))] [.v (.int .i64 (if (999999999:Int)<IntKind.i64.wrap ((IntKind.i64.wrap (IntKind.i64.wrap (y2*(1000000000:Int))+y4)).tdiv y6) then (999999999:Int) else IntKind.i64.wrap ((IntKind.i64.wrap (IntKind.i64.wrap (y2*(1000000000:Int))+y4)).tdiv y6)))] fun y7 =>
 .rg <|
 .br (decide (y7.1 > (0:Int))) (
  .el x1.1 (x1.n) (IntKind.i64.wrap ((↑x1.n:Int)-(1:Int))) fun y8 =>
  .ql21 (y8.add ((IntKind.i64.wrap ((↑x1.n:Int)-(1:Int))).toNat*(1:Nat))) fun y9 =>
  .br (decide (IntKind.i64.wrap (IntKind.i64.wrap (IntKind.i64.wrap (y2*(1000000000:Int))+y4)-IntKind.i64.wrap (y7.1*y9))<(1000000000:Int))) (
   .el x1.1 (x1.n) (IntKind.i64.wrap ((↑x1.n:Int)-(2:Int))) fun y10 =>
   .ql21 (y10.add ((IntKind.i64.wrap ((↑x1.n:Int)-(2:Int))).toNat*(1:Nat))) fun y11 =>
   .el x1.1 (x1.n) (IntKind.i64.wrap ((↑x1.n:Int)-(1:Int))) fun y12 =>
   .ql21 (y12.add ((IntKind.i64.wrap ((↑x1.n:Int)-(1:Int))).toNat*(1:Nat))) fun y13 =>
   .el x0.1 (x0.n) (IntKind.i64.wrap ((↑x1.n:Int)-(2:Int))) fun y14 =>
   .ql21 (y14.add ((IntKind.i64.wrap ((↑x1.n:Int)-(2:Int))).toNat*(1:Nat))) fun y15 =>
   .br (decide (IntKind.i64.wrap (y7.1*y11) > IntKind.i64.wrap (IntKind.i64.wrap (IntKind.i64.wrap (IntKind.i64.wrap (IntKind.i64.wrap (y2*(1000000000:Int))+y4)-IntKind.i64.wrap (y7.1*y13))*(1000000000:Int))+y15))) (
    .nx 0 [.v (.int .i64 (IntKind.i64.wrap (y7.1-(1:Int))))]) <|
 .qc1 220 [Sc.val .l x0,Sc.val .l x1,.int .i64 y7.1] fun y16 =>
   .br y16 (
    .qc45 221 [Sc.val .l x0,Sc.val .l x1] fun _ =>
    .ret [.int .i64 (IntKind.i64.wrap (y7.1-(1:Int)))]) <|
 .ret [.int .i64 y7.1]) <|
 .qc1 220 [Sc.val .l x0,Sc.val .l x1,.int .i64 y7.1] fun y10 =>
  .br y10 (
   .qc45 221 [Sc.val .l x0,Sc.val .l x1] fun _ =>
   .ret [.int .i64 (IntKind.i64.wrap (y7.1-(1:Int)))]) <|
 .ret [.int .i64 y7.1]) <|
 .qc1 220 [Sc.val .l x0,Sc.val .l x1,.int .i64 y7.1] fun y8 =>
 .br y8 (
  .qc45 221 [Sc.val .l x0,Sc.val .l x1] fun _ =>
  .ret [.int .i64 (IntKind.i64.wrap (y7.1-(1:Int)))]) <|
 .ret [.int .i64 y7.1]
theorem fI_divStep x0 x1:qft aI_divStep 205 [Sc.val .l x0,Sc.val .l x1] (tI_divStep x0 x1) :=fitK (by kernel_rfl)
def aS_l03Small:An:=⟨[(4,[.s 6,.s 7,.s 8],[.a 3,.o (.o (.i .i64)),.o (.o (.i .i64))])],[],[]⟩
def tS_l03Small (x0:SlV) (x1:Int):T :=
 .rq ((0:Int)≤(↑x0.n:Int)∧(↑x0.n:Int)≤(↑x0.n:Int)∧(↑(8:Nat):Int)*(↑x0.n:Int)≤(281474976710656:Int)∧(↑x0.n:Int)≤(9223372036854775807:Int)) <|
 .lp [.a 3,.o (.o (.i .i64)),.o (.o (.i .i64))] [.a 3 ((↑x0.n:Int).toNat) ((madeCells { toList:=[Value.int IntKind.i64 (0:Int)]:Array Value } ((↑x0.n:Int).toNat*(1:Nat))).toList),.v (.int .i64 0),.v (.int .i64 (IntKind.i64.wrap ((↑x0.n:Int)-(1:Int))))] fun y1 =>
 .br (decide (y1.2.2.1≥(0:Int))) (
  .el x0.1 (x0.n) y1.2.2.1 fun y2 =>
  .ql13 (y2.add (Int.toNat y1.2.2.1*(1:Nat))) fun y3 =>
  .rq (x1≠(0:Int)) <|
 .rq ((0:Int)≤y1.2.2.1∧y1.2.2.1<(↑y1.1.1:Int)) <|
 .rq (Int.toNat y1.2.2.1*(1:Nat)+[Value.int IntKind.i64 (IntKind.i64.wrap ((IntKind.i64.wrap (IntKind.i64.wrap (y1.2.1*(1000000000:Int))+y3)).tdiv x1))].length≤y1.1.2.length) <|
 .rq (x1≠(0:Int)) <|
 .nx 0 [.a 3 y1.1.1 (setl y1.1.2 (Int.toNat y1.2.2.1*(1:Nat)) [Value.int IntKind.i64 (IntKind.i64.wrap ((IntKind.i64.wrap (IntKind.i64.wrap (y1.2.1*(1000000000:Int))+y3)).tdiv x1))]),.v (.int .i64 ((IntKind.i64.wrap (IntKind.i64.wrap (y1.2.1*(1000000000:Int))+y3)).tmod x1)),.v (.int .i64 (IntKind.i64.wrap (y1.2.2.1-(1:Int))))]) <|
 .fz y1.1.1 y1.1.2 3 fun b2 c2 =>
 .qc3 115 [.slice (some { block:=b2,off:=(0:Nat):Addr }) y1.1.1 (c2)] fun y3 =>
 .ret [Sc.val .l y3,.int .i64 y1.2.1]
theorem fS_l03Small x0 x1:qft aS_l03Small 206 [Sc.val .l x0,.int .i64 x1] (tS_l03Small x0 x1) :=fitK (by kernel_rfl)
def aS_l03Digit:An:=⟨[(3,[.s 5,.s 6],[.o (.o (.i .i64)),.o (.o (.i .i64))])],[],[]⟩
def tS_l03Digit (x0:SlV) (x1:SlV):T :=
 .lp [.o (.o (.i .i64)),.o (.o (.i .i64))] [.v (.int .i64 0),.v (.int .i64 999999999)] fun y1 =>
 .br (decide (y1.1<y1.2.1)) (
  .rq ((2:Int)≠(0:Int)) <|
 .qc3 123 [.int .i64 (IntKind.i64.wrap ((IntKind.i64.wrap (IntKind.i64.wrap (y1.1+y1.2.1)+(1:Int))).tdiv (2:Int)))] fun y2 =>
  .qc3 151 [Sc.val .l x1,Sc.val .l y2] fun y3 =>
  .qc2 150 [Sc.val .l y3,Sc.val .l x0] fun y4 =>
  .br (decide (y4≤(0:Int))) (
   .nx 0 [.v (.int .i64 (IntKind.i64.wrap ((IntKind.i64.wrap (IntKind.i64.wrap (y1.1+y1.2.1)+(1:Int))).tdiv (2:Int)))),.v (.int .i64 y1.2.1)]) <|
 .nx 0 [.v (.int .i64 y1.1),.v (.int .i64 (IntKind.i64.wrap (IntKind.i64.wrap ((IntKind.i64.wrap (IntKind.i64.wrap (y1.1+y1.2.1)+(1:Int))).tdiv (2:Int))-(1:Int))))]) <|
 .ret [.int .i64 y1.1]
theorem fS_l03Digit x0 x1:qft aS_l03Digit 207 [Sc.val .l x0,Sc.val .l x1] (tS_l03Digit x0 x1) :=fitK (by kernel_rfl)
def aS_l02Sub:An:=⟨[(4,[.s 5,.s 6,.s 12],[.a 3,.o (.o (.i .i64)),.o (.o (.i .i64))])],[],[]⟩
def tS_l02Sub (x0:SlV) (x1:SlV):T :=
 .lp [.a 3,.o (.o (.i .i64)),.o (.o (.i .i64))] [.a 3 ((0:Nat)) [],.v (.int .i64 0),.v (.int .i64 0)] fun y1 =>
 .br (decide (y1.2.2.1<(↑x0.n:Int))) (
  .el x0.1 (x0.n) y1.2.2.1 fun y2 =>
  .ql13 (y2.add (Int.toNat y1.2.2.1*(1:Nat))) fun y3 =>
  .br (decide (y1.2.2.1<(↑x1.n:Int))) (
   .el x1.1 (x1.n) y1.2.2.1 fun y4 =>
   .ql13 (y4.add (Int.toNat y1.2.2.1*(1:Nat))) fun y5 =>
   .br (decide (IntKind.i64.wrap (IntKind.i64.wrap (y3-y1.2.1)-y5)<(0:Int))) (
    .rq ([Value.int IntKind.i64 (IntKind.i64.wrap (IntKind.i64.wrap (IntKind.i64.wrap (y3-y1.2.1)-y5)+(1000000000:Int)))].length=(1:Nat)*(1:Nat)) <|
 .rq (one [Value.int IntKind.i64 (IntKind.i64.wrap (IntKind.i64.wrap (IntKind.i64.wrap (y3-y1.2.1)-y5)+(1000000000:Int)))]=true∧(y1.1.1+(1:Nat))*(8:Nat)≤(140737488355328:Nat)∧y1.1.1+(1:Nat)≤(9223372036854775807:Nat)) <|
 .nx 0 [.a 3 (y1.1.1+(1:Nat)) (y1.1.2++[Value.int IntKind.i64 (IntKind.i64.wrap (IntKind.i64.wrap (IntKind.i64.wrap (y3-y1.2.1)-y5)+(1000000000:Int)))]),.v (.int .i64 1),.v (.int .i64 (IntKind.i64.wrap (y1.2.2.1+(1:Int))))]) <|
 .rq ([Value.int IntKind.i64 (IntKind.i64.wrap (IntKind.i64.wrap (y3-y1.2.1)-y5))].length=(1:Nat)*(1:Nat)) <|
 .rq (one [Value.int IntKind.i64 (IntKind.i64.wrap (IntKind.i64.wrap (y3-y1.2.1)-y5))]=true∧(y1.1.1+(1:Nat))*(8:Nat)≤(140737488355328:Nat)∧y1.1.1+(1:Nat)≤(9223372036854775807:Nat)) <|
 .nx 0 [.a 3 (y1.1.1+(1:Nat)) (y1.1.2++[Value.int IntKind.i64 (IntKind.i64.wrap (IntKind.i64.wrap (y3-y1.2.1)-y5))]),.v (.int .i64 0),.v (.int .i64 (IntKind.i64.wrap (y1.2.2.1+(1:Int))))]) <|
 .br (decide (IntKind.i64.wrap (y3-y1.2.1)<(0:Int))) (
   .rq ([Value.int IntKind.i64 (IntKind.i64.wrap (IntKind.i64.wrap (y3-y1.2.1)+(1000000000:Int)))].length=(1:Nat)*(1:Nat)) <|
 .rq (one [Value.int IntKind.i64 (IntKind.i64.wrap (IntKind.i64.wrap (y3-y1.2.1)+(1000000000:Int)))]=true∧(y1.1.1+(1:Nat))*(8:Nat)≤(140737488355328:Nat)∧y1.1.1+(1:Nat)≤(9223372036854775807:Nat)) <|
 .nx 0 [.a 3 (y1.1.1+(1:Nat)) (y1.1.2++[Value.int IntKind.i64 (IntKind.i64.wrap (IntKind.i64.wrap (y3-y1.2.1)+(1000000000:Int)))]),.v (.int .i64 1),.v (.int .i64 (IntKind.i64.wrap (y1.2.2.1+(1:Int))))]) <|
 .rq ([Value.int IntKind.i64 (IntKind.i64.wrap (y3-y1.2.1))].length=(1:Nat)*(1:Nat)) <|
 .rq (one [Value.int IntKind.i64 (IntKind.i64.wrap (y3-y1.2.1))]=true∧(y1.1.1+(1:Nat))*(8:Nat)≤(140737488355328:Nat)∧y1.1.1+(1:Nat)≤(9223372036854775807:Nat)) <|
 .nx 0 [.a 3 (y1.1.1+(1:Nat)) (y1.1.2++[Value.int IntKind.i64 (IntKind.i64.wrap (y3-y1.2.1))]),.v (.int .i64 0),.v (.int .i64 (IntKind.i64.wrap (y1.2.2.1+(1:Int))))]) <|
 .fz y1.1.1 y1.1.2 3 fun b2 c2 =>
 .qc3 115 [.slice (some { block:=b2,off:=(0:Nat):Addr }) y1.1.1 (c2)] fun y3 =>
 .ret [Sc.val .l y3]
theorem fS_l02Sub x0 x1:qft aS_l02Sub 208 [Sc.val .l x0,Sc.val .l x1] (tS_l02Sub x0 x1) :=fitK (by kernel_rfl)
def tI_IntText (x0:Int):T :=
 .qc6 133 [.int .i64 x0] fun y1 =>
 .ret [.string y1]
theorem fI_IntText x0:qft qa0 210 [.int .i64 x0] (tI_IntText x0) :=fitK (by kernel_rfl)
def aI_natAdd:An:=⟨[(4,[.s 5,.s 6,.s 7],[.a 3,.o (.o (.i .i64)),.o (.o (.i .i64))])],[],[]⟩
def tI_natAdd (x0:SlV) (x1:SlV):T :=
 .rq ((0:Int)≤(0:Int)∧(0:Int)≤IntKind.i64.wrap ((if (↑x1.n:Int) > (↑x0.n:Int) then (↑x1.n:Int) else (↑x0.n:Int))+(1:Int))∧(↑(8:Nat):Int)*IntKind.i64.wrap ((if (↑x1.n:Int) > (↑x0.n:Int) then (↑x1.n:Int) else (↑x0.n:Int))+(1:Int))≤(281474976710656:Int)∧IntKind.i64.wrap ((if (↑x1.n:Int) > (↑x0.n:Int) then (↑x1.n:Int) else (↑x0.n:Int))+(1:Int))≤(9223372036854775807:Int)) <|
 .lp [.a 3,.o (.o (.i .i64)),.o (.o (.i .i64))] [.a 3 (Int.toNat (0:Int)) [],.v (.int .i64 0),.v (.int .i64 0)] fun y1 =>
 .br (decide (y1.2.2.1<if (↑x1.n:Int) > (↑x0.n:Int) then (↑x1.n:Int) else (↑x0.n:Int))) (
  .br (decide (y1.2.2.1<(↑x0.n:Int))) (
   .el x0.1 (x0.n) y1.2.2.1 fun y2 =>
   .ql13 (y2.add (Int.toNat y1.2.2.1*(1:Nat))) fun y3 =>
   .br (decide (y1.2.2.1<(↑x1.n:Int))) (
    .el x1.1 (x1.n) y1.2.2.1 fun y4 =>
    .ql13 (y4.add (Int.toNat y1.2.2.1*(1:Nat))) fun y5 =>
    .rq ((1000000000:Int)≠(0:Int)) <|
 .rq ([Value.int IntKind.i64 ((IntKind.i64.wrap (IntKind.i64.wrap (y1.2.1+y3)+y5)).tmod (1000000000:Int))].length=(1:Nat)*(1:Nat)) <|
 .rq (one [Value.int IntKind.i64 ((IntKind.i64.wrap (IntKind.i64.wrap (y1.2.1+y3)+y5)).tmod (1000000000:Int))]=true∧(y1.1.1+(1:Nat))*(8:Nat)≤(140737488355328:Nat)∧y1.1.1+(1:Nat)≤(9223372036854775807:Nat)) <|
 .rq ((1000000000:Int)≠(0:Int)) <|
 .nx 0 [.a 3 (y1.1.1+(1:Nat)) (y1.1.2++[Value.int IntKind.i64 ((IntKind.i64.wrap (IntKind.i64.wrap (y1.2.1+y3)+y5)).tmod (1000000000:Int))]),.v (.int .i64 (IntKind.i64.wrap ((IntKind.i64.wrap (IntKind.i64.wrap (y1.2.1+y3)+y5)).tdiv (1000000000:Int)))),.v (.int .i64 (IntKind.i64.wrap (y1.2.2.1+(1:Int))))]) <|
 .rq ((1000000000:Int)≠(0:Int)) <|
 .rq ([Value.int IntKind.i64 ((IntKind.i64.wrap (y1.2.1+y3)).tmod (1000000000:Int))].length=(1:Nat)*(1:Nat)) <|
 .rq (one [Value.int IntKind.i64 ((IntKind.i64.wrap (y1.2.1+y3)).tmod (1000000000:Int))]=true∧(y1.1.1+(1:Nat))*(8:Nat)≤(140737488355328:Nat)∧y1.1.1+(1:Nat)≤(9223372036854775807:Nat)) <|
 .rq ((1000000000:Int)≠(0:Int)) <|
 .nx 0 [.a 3 (y1.1.1+(1:Nat)) (y1.1.2++[Value.int IntKind.i64 ((IntKind.i64.wrap (y1.2.1+y3)).tmod (1000000000:Int))]),.v (.int .i64 (IntKind.i64.wrap ((IntKind.i64.wrap (y1.2.1+y3)).tdiv (1000000000:Int)))),.v (.int .i64 (IntKind.i64.wrap (y1.2.2.1+(1:Int))))]) <|
 .br (decide (y1.2.2.1<(↑x1.n:Int))) (
   .el x1.1 (x1.n) y1.2.2.1 fun y2 =>
   .ql13 (y2.add (Int.toNat y1.2.2.1*(1:Nat))) fun y3 =>
   .rq ((1000000000:Int)≠(0:Int)) <|
 .rq ([Value.int IntKind.i64 ((IntKind.i64.wrap (y1.2.1+y3)).tmod (1000000000:Int))].length=(1:Nat)*(1:Nat)) <|
 .rq (one [Value.int IntKind.i64 ((IntKind.i64.wrap (y1.2.1+y3)).tmod (1000000000:Int))]=true∧(y1.1.1+(1:Nat))*(8:Nat)≤(140737488355328:Nat)∧y1.1.1+(1:Nat)≤(9223372036854775807:Nat)) <|
 .rq ((1000000000:Int)≠(0:Int)) <|
 .nx 0 [.a 3 (y1.1.1+(1:Nat)) (y1.1.2++[Value.int IntKind.i64 ((IntKind.i64.wrap (y1.2.1+y3)).tmod (1000000000:Int))]),.v (.int .i64 (IntKind.i64.wrap ((IntKind.i64.wrap (y1.2.1+y3)).tdiv (1000000000:Int)))),.v (.int .i64 (IntKind.i64.wrap (y1.2.2.1+(1:Int))))]) <|
 .rq ((1000000000:Int)≠(0:Int)) <|
 .rq ([Value.int IntKind.i64 (Int.tmod y1.2.1 (1000000000:Int))].length=(1:Nat)*(1:Nat)) <|
 .rq (one [Value.int IntKind.i64 (Int.tmod y1.2.1 (1000000000:Int))]=true∧(y1.1.1+(1:Nat))*(8:Nat)≤(140737488355328:Nat)∧y1.1.1+(1:Nat)≤(9223372036854775807:Nat)) <|
 .rq ((1000000000:Int)≠(0:Int)) <|
 .nx 0 [.a 3 (y1.1.1+(1:Nat)) (y1.1.2++[Value.int IntKind.i64 (Int.tmod y1.2.1 (1000000000:Int))]),.v (.int .i64 (IntKind.i64.wrap (Int.tdiv y1.2.1 (1000000000:Int)))),.v (.int .i64 (IntKind.i64.wrap (y1.2.2.1+(1:Int))))]) <|
 .rq ([Value.int IntKind.i64 y1.2.1].length=(1:Nat)*(1:Nat)) <|
 .rq (one [Value.int IntKind.i64 y1.2.1]=true∧(y1.1.1+(1:Nat))*(8:Nat)≤(140737488355328:Nat)∧y1.1.1+(1:Nat)≤(9223372036854775807:Nat)) <|
 .fz (y1.1.1+(1:Nat)) (y1.1.2++[Value.int IntKind.i64 y1.2.1]) 3 fun b2 c2 =>
 .qc3 187 [.slice (some { block:=b2,off:=(0:Nat):Addr }) (y1.1.1+(1:Nat)) (c2)] fun y3 =>
 .ret [Sc.val .l y3]
theorem fI_natAdd x0 x1:qft aI_natAdd 218 [Sc.val .l x0,Sc.val .l x1] (tI_natAdd x0 x1) :=fitK (by kernel_rfl)
def aI_natSub:An:=⟨[(4,[.s 5,.s 6,.s 14],[.a 3,.o (.o (.i .i64)),.o (.o (.i .i64))])],[],[]⟩
def tI_natSub (x0:SlV) (x1:SlV):T :=
 .rq ((0:Int)≤(↑x0.n:Int)∧(↑x0.n:Int)≤(↑x0.n:Int)∧(↑(8:Nat):Int)*(↑x0.n:Int)≤(281474976710656:Int)∧(↑x0.n:Int)≤(9223372036854775807:Int)) <|
 .lp [.a 3,.o (.o (.i .i64)),.o (.o (.i .i64))] [.a 3 ((↑x0.n:Int).toNat) ((madeCells { toList:=[Value.int IntKind.i64 (0:Int)]:Array Value } ((↑x0.n:Int).toNat*(1:Nat))).toList),.v (.int .i64 0),.v (.int .i64 0)] fun y1 =>
 .br (decide (y1.2.2.1<(↑x0.n:Int))) (
  .el x0.1 (x0.n) y1.2.2.1 fun y2 =>
  .ql13 (y2.add (Int.toNat y1.2.2.1*(1:Nat))) fun y3 =>
  .br (decide (y1.2.2.1<(↑x1.n:Int))) (
   .el x1.1 (x1.n) y1.2.2.1 fun y4 =>
   .ql13 (y4.add (Int.toNat y1.2.2.1*(1:Nat))) fun y5 =>
   .br (decide (IntKind.i64.wrap (IntKind.i64.wrap (y3-y1.2.1)-y5)<(0:Int))) (
    .rq ((0:Int)≤y1.2.2.1∧y1.2.2.1<(↑y1.1.1:Int)) <|
 .rq (Int.toNat y1.2.2.1*(1:Nat)+[Value.int IntKind.i64 (IntKind.i64.wrap (IntKind.i64.wrap (IntKind.i64.wrap (y3-y1.2.1)-y5)+(1000000000:Int)))].length≤y1.1.2.length) <|
 .nx 0 [.a 3 y1.1.1 (setl y1.1.2 (Int.toNat y1.2.2.1*(1:Nat)) [Value.int IntKind.i64 (IntKind.i64.wrap (IntKind.i64.wrap (IntKind.i64.wrap (y3-y1.2.1)-y5)+(1000000000:Int)))]),.v (.int .i64 1),.v (.int .i64 (IntKind.i64.wrap (y1.2.2.1+(1:Int))))]) <|
 .rq ((0:Int)≤y1.2.2.1∧y1.2.2.1<(↑y1.1.1:Int)) <|
 .rq (Int.toNat y1.2.2.1*(1:Nat)+[Value.int IntKind.i64 (IntKind.i64.wrap (IntKind.i64.wrap (y3-y1.2.1)-y5))].length≤y1.1.2.length) <|
 .nx 0 [.a 3 y1.1.1 (setl y1.1.2 (Int.toNat y1.2.2.1*(1:Nat)) [Value.int IntKind.i64 (IntKind.i64.wrap (IntKind.i64.wrap (y3-y1.2.1)-y5))]),.v (.int .i64 0),.v (.int .i64 (IntKind.i64.wrap (y1.2.2.1+(1:Int))))]) <|
 .br (decide (IntKind.i64.wrap (y3-y1.2.1)<(0:Int))) (
   .rq ((0:Int)≤y1.2.2.1∧y1.2.2.1<(↑y1.1.1:Int)) <|
 .rq (Int.toNat y1.2.2.1*(1:Nat)+[Value.int IntKind.i64 (IntKind.i64.wrap (IntKind.i64.wrap (y3-y1.2.1)+(1000000000:Int)))].length≤y1.1.2.length) <|
 .nx 0 [.a 3 y1.1.1 (setl y1.1.2 (Int.toNat y1.2.2.1*(1:Nat)) [Value.int IntKind.i64 (IntKind.i64.wrap (IntKind.i64.wrap (y3-y1.2.1)+(1000000000:Int)))]),.v (.int .i64 1),.v (.int .i64 (IntKind.i64.wrap (y1.2.2.1+(1:Int))))]) <|
 .rq ((0:Int)≤y1.2.2.1∧y1.2.2.1<(↑y1.1.1:Int)) <|
 .rq (Int.toNat y1.2.2.1*(1:Nat)+[Value.int IntKind.i64 (IntKind.i64.wrap (y3-y1.2.1))].length≤y1.1.2.length) <|
 .nx 0 [.a 3 y1.1.1 (setl y1.1.2 (Int.toNat y1.2.2.1*(1:Nat)) [Value.int IntKind.i64 (IntKind.i64.wrap (y3-y1.2.1))]),.v (.int .i64 0),.v (.int .i64 (IntKind.i64.wrap (y1.2.2.1+(1:Int))))]) <|
 .fz y1.1.1 y1.1.2 3 fun b2 c2 =>
 .qc3 187 [.slice (some { block:=b2,off:=(0:Nat):Addr }) y1.1.1 (c2)] fun y3 =>
 .ret [Sc.val .l y3]
theorem fI_natSub x0 x1:qft aI_natSub 219 [Sc.val .l x0,Sc.val .l x1] (tI_natSub x0 x1) :=fitK (by kernel_rfl)
def aI_subTimes:An:=⟨[(3,[.s 0,.s 7,.s 13],[.o (.o (.l)),.o (.o (.i .i64)),.o (.o (.i .i64))])],[],[]⟩
def tI_subTimes (x0:SlV) (x1:SlV) (x2:Int):T :=
 .lp [.o (.o (.l)),.o (.o (.i .i64)),.o (.o (.i .i64))] [.v (Sc.val .l x0),.v (.int .i64 0),.v (.int .i64 0)] fun y1 =>
 .br (decide (y1.2.2.1<(↑x1.n:Int))) (
  .el x1.1 (x1.n) y1.2.2.1 fun y2 =>
  .ql13 (y2.add (Int.toNat y1.2.2.1*(1:Nat))) fun y3 =>
  .el y1.1.1 (y1.1.n) y1.2.2.1 fun y4 =>
  .ql13 (y4.add (Int.toNat y1.2.2.1*(1:Nat))) fun y5 =>
  .br (decide (IntKind.i64.wrap (IntKind.i64.wrap (y5-IntKind.i64.wrap (y3*x2))-y1.2.1)<(0:Int))) (
   .rq ((1000000000:Int)≠(0:Int)) <|
 .el y1.1.1 (y1.1.n) y1.2.2.1 fun y6 =>
   .st (y6.add (Int.toNat y1.2.2.1*(1:Nat))) [.int .i64 (IntKind.i64.wrap (IntKind.i64.wrap (IntKind.i64.wrap (y5-IntKind.i64.wrap (y3*x2))-y1.2.1)+IntKind.i64.wrap (IntKind.i64.wrap ((IntKind.i64.wrap (IntKind.i64.wrap (IntKind.i64.wrap ((0:Int)-IntKind.i64.wrap (IntKind.i64.wrap (y5-IntKind.i64.wrap (y3*x2))-y1.2.1))+(1000000000:Int))-(1:Int))).tdiv (1000000000:Int))*(1000000000:Int))))] <|
 .nx 0 [.v (Sc.val .l y1.1),.v (.int .i64 (IntKind.i64.wrap ((IntKind.i64.wrap (IntKind.i64.wrap (IntKind.i64.wrap ((0:Int)-IntKind.i64.wrap (IntKind.i64.wrap (y5-IntKind.i64.wrap (y3*x2))-y1.2.1))+(1000000000:Int))-(1:Int))).tdiv (1000000000:Int)))),.v (.int .i64 (IntKind.i64.wrap (y1.2.2.1+(1:Int))))]) <|
 .el y1.1.1 (y1.1.n) y1.2.2.1 fun y6 =>
  .st (y6.add (Int.toNat y1.2.2.1*(1:Nat))) [.int .i64 (IntKind.i64.wrap (IntKind.i64.wrap (y5-IntKind.i64.wrap (y3*x2))-y1.2.1))] <|
 .nx 0 [.v (Sc.val .l y1.1),.v (.int .i64 0),.v (.int .i64 (IntKind.i64.wrap (y1.2.2.1+(1:Int))))]) <|
 .el y1.1.1 (y1.1.n) ((↑x1.n:Int)) fun y2 =>
 .ql13 (y2.add ((↑x1.n:Int).toNat*(1:Nat))) fun y3 =>
 .el y1.1.1 (y1.1.n) ((↑x1.n:Int)) fun y4 =>
 .st (y4.add ((↑x1.n:Int).toNat*(1:Nat))) [.int .i64 (IntKind.i64.wrap (y3-y1.2.1))] <|
 .el y1.1.1 (y1.1.n) ((↑x1.n:Int)) fun y5 =>
 .ql13 (y5.add ((↑x1.n:Int).toNat*(1:Nat))) fun y6 =>
 .ret [.bool (decide (y6<(0:Int)))]
theorem fI_subTimes x0 x1 x2:qft aI_subTimes 220 [Sc.val .l x0,Sc.val .l x1,.int .i64 x2] (tI_subTimes x0 x1 x2) :=fitK (by kernel_rfl)
def aI_addBack:An:=⟨[(2,[.s 0,.s 4,.s 9],[.o (.o (.l)),.o (.o (.i .i64)),.o (.o (.i .i64))])],[],[]⟩
def tI_addBack (x0:SlV) (x1:SlV):T :=
 .lp [.o (.o (.l)),.o (.o (.i .i64)),.o (.o (.i .i64))] [.v (Sc.val .l x0),.v (.int .i64 0),.v (.int .i64 0)] fun y1 =>
 .br (decide (y1.2.2.1<(↑x1.n:Int))) (
  .el x1.1 (x1.n) y1.2.2.1 fun y2 =>
  .ql13 (y2.add (Int.toNat y1.2.2.1*(1:Nat))) fun y3 =>
  .el y1.1.1 (y1.1.n) y1.2.2.1 fun y4 =>
  .ql13 (y4.add (Int.toNat y1.2.2.1*(1:Nat))) fun y5 =>
  .rq ((1000000000:Int)≠(0:Int)) <|
 .el y1.1.1 (y1.1.n) y1.2.2.1 fun y6 =>
  .st (y6.add (Int.toNat y1.2.2.1*(1:Nat))) [.int .i64 ((IntKind.i64.wrap (y1.2.1+IntKind.i64.wrap (y5+y3))).tmod (1000000000:Int))] <|
 .rq ((1000000000:Int)≠(0:Int)) <|
 .nx 0 [.v (Sc.val .l y1.1),.v (.int .i64 (IntKind.i64.wrap ((IntKind.i64.wrap (y1.2.1+IntKind.i64.wrap (y5+y3))).tdiv (1000000000:Int)))),.v (.int .i64 (IntKind.i64.wrap (y1.2.2.1+(1:Int))))]) <|
 .el y1.1.1 (y1.1.n) ((↑x1.n:Int)) fun y2 =>
 .ql13 (y2.add ((↑x1.n:Int).toNat*(1:Nat))) fun y3 =>
 .el y1.1.1 (y1.1.n) ((↑x1.n:Int)) fun y4 =>
 .st (y4.add ((↑x1.n:Int).toNat*(1:Nat))) [.int .i64 (IntKind.i64.wrap (y3+y1.2.1))] <|
 .ret []
theorem fI_addBack x0 x1:qft aI_addBack 221 [Sc.val .l x0,Sc.val .l x1] (tI_addBack x0 x1) :=fitK (by kernel_rfl)
end
end Go.Proofs.YtpkmhkbkohppiaaGreatDoor
