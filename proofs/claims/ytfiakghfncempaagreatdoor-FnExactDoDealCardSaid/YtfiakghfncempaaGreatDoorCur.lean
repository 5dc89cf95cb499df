/-
  The table of currencies, in the program's order and in the reference's; what the two find in it.
-/
import Derived.Test.YtfiakghfncempaaGreatDoorTB
import Derived.Test.YtfiakghfncempaaGreatDoorMath
namespace Go.Proofs.YtfiakghfncempaaGreatDoor
open Sx
set_option maxRecDepth 100000
noncomputable section
def tI_BookPost (x0:qy4) (x1:ByteArray) (x2:qy1):T :=
 .qc0 43 [qv4 x0,.string x1] fun y1 =>
 .qc7 162 [qv4 x0] fun y2 =>
 .bn y2 (.ret [qv4 (nilS,()),.bool (false)]) <|
 .br (decide (y1<(0:Int))) (
  .ret [qv4 (nilS,()),.bool (false)]) <|
 .es [.int .i64 y1] 3 fun b3 =>
 .es [.string x2.1,.bool x2.2.1,Sc.val .l x2.2.2.1] 38 fun b4 =>
 .qc26 319 [qv4 x0,(Value.func (Fn.func (320:Nat)) { toList:=[]:Array Value } { toList:=[Value.pointer (some { block:=b3,off:=(0:Nat):Addr }),Value.pointer (some { block:=b4,off:=(0:Nat):Addr })]:Array Value })] fun y5 =>
 .ret [qv4 y5.1,.bool y5.2.1]
theorem fI_BookPost x0 x1 x2:qft qa0 311 [qv4 x0,.string x1,qv2 x2] (tI_BookPost x0 x1 x2) :=fitK (by kernel_rfl)
def aI_sumInts:An:=⟨[(3,[.s 3,.s 8],[.o (.o (.i .i64)),.o (.o (.i .i64))])],[],[]⟩
def tI_sumInts (x0:SlV):T :=
 .lp [.o (.o (.i .i64)),.o (.o (.i .i64))] [.v (.int .i64 0),.v (.int .i64 0)] fun y1 =>
 .br (decide (y1.2.1<(↑x0.n:Int))) (
  .el x0.1 (x0.n) y1.2.1 fun y2 =>
  .ql15 (y2.add (Int.toNat y1.2.1*(1:Nat))) fun y3 =>
  .nx 0 [.v (.int .i64 (IntKind.i64.wrap (y1.1+y3))),.v (.int .i64 (IntKind.i64.wrap (y1.2.1+(1:Int))))]) <|
 .ret [.int .i64 y1.1]
theorem fI_sumInts x0:qft aI_sumInts 312 [Sc.val .l x0] (tI_sumInts x0) :=fitK (by kernel_rfl)
def tI_FairShare (x0:qy0) (x1:SlV) (x2:Int):T :=
 .qc7 303 [Sc.val .l x1] fun y1 =>
 .bn y1 (.ret [qv1 ((false),nilS,nilS,()),.bool (false)]) <|
 .br (decide (x2<(0:Int))) (
  .ret [qv1 ((false),nilS,nilS,()),.bool (false)]) <|
 .br (decide (x2≥(↑x1.n:Int))) (
  .ret [qv1 ((false),nilS,nilS,()),.bool (false)]) <|
 .qc7 62 [qv0 x0] fun y2 =>
 .bn y2 (.ret [qv1 ((false),nilS,nilS,()),.bool (false)]) <|
 .rg <|
 .el x1.1 (x1.n) x2 fun y3 =>
 .ql17 (y3.add (x2.toNat*(1:Nat))) fun y4 =>
 .qc2 12 [.int .i64 y4] fun y5 =>
 .qc2 110 [Sc.val .l x0.2.1,Sc.val .l y5] fun y6 =>
 .qc16 113 [.bool x0.1,Sc.val .l y6] fun y7 =>
 .qc0 312 [Sc.val .l x1] fun y8 =>
 .qc6 12 [.int .i64 y8] fun y9 =>
 .qc38 117 [qv0 y7,Sc.val .l y9] fun y10 =>
 .ret [qv1 y10.1,.bool y10.2.1]
theorem fI_FairShare x0 x1 x2:qft qa0 313 [qv0 x0,Sc.val .l x1,.int .i64 x2] (tI_FairShare x0 x1 x2) :=fitK (by kernel_rfl)
def tI_sortBy_loop_example_g00793_impl_part_ (x0:SlV):T :=
 .qc6 322 [Sc.val .l x0] fun y1 =>
 .qc33 323 [Sc.val .l y1,(Value.func (Fn.func (315:FuncId)) { toList:=[]:Array Value } { toList:=[]:Array Value })] fun _ =>
 .ret [Sc.val .l y1]
theorem fI_sortBy_loop_example_g00793_impl_part_ x0:qft qa0 314 [Sc.val .l x0,(Value.func (Fn.func (315:FuncId)) { toList:=[]:Array Value } { toList:=[]:Array Value })] (tI_sortBy_loop_example_g00793_impl_part_ x0) :=fitK (by kernel_rfl)
def tI_Shares_1 (x0:qy10) (x1:qy10):T :=
 .rg <|
 .qc25 108 [Sc.val .l x1.2.1,Sc.val .l x0.2.1] fun y1 =>
 .qc0 317 [.int .i64 x0.1,.int .i64 x1.1] fun y2 =>
 .es [.int .i64 y1,.int .i64 y2] 3 fun b3 =>
 .qc0 316 [.slice (some { block:=b3,off:=(0:Nat):Addr }) ((2:Nat)) ((2:Nat))] fun y4 =>
 .ret [.int .i64 y4]
theorem fI_Shares_1 x0 x1:qft qa0 315 [qv9 x0,qv9 x1] (tI_Shares_1 x0 x1) :=fitK (by kernel_rfl)
def aX_Or_int:An:=⟨[(3,[.s 8],[.o (.o (.i .i64))])],[],[]⟩
def tX_Or_int (x0:SlV):T :=
 .lp [.o (.o (.i .i64))] [.v (.int .i64 0)] fun y1 =>
 .br (decide (y1.1<(↑x0.n:Int))) (
  .el x0.1 (x0.n) y1.1 fun y2 =>
  .ql15 (y2.add (Int.toNat y1.1*(1:Nat))) fun y3 =>
  .br (y3 != (0:Int)) (
   .ret [.int .i64 y3]) <|
 .nx 0 [.v (.int .i64 (IntKind.i64.wrap (y1.1+(1:Int))))]) <|
 .ret [.int .i64 0]
theorem fX_Or_int x0:qft aX_Or_int 316 [Sc.val .l x0] (tX_Or_int x0) :=fitK (by kernel_rfl)
def tX_Compare_int (x0:Int) (x1:Int):T :=
 .qc7 324 [.int .i64 x0] fun y1 =>
 .qc7 324 [.int .i64 x1] fun y2 =>
 .br y1 (
  .br y2 (
   .ret [.int .i64 0]) <|
 .rM) <|
 .br y2 (
  .ret [.int .i64 1]) <|
 .br (decide (x0<x1)) (
  .rM) <|
 .br (decide (x0 > x1)) (
  .ret [.int .i64 1]) <|
 .ret [.int .i64 0]
theorem fX_Compare_int x0 x1:qft qa0 317 [.int .i64 x0,.int .i64 x1] (tX_Compare_int x0 x1) :=fitK (by kernel_rfl)
def aI_NatInt:An:=⟨[(5,[.s 4,.s 5],[.o (.o (.i .i64)),.o (.o (.i .i64))])],[],[]⟩
def tI_NatInt (x0:SlV):T :=
 .qc7 107 [Sc.val .l x0] fun y1 =>
 .bn y1 (.ret [.int .i64 0,.bool (false)]) <|
 .qc6 12 [.int .i64 9223372036854775807] fun y2 =>
 .qc0 108 [Sc.val .l x0,Sc.val .l y2] fun y3 =>
 .br (decide (y3 > (0:Int))) (
  .ret [.int .i64 0,.bool (false)]) <|
 .lp [.o (.o (.i .i64)),.o (.o (.i .i64))] [.v (.int .i64 0),.v (.int .i64 (IntKind.i64.wrap ((↑x0.n:Int)-(1:Int))))] fun y4 =>
 .br (decide (y4.2.1≥(0:Int))) (
  .el x0.1 (x0.n) y4.2.1 fun y5 =>
  .ql15 (y5.add (Int.toNat y4.2.1*(1:Nat))) fun y6 =>
  .nx 0 [.v (.int .i64 (IntKind.i64.wrap (IntKind.i64.wrap (y4.1*(1000000000:Int))+y6))),.v (.int .i64 (IntKind.i64.wrap (y4.2.1-(1:Int))))]) <|
 .ret [.int .i64 y4.1,.bool (true)]
theorem fI_NatInt x0:qft aI_NatInt 318 [Sc.val .l x0] (tI_NatInt x0) :=fitK (by kernel_rfl)
def tI_changed (x0:qy4) (x1:{ y // one [y]=true }):T :=
 .qc13 165 [qv4 x0] fun y1 =>
 .es [.int .i32 ((0:Int)),.int .u32 ((0:Int)),Sc.val .l y1.1] 339 fun b2 =>
 .qc7 325 [.pointer (some { block:=b2,off:=(0:Nat):Addr }),x1.1] fun y3 =>
 .bn y3 (.ret [qv4 (nilS,()),.bool (false)]) <|
 .ql59 ({ block:=b2,off:=(0:Nat):Addr }.add (2:Nat)) fun y4 =>
 .ret [qv4 y4,.bool (true)]
theorem fI_changed x0 x1:qft qa0 319 [qv4 x0,x1.1] (tI_changed x0 x1) :=fitK (by kernel_rfl)
def tI_BookPost_1 (x0:Addr) (x1:Addr) (x2:Addr):T :=
 .rf <|
 .ql60 (x0.add (0:Nat)) fun y1 =>
 .ld true x1 (.o (.i .i64)) fun y2 =>
 .el y1.1 (y1.n) y2 fun y3 =>
 .ql45 ((y3.add (y2.toNat*(4:Nat))).add (1:Nat)) fun y4 =>
 .ld true x2 (.g [.s,.b,.l]) fun y5 =>
 .qc46 321 [qv2 y4,qv2 y5] fun y6 =>
 .rg <|
 .ql60 (x0.add (0:Nat)) fun y7 =>
 .ld true x1 (.o (.i .i64)) fun y8 =>
 .el y7.1 (y7.n) y8 fun y9 =>
 .st ((y9.add (y8.toNat*(4:Nat))).add (1:Nat)) [.string y6.1.1,.bool y6.1.2.1,Sc.val .l y6.1.2.2.1] <|
 .ret [.bool y6.2.1]
theorem fI_BookPost_1 x0 x1 x2:qft qa0 320 [.pointer (some x0),.pointer (some x1),.pointer (some x2)] (tI_BookPost_1 x0 x1 x2) :=fitK (by kernel_rfl)
def tI_MoneyAdd (x0:qy1) (x1:qy1):T :=
 .qc7 51 [qv2 x0,qv2 x1] fun y1 =>
 .bn y1 (.ret [qv2 (({ data:={ toList:=[]:Array UInt8 }:ByteArray }),(false),nilS,()),.bool (false)]) <|
 .rg <|
 .qc21 53 [qv0 x0.2,qv0 x1.2] fun y2 =>
 .qc46 52 [.string x0.1,qv0 y2] fun y3 =>
 .ret [qv2 y3.1,.bool y3.2.1]
theorem fI_MoneyAdd x0 x1:qft qa0 321 [qv2 x0,qv2 x1] (tI_MoneyAdd x0 x1) :=fitK (by kernel_rfl)
def tX_SortStableFunc_part (x0:SlV):T :=
 .qc33 326 [Sc.val .l x0,.int .i64 ((↑x0.n:Int)),(Value.func (Fn.func (315:FuncId)) { toList:=[]:Array Value } { toList:=[]:Array Value })] fun _ =>
 .ret []
theorem fX_SortStableFunc_part x0:qft qa0 323 [Sc.val .l x0,(Value.func (Fn.func (315:FuncId)) { toList:=[]:Array Value } { toList:=[]:Array Value })] (tX_SortStableFunc_part x0) :=fitK (by kernel_rfl)
def tX_isNaN_int (x0:Int):T :=
 .ret [.bool (x0 != x0)]
theorem fX_isNaN_int x0:qft qa0 324 [.int .i64 x0] (tX_isNaN_int x0) :=fitK (by kernel_rfl)
def aX_stableCmpFunc_part:An:=⟨[(2,[.s 7,.s 8],[.o (.o (.i .i64)),.o (.o (.i .i64))]),(7,[.s 6],[.o (.o (.i .i64))]),(9,[.s 7,.s 8],[.o (.o (.i .i64)),.o (.o (.i .i64))])],[],[]⟩
def tX_stableCmpFunc_part (x0:SlV) (x1:Int):T :=
 .lp [.o (.o (.i .i64)),.o (.o (.i .i64))] [.v (.int .i64 0),.v (.int .i64 20)] fun y1 =>
 .br (decide (y1.2.1≤x1)) (
  .qc33 329 [Sc.val .l x0,.int .i64 y1.1,.int .i64 y1.2.1,(Value.func (Fn.func (315:FuncId)) { toList:=[]:Array Value } { toList:=[]:Array Value })] fun _ =>
  .nx 0 [.v (.int .i64 y1.2.1),.v (.int .i64 (IntKind.i64.wrap (y1.2.1+(20:Int))))]) <|
 .qc33 329 [Sc.val .l x0,.int .i64 y1.1,.int .i64 x1,(Value.func (Fn.func (315:FuncId)) { toList:=[]:Array Value } { toList:=[]:Array Value })] fun _ =>
 .lp [.o (.o (.i .i64))] [.v (.int .i64 20)] fun y3 =>
 .br (decide (y3.1<x1)) (
  .lp [.o (.o (.i .i64)),.o (.o (.i .i64))] [.v (.int .i64 0),.v (.int .i64 (IntKind.i64.wrap ((2:Int)*y3.1)))] fun y4 =>
  .br (decide (y4.2.1≤x1)) (
   .qc33 330 [Sc.val .l x0,.int .i64 y4.1,.int .i64 (IntKind.i64.wrap (y4.1+y3.1)),.int .i64 y4.2.1,(Value.func (Fn.func (315:FuncId)) { toList:=[]:Array Value } { toList:=[]:Array Value })] fun _ =>
   .nx 2 [.v (.int .i64 y4.2.1),.v (.int .i64 (IntKind.i64.wrap (y4.2.1+IntKind.i64.wrap ((2:Int)*y3.1))))]) <|
 .br (decide (IntKind.i64.wrap (y4.1+y3.1)<x1)) (
   .qc33 330 [Sc.val .l x0,.int .i64 y4.1,.int .i64 (IntKind.i64.wrap (y4.1+y3.1)),.int .i64 x1,(Value.func (Fn.func (315:FuncId)) { toList:=[]:Array Value } { toList:=[]:Array Value })] fun _ =>
   .nx 1 [.v (.int .i64 (IntKind.i64.wrap (y3.1*(2:Int))))]) <|
 .nx 1 [.v (.int .i64 (IntKind.i64.wrap (y3.1*(2:Int))))]) <|
 .ret []
theorem fX_stableCmpFunc_part x0 x1:qft aX_stableCmpFunc_part 326 [Sc.val .l x0,.int .i64 x1,(Value.func (Fn.func (315:FuncId)) { toList:=[]:Array Value } { toList:=[]:Array Value })] (tX_stableCmpFunc_part x0 x1) :=fitK (by kernel_rfl)
def aX_insertionSortCmpFunc_part:An:=⟨[(1,[.s 0,.s 8],[.o (.o (.l)),.o (.o (.i .i64))]),(4,[.s 0,.s 9],[.o (.o (.l)),.o (.o (.i .i64))])],[],[]⟩
def tX_insertionSortCmpFunc_part (x0:SlV) (x1:Int) (x2:Int):T :=
 .lp [.o (.o (.l)),.o (.o (.i .i64))] [.v (Sc.val .l x0),.v (.int .i64 (IntKind.i64.wrap (x1+(1:Int))))] fun y1 =>
 .br (decide (y1.2.1<x2)) (
  .lp [.o (.o (.l)),.o (.o (.i .i64))] [.v (Sc.val .l y1.1),.v (.int .i64 y1.2.1)] fun y2 =>
  .rg <|
 .br (decide (y2.2.1 > x1)) (
   .el y2.1.1 (y2.1.n) y2.2.1 fun y3 =>
   .ql61 (y3.add (Int.toNat y2.2.1*(2:Nat))) fun y4 =>
   .el y2.1.1 (y2.1.n) (IntKind.i64.wrap (y2.2.1-(1:Int))) fun y5 =>
   .ql61 (y5.add ((IntKind.i64.wrap (y2.2.1-(1:Int))).toNat*(2:Nat))) fun y6 =>
   .qc0 315 [qv9 y4,qv9 y6] fun y7 =>
   .br (decide (y7<(0:Int))) (
    .rg <|
 .el y2.1.1 (y2.1.n) (IntKind.i64.wrap (y2.2.1-(1:Int))) fun y8 =>
    .ql61 (y8.add ((IntKind.i64.wrap (y2.2.1-(1:Int))).toNat*(2:Nat))) fun y9 =>
    .el y2.1.1 (y2.1.n) y2.2.1 fun y10 =>
    .ql61 (y10.add (Int.toNat y2.2.1*(2:Nat))) fun y11 =>
    .el y2.1.1 (y2.1.n) y2.2.1 fun y12 =>
    .st (y12.add (Int.toNat y2.2.1*(2:Nat))) [.int .i64 y9.1,Sc.val .l y9.2.1] <|
 .el y2.1.1 (y2.1.n) (IntKind.i64.wrap (y2.2.1-(1:Int))) fun y13 =>
    .st (y13.add ((IntKind.i64.wrap (y2.2.1-(1:Int))).toNat*(2:Nat))) [.int .i64 y11.1,Sc.val .l y11.2.1] <|
 .nx 1 [.v (Sc.val .l y2.1),.v (.int .i64 (IntKind.i64.wrap (y2.2.1-(1:Int))))]) <|
 .nx 0 [.v (Sc.val .l y2.1),.v (.int .i64 (IntKind.i64.wrap (y1.2.1+(1:Int))))]) <|
 .nx 0 [.v (Sc.val .l y2.1),.v (.int .i64 (IntKind.i64.wrap (y1.2.1+(1:Int))))]) <|
 .ret []
theorem fX_insertionSortCmpFunc_part x0 x1 x2:qft aX_insertionSortCmpFunc_part 329 [Sc.val .l x0,.int .i64 x1,.int .i64 x2,(Value.func (Fn.func (315:FuncId)) { toList:=[]:Array Value } { toList:=[]:Array Value })] (tX_insertionSortCmpFunc_part x0 x1 x2) :=fitK (by kernel_rfl)
def aX_symMergeCmpFunc_part:An:=⟨[(3,[.s 10,.s 11],[.o (.o (.i .i64)),.o (.o (.i .i64))]),(9,[.s 0,.s 13],[.o (.o (.l)),.o (.o (.i .i64))]),(15,[.s 14,.s 15],[.o (.o (.i .i64)),.o (.o (.i .i64))]),(21,[.s 0,.s 17],[.o (.o (.l)),.o (.o (.i .i64))]),(33,[.s 20,.s 21],[.o (.o (.i .i64)),.o (.o (.i .i64))])],[(32,[.s 20,.s 21],[.o (.o (.i .i64)),.o (.o (.i .i64))]),(41,[],[]),(43,[],[])],[]⟩
def tX_symMergeCmpFunc_part (x0:SlV) (x1:Int) (x2:Int) (x3:Int):T :=
 .br (IntKind.i64.wrap (x2-x1) == (1:Int)) (
  .lp [.o (.o (.i .i64)),.o (.o (.i .i64))] [.v (.int .i64 x2),.v (.int .i64 x3)] fun y1 =>
  .br (decide (y1.1<y1.2.1)) (
   .rg <|
 .el x0.1 (x0.n) (IntKind.i64.wrap ((IntKind.u64.wrap (IntKind.i64.wrap (y1.1+y1.2.1))).fdiv ((2:Int) ^ min (Int.toNat (1:Int)) (64:Nat)))) fun y2 =>
   .ql61 (y2.add ((IntKind.i64.wrap ((IntKind.u64.wrap (IntKind.i64.wrap (y1.1+y1.2.1))).fdiv ((2:Int) ^ min (Int.toNat (1:Int)) (64:Nat)))).toNat*(2:Nat))) fun y3 =>
   .el x0.1 (x0.n) x1 fun y4 =>
   .ql61 (y4.add (x1.toNat*(2:Nat))) fun y5 =>
   .qc0 315 [qv9 y3,qv9 y5] fun y6 =>
   .br (decide (y6<(0:Int))) (
    .nx 0 [.v (.int .i64 (IntKind.i64.wrap (IntKind.i64.wrap ((IntKind.u64.wrap (IntKind.i64.wrap (y1.1+y1.2.1))).fdiv ((2:Int) ^ min (Int.toNat (1:Int)) (64:Nat)))+(1:Int)))),.v (.int .i64 y1.2.1)]) <|
 .nx 0 [.v (.int .i64 y1.1),.v (.int .i64 (IntKind.i64.wrap ((IntKind.u64.wrap (IntKind.i64.wrap (y1.1+y1.2.1))).fdiv ((2:Int) ^ min (Int.toNat (1:Int)) (64:Nat)))))]) <|
 .lp [.o (.o (.l)),.o (.o (.i .i64))] [.v (Sc.val .l x0),.v (.int .i64 x1)] fun y2 =>
  .br (decide (y2.2.1<IntKind.i64.wrap (y1.1-(1:Int)))) (
   .rg <|
 .el y2.1.1 (y2.1.n) (IntKind.i64.wrap (y2.2.1+(1:Int))) fun y3 =>
   .ql61 (y3.add ((IntKind.i64.wrap (y2.2.1+(1:Int))).toNat*(2:Nat))) fun y4 =>
   .el y2.1.1 (y2.1.n) y2.2.1 fun y5 =>
   .ql61 (y5.add (Int.toNat y2.2.1*(2:Nat))) fun y6 =>
   .el y2.1.1 (y2.1.n) y2.2.1 fun y7 =>
   .st (y7.add (Int.toNat y2.2.1*(2:Nat))) [.int .i64 y4.1,Sc.val .l y4.2.1] <|
 .el y2.1.1 (y2.1.n) (IntKind.i64.wrap (y2.2.1+(1:Int))) fun y8 =>
   .st (y8.add ((IntKind.i64.wrap (y2.2.1+(1:Int))).toNat*(2:Nat))) [.int .i64 y6.1,Sc.val .l y6.2.1] <|
 .nx 1 [.v (Sc.val .l y2.1),.v (.int .i64 (IntKind.i64.wrap (y2.2.1+(1:Int))))]) <|
 .ret []) <|
 .br (IntKind.i64.wrap (x3-x2) == (1:Int)) (
  .lp [.o (.o (.i .i64)),.o (.o (.i .i64))] [.v (.int .i64 x1),.v (.int .i64 x2)] fun y1 =>
  .br (decide (y1.1<y1.2.1)) (
   .rg <|
 .el x0.1 (x0.n) x2 fun y2 =>
   .ql61 (y2.add (x2.toNat*(2:Nat))) fun y3 =>
   .el x0.1 (x0.n) (IntKind.i64.wrap ((IntKind.u64.wrap (IntKind.i64.wrap (y1.1+y1.2.1))).fdiv ((2:Int) ^ min (Int.toNat (1:Int)) (64:Nat)))) fun y4 =>
   .ql61 (y4.add ((IntKind.i64.wrap ((IntKind.u64.wrap (IntKind.i64.wrap (y1.1+y1.2.1))).fdiv ((2:Int) ^ min (Int.toNat (1:Int)) (64:Nat)))).toNat*(2:Nat))) fun y5 =>
   .qc0 315 [qv9 y3,qv9 y5] fun y6 =>
   .br (!decide (y6<(0:Int))) (
    .nx 0 [.v (.int .i64 (IntKind.i64.wrap (IntKind.i64.wrap ((IntKind.u64.wrap (IntKind.i64.wrap (y1.1+y1.2.1))).fdiv ((2:Int) ^ min (Int.toNat (1:Int)) (64:Nat)))+(1:Int)))),.v (.int .i64 y1.2.1)]) <|
 .nx 0 [.v (.int .i64 y1.1),.v (.int .i64 (IntKind.i64.wrap ((IntKind.u64.wrap (IntKind.i64.wrap (y1.1+y1.2.1))).fdiv ((2:Int) ^ min (Int.toNat (1:Int)) (64:Nat)))))]) <|
 .lp [.o (.o (.l)),.o (.o (.i .i64))] [.v (Sc.val .l x0),.v (.int .i64 x2)] fun y2 =>
  .br (decide (y2.2.1 > y1.1)) (
   .rg <|
 .el y2.1.1 (y2.1.n) (IntKind.i64.wrap (y2.2.1-(1:Int))) fun y3 =>
   .ql61 (y3.add ((IntKind.i64.wrap (y2.2.1-(1:Int))).toNat*(2:Nat))) fun y4 =>
   .el y2.1.1 (y2.1.n) y2.2.1 fun y5 =>
   .ql61 (y5.add (Int.toNat y2.2.1*(2:Nat))) fun y6 =>
   .el y2.1.1 (y2.1.n) y2.2.1 fun y7 =>
   .st (y7.add (Int.toNat y2.2.1*(2:Nat))) [.int .i64 y4.1,Sc.val .l y4.2.1] <|
 .el y2.1.1 (y2.1.n) (IntKind.i64.wrap (y2.2.1-(1:Int))) fun y8 =>
   .st (y8.add ((IntKind.i64.wrap (y2.2.1-(1:Int))).toNat*(2:Nat))) [.int .i64 y6.1,Sc.val .l y6.2.1] <|
 .nx 1 [.v (Sc.val .l y2.1),.v (.int .i64 (IntKind.i64.wrap (y2.2.1-(1:Int))))]) <|
 .ret []) <|
 .jn [.o (.o (.i .i64)),.o (.o (.i .i64))] (fun y1 =>
  .lp [.o (.o (.i .i64)),.o (.o (.i .i64))] [.v (.int .i64 y1.1),.v (.int .i64 y1.2.1)] fun y2 =>
  .br (decide (y2.1<y2.2.1)) (
   .rg <|
 .el x0.1 (x0.n) (IntKind.i64.wrap (IntKind.i64.wrap (IntKind.i64.wrap (IntKind.i64.wrap ((IntKind.u64.wrap (IntKind.i64.wrap (x1+x3))).fdiv ((2:Int) ^ min (Int.toNat (1:Int)) (64:Nat)))+x2)-(1:Int))-IntKind.i64.wrap ((IntKind.u64.wrap (IntKind.i64.wrap (y2.1+y2.2.1))).fdiv ((2:Int) ^ min (Int.toNat (1:Int)) (64:Nat))))) fun y3 =>
   .ql61 (y3.add ((IntKind.i64.wrap (IntKind.i64.wrap (IntKind.i64.wrap (IntKind.i64.wrap ((IntKind.u64.wrap (IntKind.i64.wrap (x1+x3))).fdiv ((2:Int) ^ min (Int.toNat (1:Int)) (64:Nat)))+x2)-(1:Int))-IntKind.i64.wrap ((IntKind.u64.wrap (IntKind.i64.wrap (y2.1+y2.2.1))).fdiv ((2:Int) ^ min (Int.toNat (1:Int)) (64:Nat))))).toNat*(2:Nat))) fun y4 =>
   .el x0.1 (x0.n) (IntKind.i64.wrap ((IntKind.u64.wrap (IntKind.i64.wrap (y2.1+y2.2.1))).fdiv ((2:Int) ^ min (Int.toNat (1:Int)) (64:Nat)))) fun y5 =>
   .ql61 (y5.add ((IntKind.i64.wrap ((IntKind.u64.wrap (IntKind.i64.wrap (y2.1+y2.2.1))).fdiv ((2:Int) ^ min (Int.toNat (1:Int)) (64:Nat)))).toNat*(2:Nat))) fun y6 =>
   .qc0 315 [qv9 y4,qv9 y6] fun y7 =>
   .br (!decide (y7<(0:Int))) (
    .nx 1 [.v (.int .i64 (IntKind.i64.wrap (IntKind.i64.wrap ((IntKind.u64.wrap (IntKind.i64.wrap (y2.1+y2.2.1))).fdiv ((2:Int) ^ min (Int.toNat (1:Int)) (64:Nat)))+(1:Int)))),.v (.int .i64 y2.2.1)]) <|
 .nx 1 [.v (.int .i64 y2.1),.v (.int .i64 (IntKind.i64.wrap ((IntKind.u64.wrap (IntKind.i64.wrap (y2.1+y2.2.1))).fdiv ((2:Int) ^ min (Int.toNat (1:Int)) (64:Nat)))))]) <|
 .jn [] (fun _ =>
   .jn [] (fun _ =>
    .br (decide (IntKind.i64.wrap ((IntKind.u64.wrap (IntKind.i64.wrap (x1+x3))).fdiv ((2:Int) ^ min (Int.toNat (1:Int)) (64:Nat)))<IntKind.i64.wrap (IntKind.i64.wrap (IntKind.i64.wrap ((IntKind.u64.wrap (IntKind.i64.wrap (x1+x3))).fdiv ((2:Int) ^ min (Int.toNat (1:Int)) (64:Nat)))+x2)-y2.1))) (
     .br (decide (IntKind.i64.wrap (IntKind.i64.wrap (IntKind.i64.wrap ((IntKind.u64.wrap (IntKind.i64.wrap (x1+x3))).fdiv ((2:Int) ^ min (Int.toNat (1:Int)) (64:Nat)))+x2)-y2.1)<x3)) (
      .qc33 330 [Sc.val .l x0,.int .i64 (IntKind.i64.wrap ((IntKind.u64.wrap (IntKind.i64.wrap (x1+x3))).fdiv ((2:Int) ^ min (Int.toNat (1:Int)) (64:Nat)))),.int .i64 (IntKind.i64.wrap (IntKind.i64.wrap (IntKind.i64.wrap ((IntKind.u64.wrap (IntKind.i64.wrap (x1+x3))).fdiv ((2:Int) ^ min (Int.toNat (1:Int)) (64:Nat)))+x2)-y2.1)),.int .i64 x3,(Value.func (Fn.func (315:FuncId)) { toList:=[]:Array Value } { toList:=[]:Array Value })] fun _ =>
      .ret []) <|
 .ret []) <|
 .ret []) <|
 .br (decide (x1<y2.1)) (
    .br (decide (y2.1<IntKind.i64.wrap ((IntKind.u64.wrap (IntKind.i64.wrap (x1+x3))).fdiv ((2:Int) ^ min (Int.toNat (1:Int)) (64:Nat))))) (
     .qc33 330 [Sc.val .l x0,.int .i64 x1,.int .i64 y2.1,.int .i64 (IntKind.i64.wrap ((IntKind.u64.wrap (IntKind.i64.wrap (x1+x3))).fdiv ((2:Int) ^ min (Int.toNat (1:Int)) (64:Nat)))),(Value.func (Fn.func (315:FuncId)) { toList:=[]:Array Value } { toList:=[]:Array Value })] fun _ =>
     .nx 3 []) <|
 .nx 3 []) <|
 .nx 3 []) <|
 .br (decide (y2.1<x2)) (
   .br (decide (x2<IntKind.i64.wrap (IntKind.i64.wrap (IntKind.i64.wrap ((IntKind.u64.wrap (IntKind.i64.wrap (x1+x3))).fdiv ((2:Int) ^ min (Int.toNat (1:Int)) (64:Nat)))+x2)-y2.1))) (
    .qc33 333 [Sc.val .l x0,.int .i64 y2.1,.int .i64 x2,.int .i64 (IntKind.i64.wrap (IntKind.i64.wrap (IntKind.i64.wrap ((IntKind.u64.wrap (IntKind.i64.wrap (x1+x3))).fdiv ((2:Int) ^ min (Int.toNat (1:Int)) (64:Nat)))+x2)-y2.1)),(Value.func (Fn.func (315:FuncId)) { toList:=[]:Array Value } { toList:=[]:Array Value })] fun _ =>
    .nx 2 []) <|
 .nx 2 []) <|
 .nx 2 []) <|
 .br (decide (x2 > IntKind.i64.wrap ((IntKind.u64.wrap (IntKind.i64.wrap (x1+x3))).fdiv ((2:Int) ^ min (Int.toNat (1:Int)) (64:Nat))))) (
  .nx 0 [.v (.int .i64 (IntKind.i64.wrap (IntKind.i64.wrap (IntKind.i64.wrap ((IntKind.u64.wrap (IntKind.i64.wrap (x1+x3))).fdiv ((2:Int) ^ min (Int.toNat (1:Int)) (64:Nat)))+x2)-x3))),.v (.int .i64 (IntKind.i64.wrap ((IntKind.u64.wrap (IntKind.i64.wrap (x1+x3))).fdiv ((2:Int) ^ min (Int.toNat (1:Int)) (64:Nat)))))]) <|
 .nx 0 [.v (.int .i64 x1),.v (.int .i64 x2)]
theorem fX_symMergeCmpFunc_part x0 x1 x2 x3:qft aX_symMergeCmpFunc_part 330 [Sc.val .l x0,.int .i64 x1,.int .i64 x2,.int .i64 x3,(Value.func (Fn.func (315:FuncId)) { toList:=[]:Array Value } { toList:=[]:Array Value })] (tX_symMergeCmpFunc_part x0 x1 x2 x3) :=fitK (by kernel_rfl)
def aX_rotateCmpFunc_part:An:=⟨[(2,[.s 10,.s 11],[.o (.o (.i .i64)),.o (.o (.i .i64))])],[],[]⟩
def tX_rotateCmpFunc_part (x0:SlV) (x1:Int) (x2:Int) (x3:Int):T :=
 .lp [.o (.o (.i .i64)),.o (.o (.i .i64))] [.v (.int .i64 (IntKind.i64.wrap (x2-x1))),.v (.int .i64 (IntKind.i64.wrap (x3-x2)))] fun y1 =>
 .br (y1.1 != y1.2.1) (
  .br (decide (y1.1 > y1.2.1)) (
   .qc33 342 [Sc.val .l x0,.int .i64 (IntKind.i64.wrap (x2-y1.1)),.int .i64 x2,.int .i64 y1.2.1,(Value.func (Fn.func (315:FuncId)) { toList:=[]:Array Value } { toList:=[]:Array Value })] fun _ =>
   .nx 0 [.v (.int .i64 (IntKind.i64.wrap (y1.1-y1.2.1))),.v (.int .i64 y1.2.1)]) <|
 .qc33 342 [Sc.val .l x0,.int .i64 (IntKind.i64.wrap (x2-y1.1)),.int .i64 (IntKind.i64.wrap (IntKind.i64.wrap (x2+y1.2.1)-y1.1)),.int .i64 y1.1,(Value.func (Fn.func (315:FuncId)) { toList:=[]:Array Value } { toList:=[]:Array Value })] fun _ =>
  .nx 0 [.v (.int .i64 y1.1),.v (.int .i64 (IntKind.i64.wrap (y1.2.1-y1.1)))]) <|
 .qc33 342 [Sc.val .l x0,.int .i64 (IntKind.i64.wrap (x2-y1.1)),.int .i64 x2,.int .i64 y1.1,(Value.func (Fn.func (315:FuncId)) { toList:=[]:Array Value } { toList:=[]:Array Value })] fun _ =>
 .ret []
theorem fX_rotateCmpFunc_part x0 x1 x2 x3:qft aX_rotateCmpFunc_part 333 [Sc.val .l x0,.int .i64 x1,.int .i64 x2,.int .i64 x3,(Value.func (Fn.func (315:FuncId)) { toList:=[]:Array Value } { toList:=[]:Array Value })] (tX_rotateCmpFunc_part x0 x1 x2 x3) :=fitK (by kernel_rfl)
def aX_swapRangeCmpFunc_part:An:=⟨[(1,[.s 0,.s 10],[.o (.o (.l)),.o (.o (.i .i64))])],[],[]⟩
def tX_swapRangeCmpFunc_part (x0:SlV) (x1:Int) (x2:Int) (x3:Int):T :=
 .lp [.o (.o (.l)),.o (.o (.i .i64))] [.v (Sc.val .l x0),.v (.int .i64 0)] fun y1 =>
 .br (decide (y1.2.1<x3)) (
  .rg <|
 .el y1.1.1 (y1.1.n) (IntKind.i64.wrap (x2+y1.2.1)) fun y2 =>
  .ql61 (y2.add ((IntKind.i64.wrap (x2+y1.2.1)).toNat*(2:Nat))) fun y3 =>
  .el y1.1.1 (y1.1.n) (IntKind.i64.wrap (x1+y1.2.1)) fun y4 =>
  .ql61 (y4.add ((IntKind.i64.wrap (x1+y1.2.1)).toNat*(2:Nat))) fun y5 =>
  .el y1.1.1 (y1.1.n) (IntKind.i64.wrap (x1+y1.2.1)) fun y6 =>
  .st (y6.add ((IntKind.i64.wrap (x1+y1.2.1)).toNat*(2:Nat))) [.int .i64 y3.1,Sc.val .l y3.2.1] <|
 .el y1.1.1 (y1.1.n) (IntKind.i64.wrap (x2+y1.2.1)) fun y7 =>
  .st (y7.add ((IntKind.i64.wrap (x2+y1.2.1)).toNat*(2:Nat))) [.int .i64 y5.1,Sc.val .l y5.2.1] <|
 .nx 0 [.v (Sc.val .l y1.1),.v (.int .i64 (IntKind.i64.wrap (y1.2.1+(1:Int))))]) <|
 .ret []
theorem fX_swapRangeCmpFunc_part x0 x1 x2 x3:qft aX_swapRangeCmpFunc_part 342 [Sc.val .l x0,.int .i64 x1,.int .i64 x2,.int .i64 x3,(Value.func (Fn.func (315:FuncId)) { toList:=[]:Array Value } { toList:=[]:Array Value })] (tX_swapRangeCmpFunc_part x0 x1 x2 x3) :=fitK (by kernel_rfl)
def tI_perform_opDeal (x0:qy3) (x1:ByteArray × SlV × SlV × ByteArray × Bool × SlV × PUnit):T :=
 .qc7 104 [qv3 x0] fun y1 =>
 .bn y1 (.ret [qv3 (nilS,nilS,({ data:={ toList:=[]:Array UInt8 }:ByteArray }),nilS,()),.int .i64 1]) <|
 .rg <|
 .qc5 105 [qv3 x0] fun y2 =>
 .qc4 300 [qv11 x1,qv3 y2] fun y3 =>
 .br (y3.2.1 != (0:Int)) (
  .ret [qv3 (nilS,nilS,({ data:={ toList:=[]:Array UInt8 }:ByteArray }),nilS,()),.int .i64 y3.2.1]) <|
 .ret [qv3 y3.1,.int .i64 0]
theorem fI_perform_opDeal x0 x1:qft qa0 45 [qv3 x0,.iface 141 (qv11 x1)] (tI_perform_opDeal x0 x1) :=fitK (by kernel_rfl)
def tX_Clone_part_s (x0:Addr) (x1:Nat) (x2:Nat):T :=
 .br (false) (
  .ret [.slice none 0 0]) <|
 .rd ({ a:=some x0,n:=x1,c:=x2:SlV }) ((2:Nat)) fun y1 =>
 .rq (one y1=true∧((0:Nat)+x1)*(32:Nat)≤(140737488355328:Nat)∧(0:Nat)+x1≤(9223372036854775807:Nat)) <|
 .fz ((0:Nat)+x1) ([]++y1) 322 fun b2 c2 =>
 .ret [.slice (some { block:=b2,off:=(0:Nat):Addr }) ((0:Nat)+x1) (c2)]
theorem fX_Clone_part_s x0 x1 x2:qft qa0 322 [.slice (some x0) x1 x2] (tX_Clone_part_s x0 x1 x2) :=fitK (by kernel_rfl)
end
end Go.Proofs.YtfiakghfncempaaGreatDoor

namespace Go.Proofs.YtfiakghfncempaaGreatDoor
open Sx
set_option maxRecDepth 100000
theorem Tryz.mix:Tryz.prog.follows .mixedOrders=true:=Tryz.checked.mixed
abbrev CurRow:Type:=Scs [.s,.s,.i .i64,.i .i64]
def curI:List CurRow:=[
 (⟨#[67,72,70]⟩,⟨#[55,53,54]⟩,2,5,()),
 (⟨#[69,85,82]⟩,⟨#[57,55,56]⟩,2,1,()),
 (⟨#[85,83,68]⟩,⟨#[56,52,48]⟩,2,1,()),
 (⟨#[71,66,80]⟩,⟨#[56,50,54]⟩,2,1,()),
 (⟨#[74,80,89]⟩,⟨#[51,57,50]⟩,0,1,()),
 (⟨#[83,69,75]⟩,⟨#[55,53,50]⟩,2,100,()),
 (⟨#[78,79,75]⟩,⟨#[53,55,56]⟩,2,100,()),
 (⟨#[68,75,75]⟩,⟨#[50,48,56]⟩,2,50,()),
 (⟨#[67,90,75]⟩,⟨#[50,48,51]⟩,2,100,()),
 (⟨#[72,85,70]⟩,⟨#[51,52,56]⟩,2,500,()),
 (⟨#[80,76,78]⟩,⟨#[57,56,53]⟩,2,1,()),
 (⟨#[67,65,68]⟩,⟨#[49,50,52]⟩,2,5,()),
 (⟨#[65,85,68]⟩,⟨#[48,51,54]⟩,2,5,()),
 (⟨#[78,90,68]⟩,⟨#[53,53,52]⟩,2,10,()),
 (⟨#[75,87,68]⟩,⟨#[52,49,52]⟩,3,5,()),
 (⟨#[66,72,68]⟩,⟨#[48,52,56]⟩,3,5,()),
 (⟨#[84,78,68]⟩,⟨#[55,56,56]⟩,3,10,()),
 (⟨#[73,83,75]⟩,⟨#[51,53,50]⟩,0,1,()),
 (⟨#[75,82,87]⟩,⟨#[52,49,48]⟩,0,10,()),
 (⟨#[67,76,70]⟩,⟨#[57,57,48]⟩,4,1,())]
def curS:List CurRow:=[
 (⟨#[65,85,68]⟩,⟨#[48,51,54]⟩,2,5,()),
 (⟨#[66,72,68]⟩,⟨#[48,52,56]⟩,3,5,()),
 (⟨#[67,65,68]⟩,⟨#[49,50,52]⟩,2,5,()),
 (⟨#[67,72,70]⟩,⟨#[55,53,54]⟩,2,5,()),
 (⟨#[67,76,70]⟩,⟨#[57,57,48]⟩,4,1,()),
 (⟨#[67,90,75]⟩,⟨#[50,48,51]⟩,2,100,()),
 (⟨#[68,75,75]⟩,⟨#[50,48,56]⟩,2,50,()),
 (⟨#[69,85,82]⟩,⟨#[57,55,56]⟩,2,1,()),
 (⟨#[71,66,80]⟩,⟨#[56,50,54]⟩,2,1,()),
 (⟨#[72,85,70]⟩,⟨#[51,52,56]⟩,2,500,()),
 (⟨#[73,83,75]⟩,⟨#[51,53,50]⟩,0,1,()),
 (⟨#[74,80,89]⟩,⟨#[51,57,50]⟩,0,1,()),
 (⟨#[75,82,87]⟩,⟨#[52,49,48]⟩,0,10,()),
 (⟨#[75,87,68]⟩,⟨#[52,49,52]⟩,3,5,()),
 (⟨#[78,79,75]⟩,⟨#[53,55,56]⟩,2,100,()),
 (⟨#[78,90,68]⟩,⟨#[53,53,52]⟩,2,10,()),
 (⟨#[80,76,78]⟩,⟨#[57,56,53]⟩,2,1,()),
 (⟨#[83,69,75]⟩,⟨#[55,53,50]⟩,2,100,()),
 (⟨#[84,78,68]⟩,⟨#[55,56,56]⟩,3,10,()),
 (⟨#[85,83,68]⟩,⟨#[56,52,48]⟩,2,1,())]
def rowC (r:CurRow):List Value:=Scs.vals [.s,.s,.i .i64,.i .i64] r
def curCells (l:List CurRow):List Value:=l.flatMap rowC
theorem rowC_len (r:CurRow):(rowC r).length=4:=rfl
theorem cur_at {l:List CurRow} {n:Nat} (h:n<l.length) (r:List Value):cutv (curCells l++r) (n*4) 4=some (rowC l[n]):=cutv_flat rowC_len h r
theorem cur_at' {l:List CurRow} {n:Nat} (h:n<l.length):cutv (curCells l) (n*4) 4=some (rowC l[n]):=by
 have:=cur_at h []
 rwa [List.append_nil] at this
def curHas (x:ByteArray) (r:CurRow):Bool:=r.1.toList == x.toList
def curFrom (l:List CurRow) (x:ByteArray) (n:Nat):Option CurRow:=(l.drop n).find? (curHas x)
theorem curFrom_step {l:List CurRow} {x:ByteArray} {n:Nat} (h:n<l.length):curFrom l x n=if curHas x l[n] then some l[n] else curFrom l x (n+1):=by
 unfold curFrom
 rw [List.drop_eq_getElem_cons h,List.find?_cons]
 cases curHas x l[n] <;> rfl
theorem curFrom_end {l:List CurRow} {x:ByteArray}:curFrom l x l.length=none:=by
 unfold curFrom; rw [List.drop_length]; rfl
def curRow0:CurRow:=(⟨#[]⟩,⟨#[]⟩,0,0,())
def curRowOf (x:ByteArray):CurRow:=(curFrom curI x 0).getD curRow0
def known (x:ByteArray):Bool:=(curFrom curI x 0).isSome
theorem cur_both (x:ByteArray):curFrom curS x 0=curFrom curI x 0:=by
 have key:∀ c∈curI.map (fun r=>r.1.toList),(curS.find? fun r=>r.1.toList == c)=(curI.find? fun r=>r.1.toList == c):=by decide +kernel
 by_cases h:x.toList∈curI.map (fun r=>r.1.toList)
 ·exact key _ h
 ·have hS:∀ r∈curS,r.1.toList∈curI.map (fun r=>r.1.toList):=by decide +kernel
  have h1:curFrom curS x 0=none:=by
   refine List.find?_eq_none.2 fun r hr hx=>h ?_
   have:=hS r hr
   rw [show x.toList=r.1.toList from(beq_iff_eq.1 hx).symm]; exact this
  have h2:curFrom curI x 0=none:=by
   refine List.find?_eq_none.2 fun r hr hx=>h ?_
   rw [show x.toList=r.1.toList from(beq_iff_eq.1 hx).symm]
   exact List.mem_map_of_mem hr
  rw [h1,h2]
theorem known_iff (x:ByteArray):known x=!((curRowOf x).1.toList == (⟨#[]⟩:ByteArray).toList):=by
 unfold known curRowOf
 cases h:curFrom curI x 0 with
 | none=>simp [curRow0]
 | some r =>
  have hm:r∈curI:=List.mem_of_find?_eq_some h
  have:∀ r∈curI,(!(r.1.toList == (⟨#[]⟩:ByteArray).toList))=true:=by decide +kernel
  exact(this r hm).symm
theorem cS_l08Table (V:Know):CallX Tryz.prog V 232 [] (fun V' r=>∃ b c spare t,V b=none∧V'=kset V b (curCells curS++spare,t)∧r=.slice (some ⟨b,0,none⟩) 20 c):=by
 refine CallX.of_fits Tryz.mix fS_l08Table fun _=>?_
 simp only [tS_l08Table,T.wp]
 intro b c spare hb hc _
 exact⟨b,c,spare,_,hb,rfl,rfl⟩
theorem cS_l08Find (V:Know) (x:ByteArray):CallX Tryz.prog V 204 [.string x] (fun V' r=>V.le V'∧r=qv12 (curRowOf x)):=by
 refine CallX.of_fits Tryz.mix (fS_l08Find x) fun _=>?_
 simp only [tS_l08Find,T.wp]
 refine(cS_l08Table V).mono ?_
 rintro V1 r ⟨b,c,spare,t,hb,rfl,rfl⟩
 refine⟨nofun,⟨some ⟨b,0,none⟩,20,c⟩,rfl,?_⟩
 refine⟨fun y V'=>V'=kset V b (curCells curS++spare,t)∧∃ n:Nat,y.1=(n:Int)∧n≤20∧curFrom curS x n=curFrom curS x 0,fun y=>(20-(y.1:Int)).toNat,
  ⟨((0:Int),⟨#[]⟩,⟨#[]⟩,(0:Int),(0:Int),()),rfl,rfl,0,rfl,by omega,rfl⟩,?_⟩
 rintro⟨(i:Int),s1,s2,(i1:Int),(i2:Int),u⟩ V' ⟨rfl,n,hi,hn,hf⟩
 replace hi:i=(n:Int):=hi
 subst hi
 have hlen:curS.length=20:=rfl
 refine⟨fun h=>?_,fun h=>?_⟩
 ·have hb1:n<curS.length:=by (have:(n:Int)<20:=(by simpa using h); omega)
  refine⟨_,rfl,by omega,(by omega:(n:Int)<20),curS[n],?_,fun h=>?_,fun h=>?_⟩
  ·simp only [addr_add_eq,loadV,kset_same,Bool.false_eq_true,if_false,Nat.zero_add,Int.toNat_natCast]
   exact cur_at hb1 spare
  ·have h2:curFrom curS x 0=some curS[n]:=by
    rw [← hf,curFrom_step hb1,if_pos (show curHas x _=true from h)]
   refine⟨kset_le hb,?_⟩
   rw [curRowOf,← cur_both,h2]; rfl
  ·have h2:curFrom curS x (n+1)=curFrom curS x 0:=by
    rw [← hf,curFrom_step hb1,if_neg (by rw [curHas,h]; decide)]
   have hw:IntKind.i64.wrap ((n:Int)+1)=((n+1:Nat):Int):=by rw [wrap_i64 (by omega)]; omega
   refine⟨_,rfl,(((n+1:Nat):Int),s1,s2,i1,i2,()),by rw [hw]; rfl,⟨rfl,n+1,rfl,by omega,h2⟩,?_⟩
   show(20-((n+1:Nat):Int)).toNat<(20-(n:Int)).toNat
   omega
 ·have hn20:n=20:=by (have:¬ (n:Int)<20:=(by simpa using h); omega)
  subst hn20
  refine⟨kset_le hb,?_⟩
  have h2:curFrom curS x 0=none:=by rw [← hf]; exact curFrom_end
  rw [curRowOf,← cur_both,h2]; rfl
theorem cS_CurKnown (V:Know) (x:ByteArray):CallX Tryz.prog V 154 [.string x] (fun V' r=>V.le V'∧r=.bool (known x)):=by
 refine CallX.of_fits Tryz.mix (fS_CurKnown x) fun _=>?_
 simp only [tS_CurKnown,T.wp]
 refine(cS_l08Find V x).mono ?_
 rintro V1 r ⟨hle,rfl⟩
 exact⟨nofun,_,rfl,hle,by rw [known_iff]; rfl⟩
def curY:Scs (List.replicate 20 [Sc.s,.s,.i .i64,.i .i64]).flatten:=(⟨#[67,72,70]⟩,⟨#[55,53,54]⟩,2,5,⟨#[69,85,82]⟩,⟨#[57,55,56]⟩,2,1,⟨#[85,83,68]⟩,⟨#[56,52,48]⟩,2,1,⟨#[71,66,80]⟩,⟨#[56,50,54]⟩,2,1,⟨#[74,80,89]⟩,⟨#[51,57,50]⟩,0,1,⟨#[83,69,75]⟩,⟨#[55,53,50]⟩,2,100,⟨#[78,79,75]⟩,⟨#[53,55,56]⟩,2,100,⟨#[68,75,75]⟩,⟨#[50,48,56]⟩,2,50,⟨#[67,90,75]⟩,⟨#[50,48,51]⟩,2,100,⟨#[72,85,70]⟩,⟨#[51,52,56]⟩,2,500,⟨#[80,76,78]⟩,⟨#[57,56,53]⟩,2,1,⟨#[67,65,68]⟩,⟨#[49,50,52]⟩,2,5,⟨#[65,85,68]⟩,⟨#[48,51,54]⟩,2,5,⟨#[78,90,68]⟩,⟨#[53,53,52]⟩,2,10,⟨#[75,87,68]⟩,⟨#[52,49,52]⟩,3,5,⟨#[66,72,68]⟩,⟨#[48,52,56]⟩,3,5,⟨#[84,78,68]⟩,⟨#[55,56,56]⟩,3,10,⟨#[73,83,75]⟩,⟨#[51,53,50]⟩,0,1,⟨#[75,82,87]⟩,⟨#[52,49,48]⟩,0,10,⟨#[67,76,70]⟩,⟨#[57,57,48]⟩,4,1,())
def hasCur (V:Know):Prop:=∃ t,V 0=some (curCells curI,t)
theorem hasCur.le {V V':Know} (h:hasCur V) (hle:V.le V'):hasCur V':=let ⟨t,ht⟩:=h; ⟨t,hle _ _ ht⟩
theorem cI_currencyOf {V:Know} (hV:hasCur V) (x:ByteArray):CallX Tryz.prog V 47 [.string x] (fun V' r=>V'=V∧r=.tuple #[qv12 (curRowOf x),.bool (known x)]):=by
 obtain⟨t,hV⟩:=hV
 refine CallX.of_fits Tryz.mix (fI_currencyOf x) fun _=>?_
 simp only [tI_currencyOf,T.wp]
 refine⟨curY,by simp only [loadV,hV,Bool.false_eq_true,if_false]; exact by kernel_rfl,?_⟩
 refine⟨fun y V'=>V'=V∧∃ n:Nat,y.1=(n:Int)∧n≤20∧curFrom curI x n=curFrom curI x 0,fun y=>(20-(y.1:Int)).toNat,
  ⟨((0:Int),⟨#[]⟩,⟨#[]⟩,(0:Int),(0:Int),()),rfl,rfl,0,rfl,by omega,rfl⟩,?_⟩
 rintro⟨(i:Int),s1,s2,(i1:Int),(i2:Int),u⟩ V' ⟨rfl,n,hi,hn,hf⟩
 replace hi:i=(n:Int):=hi
 subst hi
 have hlen:curI.length=20:=rfl
 refine⟨fun h=>?_,fun h=>?_⟩
 ·have hb1:n<curI.length:=by (have:(n:Int)<20:=(by simpa using h); omega)
  refine⟨⟨by omega,(by omega:(n:Int)<20)⟩,curI[n],?_,fun h=>?_,fun h=>?_⟩
  ·simp only [Int.toNat_natCast]
   exact cur_at' hb1
  ·have h2:curFrom curI x 0=some curI[n]:=by
    rw [← hf,curFrom_step hb1,if_pos (show curHas x _=true from h)]
   refine⟨rfl,?_⟩
   rw [curRowOf,known,h2]; rfl
  ·have h2:curFrom curI x (n+1)=curFrom curI x 0:=by
    rw [← hf,curFrom_step hb1,if_neg (by rw [curHas,h]; decide)]
   have hw:IntKind.i64.wrap ((n:Int)+1)=((n+1:Nat):Int):=by rw [wrap_i64 (by omega)]; omega
   refine⟨_,rfl,(((n+1:Nat):Int),s1,s2,i1,i2,()),by rw [hw]; rfl,⟨rfl,n+1,rfl,by omega,h2⟩,?_⟩
   show(20-((n+1:Nat):Int)).toNat<(20-(n:Int)).toNat
   omega
 ·have hn20:n=20:=by (have:¬ (n:Int)<20:=(by simpa using h); omega)
  subst hn20
  refine⟨rfl,?_⟩
  have h2:curFrom curI x 0=none:=by rw [← hf]; exact curFrom_end
  rw [curRowOf,known,h2]; rfl
theorem cI_CurKnown {V:Know} (hV:hasCur V) (x:ByteArray):CallX Tryz.prog V 119 [.string x] (fun V' r=>V'=V∧r=.bool (known x)):=by
 refine CallX.of_fits Tryz.mix (fI_CurKnown x) fun _=>?_
 simp only [tI_CurKnown,T.wp]
 refine(cI_currencyOf hV x).mono ?_
 rintro V1 r ⟨rfl,rfl⟩
 exact⟨nofun,(curRowOf x,known x,()),rfl,rfl,rfl⟩
end Go.Proofs.YtfiakghfncempaaGreatDoor
