/-
  What each function of the seat comes to, as a tree; each tree is checked against the code.
-/
import Derived.Test.YtfiakghfncempaaGreatDoorTA
namespace Go.Proofs.YtfiakghfncempaaGreatDoor
open Sx
set_option maxRecDepth 100000
noncomputable section
def aL_heldAcctS:An:=⟨[(2,[.s 1,.s 5],[.o (.o (.i .i64)),.o (.o (.i .i64))])],[],[]⟩
def tL_heldAcctS (x0:SlV) (x1:Int):T :=
 .lp [.o (.o (.i .i64)),.o (.o (.i .i64))] [.v (.int .i64 x1),.v (.int .i64 0)] fun y1 =>
 .br (decide (y1.2.1<(↑x0.n:Int))) (
  .rg <|
 .el x0.1 (x0.n) y1.2.1 fun y2 =>
  .ql12 ((y2.add (Int.toNat y1.2.1*(4:Nat))).add (0:Nat)) fun y3 =>
  .qc30 90 [.int .i64 y1.1] fun y4 =>
  .br (!y3.toList == y4.toList) (
   .rM) <|
 .rg <|
 .el x0.1 (x0.n) y1.2.1 fun y5 =>
  .ql12 (((y5.add (Int.toNat y1.2.1*(4:Nat))).add (1:Nat)).add (0:Nat)) fun y6 =>
  .qc30 90 [.int .i64 (IntKind.i64.wrap (y1.1+(1:Int)))] fun y7 =>
  .br (!y6.toList == y7.toList) (
   .rM) <|
 .el x0.1 (x0.n) y1.2.1 fun y8 =>
  .ql31 ((((y8.add (Int.toNat y1.2.1*(4:Nat))).add (1:Nat)).add (1:Nat)).add (0:Nat)) fun y9 =>
  .rq ((3:Int)≠(0:Int)) <|
 .br (!y9 == ((IntKind.i64.wrap (IntKind.i64.wrap (y1.1+(1:Int))+(1:Int))).tmod (3:Int) == (0:Int))) (
   .rM) <|
 .el x0.1 (x0.n) y1.2.1 fun y10 =>
  .ql29 ((((y10.add (Int.toNat y1.2.1*(4:Nat))).add (1:Nat)).add (1:Nat)).add (1:Nat)) fun y11 =>
  .qc0 145 [Sc.val .l y11,.int .i64 (IntKind.i64.wrap (IntKind.i64.wrap (IntKind.i64.wrap (y1.1+(1:Int))+(1:Int))+(1:Int)))] fun y12 =>
  .br (decide (y12<(0:Int))) (
   .rM) <|
 .nx 0 [.v (.int .i64 y12),.v (.int .i64 (IntKind.i64.wrap (y1.2.1+(1:Int))))]) <|
 .ret [.int .i64 y1.1]
theorem fL_heldAcctS x0 x1:qft aL_heldAcctS 144 [Sc.val .l x0,.int .i64 x1] (tL_heldAcctS x0 x1) :=fitK (by kernel_rfl)
def aL_heldIntS:An:=⟨[(2,[.s 1,.s 5],[.o (.o (.i .i64)),.o (.o (.i .i64))])],[],[]⟩
def tL_heldIntS (x0:SlV) (x1:Int):T :=
 .lp [.o (.o (.i .i64)),.o (.o (.i .i64))] [.v (.int .i64 x1),.v (.int .i64 0)] fun y1 =>
 .br (decide (y1.2.1<(↑x0.n:Int))) (
  .el x0.1 (x0.n) y1.2.1 fun y2 =>
  .ql15 (y2.add (Int.toNat y1.2.1*(1:Nat))) fun y3 =>
  .br (y3 != y1.1) (
   .rM) <|
 .nx 0 [.v (.int .i64 (IntKind.i64.wrap (y1.1+(1:Int)))),.v (.int .i64 (IntKind.i64.wrap (y1.2.1+(1:Int))))]) <|
 .ret [.int .i64 y1.1]
theorem fL_heldIntS x0 x1:qft aL_heldIntS 145 [Sc.val .l x0,.int .i64 x1] (tL_heldIntS x0 x1) :=fitK (by kernel_rfl)
def aL_heldRateS:An:=⟨[(2,[.s 1,.s 5],[.o (.o (.i .i64)),.o (.o (.i .i64))])],[],[]⟩
def tL_heldRateS (x0:SlV) (x1:Int):T :=
 .lp [.o (.o (.i .i64)),.o (.o (.i .i64))] [.v (.int .i64 x1),.v (.int .i64 0)] fun y1 =>
 .br (decide (y1.2.1<(↑x0.n:Int))) (
  .rg <|
 .el x0.1 (x0.n) y1.2.1 fun y2 =>
  .ql12 ((y2.add (Int.toNat y1.2.1*(5:Nat))).add (0:Nat)) fun y3 =>
  .qc30 90 [.int .i64 y1.1] fun y4 =>
  .br (!y3.toList == y4.toList) (
   .rM) <|
 .rg <|
 .el x0.1 (x0.n) y1.2.1 fun y5 =>
  .ql12 ((y5.add (Int.toNat y1.2.1*(5:Nat))).add (1:Nat)) fun y6 =>
  .qc30 90 [.int .i64 (IntKind.i64.wrap (y1.1+(1:Int)))] fun y7 =>
  .br (!y6.toList == y7.toList) (
   .rM) <|
 .el x0.1 (x0.n) y1.2.1 fun y8 =>
  .ql31 ((((y8.add (Int.toNat y1.2.1*(5:Nat))).add (2:Nat)).add (0:Nat)).add (0:Nat)) fun y9 =>
  .rq ((3:Int)≠(0:Int)) <|
 .br (!y9 == ((IntKind.i64.wrap (IntKind.i64.wrap (y1.1+(1:Int))+(1:Int))).tmod (3:Int) == (0:Int))) (
   .rM) <|
 .el x0.1 (x0.n) y1.2.1 fun y10 =>
  .ql29 ((((y10.add (Int.toNat y1.2.1*(5:Nat))).add (2:Nat)).add (0:Nat)).add (1:Nat)) fun y11 =>
  .qc0 145 [Sc.val .l y11,.int .i64 (IntKind.i64.wrap (IntKind.i64.wrap (IntKind.i64.wrap (y1.1+(1:Int))+(1:Int))+(1:Int)))] fun y12 =>
  .br (decide (y12<(0:Int))) (
   .rM) <|
 .el x0.1 (x0.n) y1.2.1 fun y13 =>
  .ql15 (((y13.add (Int.toNat y1.2.1*(5:Nat))).add (2:Nat)).add (2:Nat)) fun y14 =>
  .br (y14 != y12) (
   .rM) <|
 .nx 0 [.v (.int .i64 (IntKind.i64.wrap (y12+(1:Int)))),.v (.int .i64 (IntKind.i64.wrap (y1.2.1+(1:Int))))]) <|
 .ret [.int .i64 y1.1]
theorem fL_heldRateS x0 x1:qft aL_heldRateS 146 [Sc.val .l x0,.int .i64 x1] (tL_heldRateS x0 x1) :=fitK (by kernel_rfl)
def tS_IntOf (x0:Int):T :=
 .br (x0 == (-9223372036854775808:Int)) (
  .fz ((3:Nat)) [.int .i64 854775808,.int .i64 223372036,.int .i64 9] 3 fun b1 c1 =>
  .qc16 187 [.bool (true),.slice (some { block:=b1,off:=(0:Nat):Addr }) ((3:Nat)) (c1)] fun y2 =>
  .ret [qv0 y2]) <|
 .br (decide (x0<(0:Int))) (
  .qc6 158 [.int .i64 (IntKind.i64.wrap ((0:Int)-x0))] fun y1 =>
  .qc16 187 [.bool (true),Sc.val .l y1] fun y2 =>
  .ret [qv0 y2]) <|
 .qc6 158 [.int .i64 x0] fun y1 =>
 .qc16 187 [.bool (false),Sc.val .l y1] fun y2 =>
 .ret [qv0 y2]
theorem fS_IntOf x0:qft qa0 149 [.int .i64 x0] (tS_IntOf x0) :=fitK (by kernel_rfl)
def tS_RatAdd (x0:qy2) (x1:qy2):T :=
 .qc7 174 [qv1 x0] fun y1 =>
 .bn y1 (.ret [qv1 ((false),nilS,nilS,()),.bool (false)]) <|
 .qc7 174 [qv1 x1] fun y2 =>
 .bn y2 (.ret [qv1 ((false),nilS,nilS,()),.bool (false)]) <|
 .rg <|
 .qc2 200 [Sc.val .l x0.2.1,Sc.val .l x1.2.2.1] fun y3 =>
 .qc16 187 [.bool x0.1,Sc.val .l y3] fun y4 =>
 .rg <|
 .qc2 200 [Sc.val .l x1.2.1,Sc.val .l x0.2.2.1] fun y5 =>
 .qc16 187 [.bool x1.1,Sc.val .l y5] fun y6 =>
 .qc16 201 [qv0 y4,qv0 y6] fun y7 =>
 .rg <|
 .qc2 200 [Sc.val .l x0.2.2.1,Sc.val .l x1.2.2.1] fun y8 =>
 .qc38 202 [.bool y7.1,Sc.val .l y7.2.1,Sc.val .l y8] fun y9 =>
 .ret [qv1 y9.1,.bool y9.2.1]
theorem fS_RatAdd x0 x1:qft qa0 152 [qv1 x0,qv1 x1] (tS_RatAdd x0 x1) :=fitK (by kernel_rfl)
def tS_CurKnown (x0:ByteArray):T :=
 .qc51 204 [.string x0] fun y1 =>
 .ret [.bool (!ByteArray.toList y1.1 == { data:={ toList:=[]:Array UInt8 }:ByteArray }.toList)]
theorem fS_CurKnown x0:qft qa0 154 [.string x0] (tS_CurKnown x0) :=fitK (by kernel_rfl)
def aS_l19Copy:An:=⟨[(3,[.s 3,.s 9],[.o (.o (.l)),.o (.o (.i .i64))])],[],[]⟩
def tS_l19Copy (x0:SlV):T :=
 .fz ((0:Nat)) [] 116 fun b1 c1 =>
 .lp [.o (.o (.l)),.o (.o (.i .i64))] [.v (.slice (some { block:=b1,off:=(0:Nat):Addr }) ((0:Nat)) (c1)),.v (.int .i64 0)] fun y2 =>
 .br (decide (y2.2.1<(↑x0.n:Int))) (
  .el x0.1 (x0.n) y2.2.1 fun y3 =>
  .ql22 (y3.add (Int.toNat y2.2.1*(4:Nat))) fun y4 =>
  .rg <|
 .qc52 203 [qv1 y4.2] fun y5 =>
  .rq ([Value.string y4.1,Value.bool y5.1,Value.slice y5.2.1.1 y5.2.1.n y5.2.1.c,Value.slice y5.2.2.1.1 y5.2.2.1.n y5.2.2.1.c].length=(1:Nat)*(4:Nat)) <|
 .rq (one [Value.string y4.1,Value.bool y5.1,Value.slice y5.2.1.1 y5.2.1.n y5.2.1.c,Value.slice y5.2.2.1.1 y5.2.2.1.n y5.2.2.1.c]=true) <|
 .ap ({ a:=y2.1.1,n:=y2.1.n,c:=y2.1.c:SlV }) 4 72 [.string y4.1,.bool y5.1,Sc.val .l y5.2.1,Sc.val .l y5.2.2.1] ((1:Nat)) 116 fun y6 =>
  .nx 0 [.v (Sc.val .l y6),.v (.int .i64 (IntKind.i64.wrap (y2.2.1+(1:Int))))]) <|
 .ret [Sc.val .l y2.1]
theorem fS_l19Copy x0:qft aS_l19Copy 155 [Sc.val .l x0] (tS_l19Copy x0) :=fitK (by kernel_rfl)
def tS_RatSign (x0:qy2):T :=
 .rg <|
 .qc52 161 [] fun y1 =>
 .qc0 185 [qv1 x0,qv1 y1] fun y2 =>
 .ret [.int .i64 y2]
theorem fS_RatSign x0:qft qa0 156 [qv1 x0] (tS_RatSign x0) :=fitK (by kernel_rfl)
def aS_NatOf:An:=⟨[(2,[.s 0,.s 3],[.o (.o (.i .i64)),.a 3])],[],[]⟩
def tS_NatOf (x0:Int):T :=
 .lp [.o (.o (.i .i64)),.a 3] [.v (.int .i64 x0),.a 3 ((0:Nat)) []] fun y1 =>
 .br (decide (y1.1 > (0:Int))) (
  .rq ((1000000000:Int)≠(0:Int)) <|
 .rq ([Value.int IntKind.i64 (Int.tmod y1.1 (1000000000:Int))].length=(1:Nat)*(1:Nat)) <|
 .rq (one [Value.int IntKind.i64 (Int.tmod y1.1 (1000000000:Int))]=true∧(y1.2.1.1+(1:Nat))*(8:Nat)≤(140737488355328:Nat)∧y1.2.1.1+(1:Nat)≤(9223372036854775807:Nat)) <|
 .rq ((1000000000:Int)≠(0:Int)) <|
 .nx 0 [.v (.int .i64 (IntKind.i64.wrap (Int.tdiv y1.1 (1000000000:Int)))),.a 3 (y1.2.1.1+(1:Nat)) (y1.2.1.2++[Value.int IntKind.i64 (Int.tmod y1.1 (1000000000:Int))])]) <|
 .fz y1.2.1.1 y1.2.1.2 3 fun b2 c2 =>
 .ret [.slice (some { block:=b2,off:=(0:Nat):Addr }) y1.2.1.1 (c2)]
theorem fS_NatOf x0:qft aS_NatOf 158 [.int .i64 x0] (tS_NatOf x0) :=fitK (by kernel_rfl)
def tS_RatMake (x0:qy0) (x1:qy0):T :=
 .qc7 177 [qv0 x0] fun y1 =>
 .bn y1 (.ret [qv1 ((false),nilS,nilS,()),.bool (false)]) <|
 .qc7 177 [qv0 x1] fun y2 =>
 .bn y2 (.ret [qv1 ((false),nilS,nilS,()),.bool (false)]) <|
 .qc38 202 [.bool (!x0.1 == x1.1),Sc.val .l x0.2.1,Sc.val .l x1.2.1] fun y3 =>
 .ret [qv1 y3.1,.bool y3.2.1]
theorem fS_RatMake x0 x1:qft qa0 160 [qv0 x0,qv0 x1] (tS_RatMake x0 x1) :=fitK (by kernel_rfl)
def tS_RatZero :T :=
 .fz ((1:Nat)) [.int .i64 1] 3 fun b1 c1 =>
 .ret [qv1 ((false),nilS,(⟨(some { block:=b1,off:=(0:Nat):Addr }),((1:Nat)),(c1)⟩:SlV),())]
theorem fS_RatZero :qft qa0 161 [] (tS_RatZero ) :=fitK (by kernel_rfl)
def aI_BookOk:An:=⟨[(4,[.s 12],[.o (.o (.i .i64))])],[],[]⟩
def tI_BookOk (x0:qy4):T :=
 .br (decide ((↑x0.1.n:Int) > (12:Int))) (
  .rF) <|
 .lp [.o (.o (.i .i64))] [.v (.int .i64 0)] fun y1 =>
 .br (decide (y1.1<(↑x0.1.n:Int))) (
  .el x0.1.1 (x0.1.n) y1.1 fun y2 =>
  .ql24 (y2.add (Int.toNat y1.1*(4:Nat))) fun y3 =>
  .rg <|
 .qc37 206 [.string y3.1] fun y4 =>
  .bF y4 <|
 .qc37 65 [qv2 y3.2] fun y5 =>
  .bF y5 <|
 .br (decide (y1.1 > (0:Int))) (
   .el x0.1.1 (x0.1.n) (IntKind.i64.wrap (y1.1-(1:Int))) fun y6 =>
   .ql12 ((y6.add ((IntKind.i64.wrap (y1.1-(1:Int))).toNat*(4:Nat))).add (0:Nat)) fun y7 =>
   .br (!Op.bytesLess y7.toList (ByteArray.toList y3.1)) (
    .rF) <|
 .nx 0 [.v (.int .i64 (IntKind.i64.wrap (y1.1+(1:Int))))]) <|
 .nx 0 [.v (.int .i64 (IntKind.i64.wrap (y1.1+(1:Int))))]) <|
 .rT
theorem fI_BookOk x0:qft aI_BookOk 162 [qv4 x0] (tI_BookOk x0) :=fitK (by kernel_rfl)
def aI_RestsOk:An:=⟨[(2,[.s 7],[.o (.o (.i .i64))])],[],[]⟩
def tI_RestsOk (x0:SlV):T :=
 .lp [.o (.o (.i .i64))] [.v (.int .i64 0)] fun y1 =>
 .br (decide (y1.1<(↑x0.n:Int))) (
  .el x0.1 (x0.n) y1.1 fun y2 =>
  .ql22 (y2.add (Int.toNat y1.1*(4:Nat))) fun y3 =>
  .rg <|
 .qc37 119 [.string y3.1] fun y4 =>
  .bF y4 <|
 .qc37 116 [qv1 y3.2] fun y5 =>
  .bF y5 <|
 .qc25 207 [qv1 y3.2] fun y6 =>
  .br (y6 == (0:Int)) (
   .rF) <|
 .br (decide (y1.1 > (0:Int))) (
   .el x0.1 (x0.n) (IntKind.i64.wrap (y1.1-(1:Int))) fun y7 =>
   .ql12 ((y7.add ((IntKind.i64.wrap (y1.1-(1:Int))).toNat*(4:Nat))).add (0:Nat)) fun y8 =>
   .br (!Op.bytesLess y8.toList (ByteArray.toList y3.1)) (
    .rF) <|
 .nx 0 [.v (.int .i64 (IntKind.i64.wrap (y1.1+(1:Int))))]) <|
 .nx 0 [.v (.int .i64 (IntKind.i64.wrap (y1.1+(1:Int))))]) <|
 .rT
theorem fI_RestsOk x0:qft aI_RestsOk 163 [Sc.val .l x0] (tI_RestsOk x0) :=fitK (by kernel_rfl)
def aI_RatesOk:An:=⟨[(5,[.s 21],[.o (.o (.i .i64))])],[],[]⟩
def tI_RatesOk (x0:qy5):T :=
 .qc7 119 [.string x0.1] fun y1 =>
 .bF y1 <|
 .br (decide ((↑x0.2.1.n:Int) > (12:Int))) (
  .rF) <|
 .mo (.mk 247) (.v (.o (.x))) fun y2 =>
 .lp [.o (.o (.i .i64))] [.v (.int .i64 0)] fun y3 =>
 .br (decide (y3.1<(↑x0.2.1.n:Int))) (
  .el x0.2.1.1 (x0.2.1.n) y3.1 fun y4 =>
  .ql36 (y4.add (Int.toNat y3.1*(5:Nat))) fun y5 =>
  .qc7 208 [qv7 y5] fun y6 =>
  .bF y6 <|
 .mo (.lk 247 (y2.1) (Sh1.val (.g [.s,.s]) (y5.1,y5.2.1,())) false) (.v (.o (.b))) fun y7 =>
  .br y7 (
   .rF) <|
 .mo (.up 247 (y2.1) (Sh1.val (.g [.s,.s]) (y5.1,y5.2.1,())) (.bool (true))) (.t []) fun _ =>
  .nx 0 [.v (.int .i64 (IntKind.i64.wrap (y3.1+(1:Int))))]) <|
 .rT
theorem fI_RatesOk x0:qft aI_RatesOk 164 [qv5 x0] (tI_RatesOk x0) :=fitK (by kernel_rfl)
def aI_bookCopy:An:=⟨[(3,[.s 15,.c 3 0],[.o (.o (.i .i64)),.o (.o (.l))])],[],[]⟩
def tI_bookCopy (x0:qy4):T :=
 .rq ((0:Int)≤(0:Int)∧(0:Int)≤IntKind.i64.wrap ((↑x0.1.n:Int)+(1:Int))∧(↑(64:Nat):Int)*IntKind.i64.wrap ((↑x0.1.n:Int)+(1:Int))≤(281474976710656:Int)∧IntKind.i64.wrap ((↑x0.1.n:Int)+(1:Int))≤(9223372036854775807:Int)) <|
 .fz (Int.toNat (0:Int)) [] 100 fun b1 c1 =>
 .lp [.o (.o (.i .i64)),.o (.o (.l))] [.v (.int .i64 0),.v (.slice (some { block:=b1,off:=(0:Nat):Addr }) (Int.toNat (0:Int)) (c1))] fun y2 =>
 .br (decide (y2.1<(↑x0.1.n:Int))) (
  .el x0.1.1 (x0.1.n) y2.1 fun y3 =>
  .ql24 (y3.add (Int.toNat y2.1*(4:Nat))) fun y4 =>
  .rg <|
 .qc8 44 [qv2 y4.2] fun y5 =>
  .rq ([Value.string y4.1,Value.string y5.1,Value.bool y5.2.1,Value.slice y5.2.2.1.1 y5.2.2.1.n y5.2.2.1.c].length=(1:Nat)*(4:Nat)) <|
 .rq (one [Value.string y4.1,Value.string y5.1,Value.bool y5.2.1,Value.slice y5.2.2.1.1 y5.2.2.1.n y5.2.2.1.c]=true) <|
 .ap ({ a:=y2.2.1.1,n:=y2.2.1.n,c:=y2.2.1.c:SlV }) 4 64 [.string y4.1,.string y5.1,.bool y5.2.1,Sc.val .l y5.2.2.1] ((1:Nat)) 100 fun y6 =>
  .nx 0 [.v (.int .i64 (IntKind.i64.wrap (y2.1+(1:Int)))),.v (Sc.val .l y6)]) <|
 .ret [qv4 y2.2]
theorem fI_bookCopy x0:qft aI_bookCopy 165 [qv4 x0] (tI_bookCopy x0) :=fitK (by kernel_rfl)
def aI_restsCopy:An:=⟨[(3,[.s 3,.s 9],[.o (.o (.l)),.o (.o (.i .i64))])],[],[]⟩
def tI_restsCopy (x0:SlV):T :=
 .fz ((0:Nat)) [] 116 fun b1 c1 =>
 .lp [.o (.o (.l)),.o (.o (.i .i64))] [.v (.slice (some { block:=b1,off:=(0:Nat):Addr }) ((0:Nat)) (c1)),.v (.int .i64 0)] fun y2 =>
 .br (decide (y2.2.1<(↑x0.n:Int))) (
  .el x0.1 (x0.n) y2.2.1 fun y3 =>
  .ql22 (y3.add (Int.toNat y2.2.1*(4:Nat))) fun y4 =>
  .rg <|
 .qc52 58 [qv1 y4.2] fun y5 =>
  .rq ([Value.string y4.1,Value.bool y5.1,Value.slice y5.2.1.1 y5.2.1.n y5.2.1.c,Value.slice y5.2.2.1.1 y5.2.2.1.n y5.2.2.1.c].length=(1:Nat)*(4:Nat)) <|
 .rq (one [Value.string y4.1,Value.bool y5.1,Value.slice y5.2.1.1 y5.2.1.n y5.2.1.c,Value.slice y5.2.2.1.1 y5.2.2.1.n y5.2.2.1.c]=true) <|
 .ap ({ a:=y2.1.1,n:=y2.1.n,c:=y2.1.c:SlV }) 4 72 [.string y4.1,.bool y5.1,Sc.val .l y5.2.1,Sc.val .l y5.2.2.1] ((1:Nat)) 116 fun y6 =>
  .nx 0 [.v (Sc.val .l y6),.v (.int .i64 (IntKind.i64.wrap (y2.2.1+(1:Int))))]) <|
 .ret [Sc.val .l y2.1]
theorem fI_restsCopy x0:qft aI_restsCopy 166 [Sc.val .l x0] (tI_restsCopy x0) :=fitK (by kernel_rfl)
def aI_ratesCopy:An:=⟨[(3,[.s 12,.c 3 0,.c 3 1],[.o (.o (.i .i64)),.o (.o (.s)),.o (.o (.l))])],[],[]⟩
def tI_ratesCopy (x0:qy5):T :=
 .lp [.o (.o (.i .i64)),.o (.o (.s)),.o (.o (.l))] [.v (.int .i64 0),.v (.string x0.1),.v (.slice none 0 0)] fun y1 =>
 .br (decide (y1.1<(↑x0.2.1.n:Int))) (
  .el x0.2.1.1 (x0.2.1.n) y1.1 fun y2 =>
  .ql36 (y2.add (Int.toNat y1.1*(5:Nat))) fun y3 =>
  .rg <|
 .qc53 209 [qv7 y3] fun y4 =>
  .rq ([Value.string y4.1,Value.string y4.2.1,Value.bool y4.2.2.1,Value.slice y4.2.2.2.1.1 y4.2.2.2.1.n y4.2.2.2.1.c,Value.int IntKind.i64 y4.2.2.2.2.1].length=(1:Nat)*(5:Nat)) <|
 .rq (one [Value.string y4.1,Value.string y4.2.1,Value.bool y4.2.2.1,Value.slice y4.2.2.2.1.1 y4.2.2.2.1.n y4.2.2.2.1.c,Value.int IntKind.i64 y4.2.2.2.2.1]=true) <|
 .ap ({ a:=y1.2.2.1.1,n:=y1.2.2.1.n,c:=y1.2.2.1.c:SlV }) 5 72 [.string y4.1,.string y4.2.1,.bool y4.2.2.1,Sc.val .l y4.2.2.2.1,.int .i64 y4.2.2.2.2.1] ((1:Nat)) 204 fun y5 =>
  .nx 0 [.v (.int .i64 (IntKind.i64.wrap (y1.1+(1:Int)))),.v (.string y1.2.1),.v (Sc.val .l y5)]) <|
 .ret [qv5 y1.2]
theorem fI_ratesCopy x0:qft aI_ratesCopy 167 [qv5 x0] (tI_ratesCopy x0) :=fitK (by kernel_rfl)
def aI_subTimes:An:=⟨[(3,[.s 0,.s 7,.s 13],[.o (.o (.l)),.o (.o (.i .i64)),.o (.o (.i .i64))])],[],[]⟩
def tI_subTimes (x0:SlV) (x1:SlV) (x2:Int):T :=
 .lp [.o (.o (.l)),.o (.o (.i .i64)),.o (.o (.i .i64))] [.v (Sc.val .l x0),.v (.int .i64 0),.v (.int .i64 0)] fun y1 =>
 .br (decide (y1.2.2.1<(↑x1.n:Int))) (
  .el x1.1 (x1.n) y1.2.2.1 fun y2 =>
  .ql15 (y2.add (Int.toNat y1.2.2.1*(1:Nat))) fun y3 =>
  .el y1.1.1 (y1.1.n) y1.2.2.1 fun y4 =>
  .ql15 (y4.add (Int.toNat y1.2.2.1*(1:Nat))) fun y5 =>
  .br (decide (IntKind.i64.wrap (IntKind.i64.wrap (y5-IntKind.i64.wrap (y3*x2))-y1.2.1)<(0:Int))) (
   .rq ((1000000000:Int)≠(0:Int)) <|
 .el y1.1.1 (y1.1.n) y1.2.2.1 fun y6 =>
   .st (y6.add (Int.toNat y1.2.2.1*(1:Nat))) [.int .i64 (IntKind.i64.wrap (IntKind.i64.wrap (IntKind.i64.wrap (y5-IntKind.i64.wrap (y3*x2))-y1.2.1)+IntKind.i64.wrap (IntKind.i64.wrap ((IntKind.i64.wrap (IntKind.i64.wrap (IntKind.i64.wrap ((0:Int)-IntKind.i64.wrap (IntKind.i64.wrap (y5-IntKind.i64.wrap (y3*x2))-y1.2.1))+(1000000000:Int))-(1:Int))).tdiv (1000000000:Int))*(1000000000:Int))))] <|
 .nx 0 [.v (Sc.val .l y1.1),.v (.int .i64 (IntKind.i64.wrap ((IntKind.i64.wrap (IntKind.i64.wrap (IntKind.i64.wrap ((0:Int)-IntKind.i64.wrap (IntKind.i64.wrap (y5-IntKind.i64.wrap (y3*x2))-y1.2.1))+(1000000000:Int))-(1:Int))).tdiv (1000000000:Int)))),.v (.int .i64 (IntKind.i64.wrap (y1.2.2.1+(1:Int))))]) <|
 .el y1.1.1 (y1.1.n) y1.2.2.1 fun y6 =>
  .st (y6.add (Int.toNat y1.2.2.1*(1:Nat))) [.int .i64 (IntKind.i64.wrap (IntKind.i64.wrap (y5-IntKind.i64.wrap (y3*x2))-y1.2.1))] <|
 .nx 0 [.v (Sc.val .l y1.1),.v (.int .i64 0),.v (.int .i64 (IntKind.i64.wrap (y1.2.2.1+(1:Int))))]) <|
 .el y1.1.1 (y1.1.n) ((↑x1.n:Int)) fun y2 =>
 .ql15 (y2.add ((↑x1.n:Int).toNat*(1:Nat))) fun y3 =>
 .el y1.1.1 (y1.1.n) ((↑x1.n:Int)) fun y4 =>
 .st (y4.add ((↑x1.n:Int).toNat*(1:Nat))) [.int .i64 (IntKind.i64.wrap (y3-y1.2.1))] <|
 .el y1.1.1 (y1.1.n) ((↑x1.n:Int)) fun y5 =>
 .ql15 (y5.add ((↑x1.n:Int).toNat*(1:Nat))) fun y6 =>
 .ret [.bool (decide (y6<(0:Int)))]
theorem fI_subTimes x0 x1 x2:qft aI_subTimes 168 [Sc.val .l x0,Sc.val .l x1,.int .i64 x2] (tI_subTimes x0 x1 x2) :=fitK (by kernel_rfl)
def aI_addBack:An:=⟨[(2,[.s 0,.s 4,.s 9],[.o (.o (.l)),.o (.o (.i .i64)),.o (.o (.i .i64))])],[],[]⟩
def tI_addBack (x0:SlV) (x1:SlV):T :=
 .lp [.o (.o (.l)),.o (.o (.i .i64)),.o (.o (.i .i64))] [.v (Sc.val .l x0),.v (.int .i64 0),.v (.int .i64 0)] fun y1 =>
 .br (decide (y1.2.2.1<(↑x1.n:Int))) (
  .el x1.1 (x1.n) y1.2.2.1 fun y2 =>
  .ql15 (y2.add (Int.toNat y1.2.2.1*(1:Nat))) fun y3 =>
  .el y1.1.1 (y1.1.n) y1.2.2.1 fun y4 =>
  .ql15 (y4.add (Int.toNat y1.2.2.1*(1:Nat))) fun y5 =>
  .rq ((1000000000:Int)≠(0:Int)) <|
 .el y1.1.1 (y1.1.n) y1.2.2.1 fun y6 =>
  .st (y6.add (Int.toNat y1.2.2.1*(1:Nat))) [.int .i64 ((IntKind.i64.wrap (y1.2.1+IntKind.i64.wrap (y5+y3))).tmod (1000000000:Int))] <|
 .rq ((1000000000:Int)≠(0:Int)) <|
 .nx 0 [.v (Sc.val .l y1.1),.v (.int .i64 (IntKind.i64.wrap ((IntKind.i64.wrap (y1.2.1+IntKind.i64.wrap (y5+y3))).tdiv (1000000000:Int)))),.v (.int .i64 (IntKind.i64.wrap (y1.2.2.1+(1:Int))))]) <|
 .el y1.1.1 (y1.1.n) ((↑x1.n:Int)) fun y2 =>
 .ql15 (y2.add ((↑x1.n:Int).toNat*(1:Nat))) fun y3 =>
 .el y1.1.1 (y1.1.n) ((↑x1.n:Int)) fun y4 =>
 .st (y4.add ((↑x1.n:Int).toNat*(1:Nat))) [.int .i64 (IntKind.i64.wrap (y3+y1.2.1))] <|
 .ret []
theorem fI_addBack x0 x1:qft aI_addBack 169 [Sc.val .l x0,Sc.val .l x1] (tI_addBack x0 x1) :=fitK (by kernel_rfl)
def aI_natGcd:An:=⟨[(1,[.s 0,.s 1],[.o (.o (.l)),.o (.o (.l))])],[],[]⟩
def tI_natGcd (x0:SlV) (x1:SlV):T :=
 .lp [.o (.o (.l)),.o (.o (.l))] [.v (Sc.val .l x0),.v (Sc.val .l x1)] fun y1 =>
 .br (decide ((↑y1.2.1.n:Int) > (0:Int))) (
  .qc34 49 [Sc.val .l y1.1,Sc.val .l y1.2.1] fun y2 =>
  .nx 0 [.v (Sc.val .l y1.2.1),.v (Sc.val .l y2.2.1)]) <|
 .qc6 63 [Sc.val .l y1.1] fun y2 =>
 .ret [Sc.val .l y2]
theorem fI_natGcd x0 x1:qft aI_natGcd 170 [Sc.val .l x0,Sc.val .l x1] (tI_natGcd x0 x1) :=fitK (by kernel_rfl)
def tL_szAcct (x0:qy8) (x1:Int):T :=
 .br (decide (IntKind.i64.wrap (x1-(↑(ByteArray.size x0.1):Int))<(0:Int))) (
  .rM) <|
 .qc0 24 [qv2 x0.2,.int .i64 (IntKind.i64.wrap (x1-(↑(ByteArray.size x0.1):Int)))] fun y1 =>
 .br (decide (y1<(0:Int))) (
  .rM) <|
 .ret [.int .i64 y1]
theorem fL_szAcct x0 x1:qft qa0 171 [qv8 x0,.int .i64 x1] (tL_szAcct x0 x1) :=fitK (by kernel_rfl)
def tL_szRat (x0:qy2) (x1:Int):T :=
 .qc0 70 [qv0 (x0.1,x0.2.1,()),.int .i64 x1] fun y1 =>
 .br (decide (y1<(0:Int))) (
  .rM) <|
 .qc0 123 [Sc.val .l x0.2.2.1,.int .i64 y1] fun y2 =>
 .br (decide (y2<(0:Int))) (
  .rM) <|
 .ret [.int .i64 y2]
theorem fL_szRat x0 x1:qft qa0 172 [qv1 x0,.int .i64 x1] (tL_szRat x0 x1) :=fitK (by kernel_rfl)
def tL_szRate (x0:qy6) (x1:Int):T :=
 .br (decide (IntKind.i64.wrap (x1-(↑(ByteArray.size x0.1):Int))<(0:Int))) (
  .rM) <|
 .br (decide (IntKind.i64.wrap (IntKind.i64.wrap (x1-(↑(ByteArray.size x0.1):Int))-(↑(ByteArray.size x0.2.1):Int))<(0:Int))) (
  .rM) <|
 .qc0 210 [qv6 x0.2.2,.int .i64 (IntKind.i64.wrap (IntKind.i64.wrap (x1-(↑(ByteArray.size x0.1):Int))-(↑(ByteArray.size x0.2.1):Int)))] fun y1 =>
 .br (decide (y1<(0:Int))) (
  .rM) <|
 .ret [.int .i64 y1]
theorem fL_szRate x0 x1:qft qa0 173 [qv7 x0,.int .i64 x1] (tL_szRate x0 x1) :=fitK (by kernel_rfl)
def tS_RatOk (x0:qy2):T :=
 .qc7 177 [qv0 (x0.1,x0.2.1,())] fun y1 =>
 .bF y1 <|
 .qc7 211 [Sc.val .l x0.2.2.1] fun y2 =>
 .bF y2 <|
 .br ((↑x0.2.2.1.n:Int) == (0:Int)) (
  .rF) <|
 .br (decide ((↑x0.2.2.1.n:Int) > (18:Int))) (
  .rF) <|
 .br (decide ((↑x0.2.1.n:Int) > (18:Int))) (
  .rF) <|
 .qc6 213 [Sc.val .l x0.2.1,Sc.val .l x0.2.2.1] fun y3 =>
 .fz ((1:Nat)) [.int .i64 1] 3 fun b4 c4 =>
 .qc0 212 [Sc.val .l y3,.slice (some { block:=b4,off:=(0:Nat):Addr }) ((1:Nat)) (c4)] fun y5 =>
 .ret [.bool (y5 == (0:Int))]
theorem fS_RatOk x0:qft qa0 174 [qv1 x0] (tS_RatOk x0) :=fitK (by kernel_rfl)
def tS_RateOk (x0:qy6):T :=
 .qc7 154 [.string x0.1] fun y1 =>
 .br y1 (
  .qc7 154 [.string x0.2.1] fun y2 =>
  .br y2 (
   .br (!ByteArray.toList x0.1 == ByteArray.toList x0.2.1) (
    .qc7 214 [qv6 x0.2.2] fun y3 =>
    .br y3 (
     .qc0 215 [qv0 (x0.2.2.1,x0.2.2.2.1,())] fun y4 =>
     .br (decide (y4 > (0:Int))) (
      .ret [.bool (decide ((↑x0.2.2.2.1.n:Int)≤(2:Int)))]) <|
 .rF) <|
 .rF) <|
 .rF) <|
 .rF) <|
 .rF
theorem fS_RateOk x0:qft qa0 175 [qv7 x0] (tS_RateOk x0) :=fitK (by kernel_rfl)
def aS_l10At:An:=⟨[(2,[.s 11],[.o (.o (.i .i64))])],[],[]⟩
def tS_l10At (x0:SlV) (x1:ByteArray) (x2:ByteArray):T :=
 .lp [.o (.o (.i .i64))] [.v (.int .i64 0)] fun y1 =>
 .br (decide (y1.1<(↑x0.n:Int))) (
  .el x0.1 (x0.n) y1.1 fun y2 =>
  .ql36 (y2.add (Int.toNat y1.1*(5:Nat))) fun y3 =>
  .br (ByteArray.toList y3.1 == x1.toList) (
   .br (ByteArray.toList y3.2.1 == x2.toList) (
    .ret [.int .i64 y1.1]) <|
 .nx 0 [.v (.int .i64 (IntKind.i64.wrap (y1.1+(1:Int))))]) <|
 .nx 0 [.v (.int .i64 (IntKind.i64.wrap (y1.1+(1:Int))))]) <|
 .rM
theorem fS_l10At x0 x1 x2:qft aS_l10At 176 [Sc.val .l x0,.string x1,.string x2] (tS_l10At x0 x1 x2) :=fitK (by kernel_rfl)
def tS_IntOk (x0:qy0):T :=
 .qc7 211 [Sc.val .l x0.2.1] fun y1 =>
 .br y1 (
  .br (!x0.1) (
   .rT) <|
 .ret [.bool (decide ((↑x0.2.1.n:Int) > (0:Int)))]) <|
 .rF
theorem fS_IntOk x0:qft qa0 177 [qv0 x0] (tS_IntOk x0) :=fitK (by kernel_rfl)
def tS_FairShare (x0:qy0) (x1:SlV) (x2:Int):T :=
 .qc7 75 [Sc.val .l x1] fun y1 =>
 .bn y1 (.ret [qv1 ((false),nilS,nilS,()),.bool (false)]) <|
 .qc7 129 [.int .i64 x2,.int .i64 0,.int .i64 (IntKind.i64.wrap ((↑x1.n:Int)-(1:Int)))] fun y2 =>
 .bn y2 (.ret [qv1 ((false),nilS,nilS,()),.bool (false)]) <|
 .qc7 177 [qv0 x0] fun y3 =>
 .bn y3 (.ret [qv1 ((false),nilS,nilS,()),.bool (false)]) <|
 .rg <|
 .el x1.1 (x1.n) x2 fun y4 =>
 .ql17 (y4.add (x2.toNat*(1:Nat))) fun y5 =>
 .qc2 158 [.int .i64 y5] fun y6 =>
 .qc2 200 [Sc.val .l x0.2.1,Sc.val .l y6] fun y7 =>
 .qc25 130 [Sc.val .l x1] fun y8 =>
 .qc2 158 [.int .i64 y8] fun y9 =>
 .qc38 202 [.bool x0.1,Sc.val .l y7,Sc.val .l y9] fun y10 =>
 .ret [qv1 y10.1,.bool y10.2.1]
theorem fS_FairShare x0 x1 x2:qft qa0 178 [qv0 x0,Sc.val .l x1,.int .i64 x2] (tS_FairShare x0 x1 x2) :=fitK (by kernel_rfl)
def tS_RatRound (x0:qy2) (x1:Int):T :=
 .qc7 174 [qv1 x0] fun y1 =>
 .bn y1 (.ret [qv0 ((false),nilS,()),.bool (false)]) <|
 .qc7 216 [.int .i64 x1] fun y2 =>
 .bn y2 (.ret [qv0 ((false),nilS,()),.bool (false)]) <|
 .qc16 217 [qv1 x0,.int .i64 x1] fun y3 =>
 .ret [qv0 y3,.bool (true)]
theorem fS_RatRound x0 x1:qft qa0 179 [qv1 x0,.int .i64 x1] (tS_RatRound x0 x1) :=fitK (by kernel_rfl)
def tS_l12Size (x0:qy2):T :=
 .qc54 218 [qv1 x0,.int .i64 0] fun y1 =>
 .qc0 156 [qv1 y1.2.1] fun y2 =>
 .br (decide (y2<(0:Int))) (
  .qc38 219 [qv1 y1.2.1] fun y3 =>
  .ret [qv1 y3.1]) <|
 .ret [qv1 y1.2.1]
theorem fS_l12Size x0:qft qa0 180 [qv1 x0] (tS_l12Size x0) :=fitK (by kernel_rfl)
def tS_IntNum (x0:qy0):T :=
 .qc41 220 [Sc.val .l x0.2.1] fun y1 =>
 .bn y1.2.1 (.ret [.int .i64 0,.bool (false)]) <|
 .qc7 177 [qv0 x0] fun y2 =>
 .bn y2 (.ret [.int .i64 0,.bool (false)]) <|
 .br x0.1 (
  .ret [.int .i64 (IntKind.i64.wrap ((0:Int)-y1.1)),.bool (true)]) <|
 .ret [.int .i64 y1.1,.bool (true)]
theorem fS_IntNum x0:qft qa0 181 [qv0 x0] (tS_IntNum x0) :=fitK (by kernel_rfl)
def tS_IntAbs (x0:qy0):T :=
 .qc7 177 [qv0 x0] fun y1 =>
 .bn y1 (.ret [qv0 ((false),nilS,())]) <|
 .qc16 187 [.bool (false),Sc.val .l x0.2.1] fun y2 =>
 .ret [qv0 y2]
theorem fS_IntAbs x0:qft qa0 182 [qv0 x0] (tS_IntAbs x0) :=fitK (by kernel_rfl)
def tS_IntSub (x0:qy0) (x1:qy0):T :=
 .qc7 177 [qv0 x0] fun y1 =>
 .bn y1 (.ret [qv0 ((false),nilS,())]) <|
 .qc7 177 [qv0 x1] fun y2 =>
 .bn y2 (.ret [qv0 ((false),nilS,())]) <|
 .rg <|
 .qc21 132 [qv0 x1] fun y3 =>
 .qc16 201 [qv0 x0,qv0 y3] fun y4 =>
 .ret [qv0 y4]
theorem fS_IntSub x0 x1:qft qa0 183 [qv0 x0,qv0 x1] (tS_IntSub x0 x1) :=fitK (by kernel_rfl)
def aS_IntSum:An:=⟨[(3,[.s 9,.c 2 0,.c 2 1,.c 3 0,.c 3 1],[.o (.o (.i .i64)),.o (.o (.b)),.o (.o (.l)),.o (.o (.b)),.o (.o (.l))])],[],[]⟩
def tS_IntSum (x0:SlV):T :=
 .lp [.o (.o (.i .i64)),.o (.o (.b)),.o (.o (.l)),.o (.o (.b)),.o (.o (.l))] [.v (.int .i64 0),.v (.bool (false)),.v (.slice none 0 0),.v (.bool (false)),.v (.slice none 0 0)] fun y1 =>
 .br (decide (y1.1<(↑x0.n:Int))) (
  .el x0.1 (x0.n) y1.1 fun y2 =>
  .ql23 (y2.add (Int.toNat y1.1*(2:Nat))) fun y3 =>
  .qc7 177 [qv0 y3] fun y4 =>
  .bn y4 (.ret [qv0 ((false),nilS,())]) <|
 .qc16 186 [qv0 y1.2.2.2,qv0 y3] fun y5 =>
  .nx 0 [.v (.int .i64 (IntKind.i64.wrap (y1.1+(1:Int)))),.v (.bool y1.2.1),.v (Sc.val .l y1.2.2.1),.v (.bool y5.1),.v (Sc.val .l y5.2.1)]) <|
 .ret [qv0 y1.2.2.2]
theorem fS_IntSum x0:qft aS_IntSum 184 [Sc.val .l x0] (tS_IntSum x0) :=fitK (by kernel_rfl)
def tS_RatCmp (x0:qy2) (x1:qy2):T :=
 .qc7 174 [qv1 x0] fun y1 =>
 .bn y1 (.ret [.int .i64 0]) <|
 .qc7 174 [qv1 x1] fun y2 =>
 .bn y2 (.ret [.int .i64 0]) <|
 .rg <|
 .qc2 200 [Sc.val .l x0.2.1,Sc.val .l x1.2.2.1] fun y3 =>
 .qc21 187 [.bool x0.1,Sc.val .l y3] fun y4 =>
 .qc2 200 [Sc.val .l x1.2.1,Sc.val .l x0.2.2.1] fun y5 =>
 .qc16 187 [.bool x1.1,Sc.val .l y5] fun y6 =>
 .qc0 221 [qv0 y4,qv0 y6] fun y7 =>
 .ret [.int .i64 y7]
theorem fS_RatCmp x0 x1:qft qa0 185 [qv1 x0,qv1 x1] (tS_RatCmp x0 x1) :=fitK (by kernel_rfl)
def tS_IntAdd (x0:qy0) (x1:qy0):T :=
 .qc7 177 [qv0 x0] fun y1 =>
 .bn y1 (.ret [qv0 ((false),nilS,())]) <|
 .qc7 177 [qv0 x1] fun y2 =>
 .bn y2 (.ret [qv0 ((false),nilS,())]) <|
 .qc16 201 [qv0 x0,qv0 x1] fun y3 =>
 .ret [qv0 y3]
theorem fS_IntAdd x0 x1:qft qa0 186 [qv0 x0,qv0 x1] (tS_IntAdd x0 x1) :=fitK (by kernel_rfl)
def tS_l04Make (x0:Bool) (x1:SlV):T :=
 .qc6 222 [Sc.val .l x1] fun y1 =>
 .br x0 (
  .rd ({ a:=y1.1,n:=y1.n,c:=y1.c:SlV }) ((1:Nat)) fun y2 =>
  .rq (one y2=true∧((0:Nat)+y1.n)*(8:Nat)≤(140737488355328:Nat)∧(0:Nat)+y1.n≤(9223372036854775807:Nat)) <|
 .fz ((0:Nat)+y1.n) ([]++y2) 3 fun b3 c3 =>
  .ret [qv0 ((decide ((↑y1.n:Int) > (0:Int))),(⟨(some { block:=b3,off:=(0:Nat):Addr }),((0:Nat)+y1.n),(c3)⟩:SlV),())]) <|
 .rd ({ a:=y1.1,n:=y1.n,c:=y1.c:SlV }) ((1:Nat)) fun y2 =>
 .rq (one y2=true∧((0:Nat)+y1.n)*(8:Nat)≤(140737488355328:Nat)∧(0:Nat)+y1.n≤(9223372036854775807:Nat)) <|
 .fz ((0:Nat)+y1.n) ([]++y2) 3 fun b3 c3 =>
 .ret [qv0 ((false),(⟨(some { block:=b3,off:=(0:Nat):Addr }),((0:Nat)+y1.n),(c3)⟩:SlV),())]
theorem fS_l04Make x0 x1:qft qa0 187 [.bool x0,Sc.val .l x1] (tS_l04Make x0 x1) :=fitK (by kernel_rfl)
def aS_l17Copy:An:=⟨[(3,[.s 10,.c 3 0],[.o (.o (.i .i64)),.o (.o (.l))])],[],[]⟩
def tS_l17Copy (x0:qy4):T :=
 .lp [.o (.o (.i .i64)),.o (.o (.l))] [.v (.int .i64 0),.v (.slice none 0 0)] fun y1 =>
 .br (decide (y1.1<(↑x0.1.n:Int))) (
  .el x0.1.1 (x0.1.n) y1.1 fun y2 =>
  .ql24 (y2.add (Int.toNat y1.1*(4:Nat))) fun y3 =>
  .rg <|
 .qc8 223 [qv2 y3.2] fun y4 =>
  .rq ([Value.string y3.1,Value.string y4.1,Value.bool y4.2.1,Value.slice y4.2.2.1.1 y4.2.2.1.n y4.2.2.1.c].length=(1:Nat)*(4:Nat)) <|
 .rq (one [Value.string y3.1,Value.string y4.1,Value.bool y4.2.1,Value.slice y4.2.2.1.1 y4.2.2.1.n y4.2.2.1.c]=true) <|
 .ap ({ a:=y1.2.1.1,n:=y1.2.1.n,c:=y1.2.1.c:SlV }) 4 64 [.string y3.1,.string y4.1,.bool y4.2.1,Sc.val .l y4.2.2.1] ((1:Nat)) 100 fun y5 =>
  .nx 0 [.v (.int .i64 (IntKind.i64.wrap (y1.1+(1:Int)))),.v (Sc.val .l y5)]) <|
 .ret [qv4 y1.2]
theorem fS_l17Copy x0:qft aS_l17Copy 188 [qv4 x0] (tS_l17Copy x0) :=fitK (by kernel_rfl)
def aS_l20Rates:An:=⟨[(3,[.s 12,.c 3 0,.c 3 1],[.o (.o (.i .i64)),.o (.o (.s)),.o (.o (.l))])],[],[]⟩
def tS_l20Rates (x0:qy5):T :=
 .lp [.o (.o (.i .i64)),.o (.o (.s)),.o (.o (.l))] [.v (.int .i64 0),.v (.string x0.1),.v (.slice none 0 0)] fun y1 =>
 .br (decide (y1.1<(↑x0.2.1.n:Int))) (
  .el x0.2.1.1 (x0.2.1.n) y1.1 fun y2 =>
  .ql36 (y2.add (Int.toNat y1.1*(5:Nat))) fun y3 =>
  .rg <|
 .es [] 3 fun b4 =>
  .ra ({ a:=y3.2.2.2.1.1,n:=y3.2.2.2.1.n,c:=y3.2.2.2.1.c:SlV }) ((1:Nat)) fun y5 =>
  .rq (one y5=true∧y3.2.2.2.1.n*(8:Nat)≤(140737488355328:Nat)∧y3.2.2.2.1.n≤(9223372036854775807:Nat)) <|
 .br (decide (y3.2.2.2.1.n=(0:Nat))) (
   .rq ([Value.string y3.1,Value.string y3.2.1,Value.bool y3.2.2.1,Value.slice (some { block:=b4,off:=(0:Nat):Addr }) (0:Nat) (0:Nat),Value.int IntKind.i64 y3.2.2.2.2.1].length=(1:Nat)*(5:Nat)) <|
 .rq (one [Value.string y3.1,Value.string y3.2.1,Value.bool y3.2.2.1,Value.slice (some { block:=b4,off:=(0:Nat):Addr }) (0:Nat) (0:Nat),Value.int IntKind.i64 y3.2.2.2.2.1]=true) <|
 .ap ({ a:=y1.2.2.1.1,n:=y1.2.2.1.n,c:=y1.2.2.1.c:SlV }) 5 72 [.string y3.1,.string y3.2.1,.bool y3.2.2.1,.slice (some { block:=b4,off:=(0:Nat):Addr }) ((0:Nat)) ((0:Nat)),.int .i64 y3.2.2.2.2.1] ((1:Nat)) 204 fun y6 =>
   .nx 0 [.v (.int .i64 (IntKind.i64.wrap (y1.1+(1:Int)))),.v (.string y1.2.1),.v (Sc.val .l y6)]) <|
 .fz (y3.2.2.2.1.n) y5 3 fun b6 c6 =>
  .rq ([Value.string y3.1,Value.string y3.2.1,Value.bool y3.2.2.1,Value.slice (some { block:=b6,off:=(0:Nat):Addr }) y3.2.2.2.1.n c6,Value.int IntKind.i64 y3.2.2.2.2.1].length=(1:Nat)*(5:Nat)) <|
 .rq (one [Value.string y3.1,Value.string y3.2.1,Value.bool y3.2.2.1,Value.slice (some { block:=b6,off:=(0:Nat):Addr }) y3.2.2.2.1.n c6,Value.int IntKind.i64 y3.2.2.2.2.1]=true) <|
 .ap ({ a:=y1.2.2.1.1,n:=y1.2.2.1.n,c:=y1.2.2.1.c:SlV }) 5 72 [.string y3.1,.string y3.2.1,.bool y3.2.2.1,.slice (some { block:=b6,off:=(0:Nat):Addr }) (y3.2.2.2.1.n) (c6),.int .i64 y3.2.2.2.2.1] ((1:Nat)) 204 fun y7 =>
  .nx 0 [.v (.int .i64 (IntKind.i64.wrap (y1.1+(1:Int)))),.v (.string y1.2.1),.v (Sc.val .l y7)]) <|
 .ret [qv5 y1.2]
theorem fS_l20Rates x0:qft aS_l20Rates 189 [qv5 x0] (tS_l20Rates x0) :=fitK (by kernel_rfl)
def tS_MoneyAdd (x0:qy1) (x1:qy1):T :=
 .qc7 224 [qv2 x0,qv2 x1] fun y1 =>
 .bn y1 (.ret [qv2 (({ data:={ toList:=[]:Array UInt8 }:ByteArray }),(false),nilS,()),.bool (false)]) <|
 .rg <|
 .qc21 186 [qv0 x0.2,qv0 x1.2] fun y2 =>
 .qc46 225 [.string x0.1,qv0 y2] fun y3 =>
 .ret [qv2 y3.1,.bool y3.2.1]
theorem fS_MoneyAdd x0 x1:qft qa0 190 [qv2 x0,qv2 x1] (tS_MoneyAdd x0 x1) :=fitK (by kernel_rfl)
def tL_toAcct (x0:qy8):T :=
 .qc3 29 [qv2 x0.2] fun y1 =>
 .ret [qv8 (x0.1,y1.1,y1.2.1,y1.2.2.1,())]
theorem fL_toAcct x0:qft qa0 191 [qv8 x0] (tL_toAcct x0) :=fitK (by kernel_rfl)
def tL_toRat (x0:qy2):T :=
 .qc16 82 [qv0 (x0.1,x0.2.1,())] fun y1 =>
 .qc6 28 [Sc.val .l x0.2.2.1] fun y2 =>
 .ret [qv1 (y1.1,y1.2.1,y2,())]
theorem fL_toRat x0:qft qa0 192 [qv1 x0] (tL_toRat x0) :=fitK (by kernel_rfl)
def tL_toRate (x0:qy6):T :=
 .qc55 226 [qv6 x0.2.2] fun y1 =>
 .ret [qv7 (x0.1,x0.2.1,y1.1,y1.2.1,((y1.2.2.1):Int),())]
theorem fL_toRate x0:qft qa0 193 [qv7 x0] (tL_toRate x0) :=fitK (by kernel_rfl)
def tL_eqAcct (x0:qy8) (x1:qy8):T :=
 .br (!ByteArray.toList x0.1 == ByteArray.toList x1.1) (
  .rF) <|
 .qc7 34 [qv2 x0.2,qv2 x1.2] fun y1 =>
 .bF y1 <|
 .rT
theorem fL_eqAcct x0 x1:qft qa0 194 [qv8 x0,qv8 x1] (tL_eqAcct x0 x1) :=fitK (by kernel_rfl)
def tL_eqRat (x0:qy2) (x1:qy2):T :=
 .qc7 86 [qv0 (x0.1,x0.2.1,()),qv0 (x1.1,x1.2.1,())] fun y1 =>
 .bF y1 <|
 .qc7 33 [Sc.val .l x0.2.2.1,Sc.val .l x1.2.2.1] fun y2 =>
 .bF y2 <|
 .rT
theorem fL_eqRat x0 x1:qft qa0 195 [qv1 x0,qv1 x1] (tL_eqRat x0 x1) :=fitK (by kernel_rfl)
def tL_eqRate (x0:qy6) (x1:qy6):T :=
 .br (!ByteArray.toList x0.1 == ByteArray.toList x1.1) (
  .rF) <|
 .br (!ByteArray.toList x0.2.1 == ByteArray.toList x1.2.1) (
  .rF) <|
 .qc7 227 [qv6 x0.2.2,qv6 x1.2.2] fun y1 =>
 .bF y1 <|
 .rT
theorem fL_eqRate x0 x1:qft qa0 196 [qv7 x0,qv7 x1] (tL_eqRate x0 x1) :=fitK (by kernel_rfl)
def aS_l02Mul:An:=⟨[(5,[.s 5,.s 28],[.a 3,.o (.o (.i .i64))]),(9,[.s 5,.s 8,.s 35],[.a 3,.o (.o (.i .i64)),.o (.o (.i .i64))])],[],[]⟩
def tS_l02Mul (x0:SlV) (x1:SlV):T :=
 .br ((↑x0.n:Int) == (0:Int)) (
  .ret [.slice none 0 0]) <|
 .br ((↑x1.n:Int) == (0:Int)) (
  .ret [.slice none 0 0]) <|
 .rq ((0:Int)≤IntKind.i64.wrap ((↑x0.n:Int)+(↑x1.n:Int))∧IntKind.i64.wrap ((↑x0.n:Int)+(↑x1.n:Int))≤IntKind.i64.wrap ((↑x0.n:Int)+(↑x1.n:Int))∧(↑(8:Nat):Int)*IntKind.i64.wrap ((↑x0.n:Int)+(↑x1.n:Int))≤(281474976710656:Int)∧IntKind.i64.wrap ((↑x0.n:Int)+(↑x1.n:Int))≤(9223372036854775807:Int)) <|
 .lp [.a 3,.o (.o (.i .i64))] [.a 3 ((IntKind.i64.wrap ((↑x0.n:Int)+(↑x1.n:Int))).toNat) ((madeCells { toList:=[Value.int IntKind.i64 (0:Int)]:Array Value } ((IntKind.i64.wrap ((↑x0.n:Int)+(↑x1.n:Int))).toNat*(1:Nat))).toList),.v (.int .i64 0)] fun y1 =>
 .br (decide (y1.2.1<(↑x0.n:Int))) (
  .el x0.1 (x0.n) y1.2.1 fun y2 =>
  .ql15 (y2.add (Int.toNat y1.2.1*(1:Nat))) fun y3 =>
  .lp [.a 3,.o (.o (.i .i64)),.o (.o (.i .i64))] [.a 3 y1.1.1 y1.1.2,.v (.int .i64 0),.v (.int .i64 0)] fun y4 =>
  .br (decide (y4.2.2.1<(↑x1.n:Int))) (
   .el x1.1 (x1.n) y4.2.2.1 fun y5 =>
   .ql15 (y5.add (Int.toNat y4.2.2.1*(1:Nat))) fun y6 =>
   .rq ((0:Int)≤IntKind.i64.wrap (y1.2.1+y4.2.2.1)∧IntKind.i64.wrap (y1.2.1+y4.2.2.1)<(↑y4.1.1:Int)) <|
 .xs y4.1.2 ((IntKind.i64.wrap (y1.2.1+y4.2.2.1)).toNat*(1:Nat)) (.o (.i .i64)) fun y7 =>
   .rq ((1000000000:Int)≠(0:Int)) <|
 .rq ((0:Int)≤IntKind.i64.wrap (y1.2.1+y4.2.2.1)∧IntKind.i64.wrap (y1.2.1+y4.2.2.1)<(↑y4.1.1:Int)) <|
 .rq ((IntKind.i64.wrap (y1.2.1+y4.2.2.1)).toNat*(1:Nat)+[Value.int IntKind.i64 ((IntKind.i64.wrap (IntKind.i64.wrap (y7+IntKind.i64.wrap (y3*y6))+y4.2.1)).tmod (1000000000:Int))].length≤y4.1.2.length) <|
 .rq ((1000000000:Int)≠(0:Int)) <|
 .nx 1 [.a 3 y4.1.1 (setl y4.1.2 ((IntKind.i64.wrap (y1.2.1+y4.2.2.1)).toNat*(1:Nat)) [Value.int IntKind.i64 ((IntKind.i64.wrap (IntKind.i64.wrap (y7+IntKind.i64.wrap (y3*y6))+y4.2.1)).tmod (1000000000:Int))]),.v (.int .i64 (IntKind.i64.wrap ((IntKind.i64.wrap (IntKind.i64.wrap (y7+IntKind.i64.wrap (y3*y6))+y4.2.1)).tdiv (1000000000:Int)))),.v (.int .i64 (IntKind.i64.wrap (y4.2.2.1+(1:Int))))]) <|
 .rq ((0:Int)≤IntKind.i64.wrap (y1.2.1+(↑x1.n:Int))∧IntKind.i64.wrap (y1.2.1+(↑x1.n:Int))<(↑y4.1.1:Int)) <|
 .rq ((IntKind.i64.wrap (y1.2.1+(↑x1.n:Int))).toNat*(1:Nat)+[(Sh1.o (Sc.i IntKind.i64)).val y4.2.1].length≤y4.1.2.length) <|
 .nx 0 [.a 3 y4.1.1 (setl y4.1.2 ((IntKind.i64.wrap (y1.2.1+(↑x1.n:Int))).toNat*(1:Nat)) [(Sh1.o (Sc.i IntKind.i64)).val y4.2.1]),.v (.int .i64 (IntKind.i64.wrap (y1.2.1+(1:Int))))]) <|
 .fz y1.1.1 y1.1.2 3 fun b2 c2 =>
 .qc6 205 [.slice (some { block:=b2,off:=(0:Nat):Addr }) y1.1.1 (c2)] fun y3 =>
 .ret [Sc.val .l y3]
theorem fS_l02Mul x0 x1:qft aS_l02Mul 200 [Sc.val .l x0,Sc.val .l x1] (tS_l02Mul x0 x1) :=fitK (by kernel_rfl)
def tS_l04Add (x0:qy0) (x1:qy0):T :=
 .br (x0.1 == x1.1) (
  .rg <|
 .qc2 228 [Sc.val .l x0.2.1,Sc.val .l x1.2.1] fun y1 =>
  .qc16 187 [.bool x0.1,Sc.val .l y1] fun y2 =>
  .ret [qv0 y2]) <|
 .qc0 212 [Sc.val .l x0.2.1,Sc.val .l x1.2.1] fun y1 =>
 .br (decide (y1≥(0:Int))) (
  .rg <|
 .qc2 229 [Sc.val .l x0.2.1,Sc.val .l x1.2.1] fun y2 =>
  .qc16 187 [.bool x0.1,Sc.val .l y2] fun y3 =>
  .ret [qv0 y3]) <|
 .rg <|
 .qc2 229 [Sc.val .l x1.2.1,Sc.val .l x0.2.1] fun y2 =>
 .qc16 187 [.bool x1.1,Sc.val .l y2] fun y3 =>
 .ret [qv0 y3]
theorem fS_l04Add x0 x1:qft qa0 201 [qv0 x0,qv0 x1] (tS_l04Add x0 x1) :=fitK (by kernel_rfl)
def tS_l05Low (x0:Bool) (x1:SlV) (x2:SlV):T :=
 .qc6 205 [Sc.val .l x1] fun y1 =>
 .qc6 205 [Sc.val .l x2] fun y2 =>
 .br ((↑y2.n:Int) == (0:Int)) (
  .ret [qv1 ((false),nilS,nilS,()),.bool (false)]) <|
 .qc6 230 [Sc.val .l y1,Sc.val .l y2] fun y3 =>
 .qc34 231 [Sc.val .l y1,Sc.val .l y3] fun y4 =>
 .qc34 231 [Sc.val .l y2,Sc.val .l y3] fun y5 =>
 .br (decide ((↑y4.1.n:Int) > (18:Int))) (
  .ret [qv1 ((false),nilS,nilS,()),.bool (false)]) <|
 .br (decide ((↑y5.1.n:Int) > (18:Int))) (
  .ret [qv1 ((false),nilS,nilS,()),.bool (false)]) <|
 .qc16 187 [.bool x0,Sc.val .l y4.1] fun y6 =>
 .rd ({ a:=y5.1.1,n:=y5.1.n,c:=y5.1.c:SlV }) ((1:Nat)) fun y7 =>
 .rq (one y7=true∧((0:Nat)+y5.1.n)*(8:Nat)≤(140737488355328:Nat)∧(0:Nat)+y5.1.n≤(9223372036854775807:Nat)) <|
 .fz ((0:Nat)+y5.1.n) ([]++y7) 3 fun b8 c8 =>
 .ret [qv1 (y6.1,y6.2.1,(⟨(some { block:=b8,off:=(0:Nat):Addr }),((0:Nat)+y5.1.n),(c8)⟩:SlV),()),.bool (true)]
theorem fS_l05Low x0 x1 x2:qft qa0 202 [.bool x0,Sc.val .l x1,Sc.val .l x2] (tS_l05Low x0 x1 x2) :=fitK (by kernel_rfl)
def tS_l19Rat (x0:qy2):T :=
 .rg <|
 .es [] 3 fun b1 =>
 .ra ({ a:=x0.2.1.1,n:=x0.2.1.n,c:=x0.2.1.c:SlV }) ((1:Nat)) fun y2 =>
 .rq (one y2=true∧x0.2.1.n*(8:Nat)≤(140737488355328:Nat)∧x0.2.1.n≤(9223372036854775807:Nat)) <|
 .br (decide (x0.2.1.n=(0:Nat))) (
  .es [] 3 fun b3 =>
  .ra ({ a:=x0.2.2.1.1,n:=x0.2.2.1.n,c:=x0.2.2.1.c:SlV }) ((1:Nat)) fun y4 =>
  .rq (one y4=true∧x0.2.2.1.n*(8:Nat)≤(140737488355328:Nat)∧x0.2.2.1.n≤(9223372036854775807:Nat)) <|
 .br (decide (x0.2.2.1.n=(0:Nat))) (
   .ret [qv1 (x0.1,(⟨(some { block:=b1,off:=(0:Nat):Addr }),((0:Nat)),((0:Nat))⟩:SlV),(⟨(some { block:=b3,off:=(0:Nat):Addr }),((0:Nat)),((0:Nat))⟩:SlV),())]) <|
 .fz (x0.2.2.1.n) y4 3 fun b5 c5 =>
  .ret [qv1 (x0.1,(⟨(some { block:=b1,off:=(0:Nat):Addr }),((0:Nat)),((0:Nat))⟩:SlV),(⟨(some { block:=b5,off:=(0:Nat):Addr }),(x0.2.2.1.n),(c5)⟩:SlV),())]) <|
 .fz (x0.2.1.n) y2 3 fun b3 c3 =>
 .es [] 3 fun b4 =>
 .ra ({ a:=x0.2.2.1.1,n:=x0.2.2.1.n,c:=x0.2.2.1.c:SlV }) ((1:Nat)) fun y5 =>
 .rq (one y5=true∧x0.2.2.1.n*(8:Nat)≤(140737488355328:Nat)∧x0.2.2.1.n≤(9223372036854775807:Nat)) <|
 .br (decide (x0.2.2.1.n=(0:Nat))) (
  .ret [qv1 (x0.1,(⟨(some { block:=b3,off:=(0:Nat):Addr }),(x0.2.1.n),(c3)⟩:SlV),(⟨(some { block:=b4,off:=(0:Nat):Addr }),((0:Nat)),((0:Nat))⟩:SlV),())]) <|
 .fz (x0.2.2.1.n) y5 3 fun b6 c6 =>
 .ret [qv1 (x0.1,(⟨(some { block:=b3,off:=(0:Nat):Addr }),(x0.2.1.n),(c3)⟩:SlV),(⟨(some { block:=b6,off:=(0:Nat):Addr }),(x0.2.2.1.n),(c6)⟩:SlV),())]
theorem fS_l19Rat x0:qft qa0 203 [qv1 x0] (tS_l19Rat x0) :=fitK (by kernel_rfl)
def aS_l08Find:An:=⟨[(2,[.s 7,.c 2 0,.c 2 1,.c 2 2,.c 2 3],[.o (.o (.i .i64)),.o (.o (.s)),.o (.o (.s)),.o (.o (.i .i64)),.o (.o (.i .i64))])],[],[]⟩
def tS_l08Find (x0:ByteArray):T :=
 .qc6 232 [] fun y1 =>
 .lp [.o (.o (.i .i64)),.o (.o (.s)),.o (.o (.s)),.o (.o (.i .i64)),.o (.o (.i .i64))] [.v (.int .i64 0),.v (.string ({ data:={ toList:=[]:Array UInt8 }:ByteArray })),.v (.string ({ data:={ toList:=[]:Array UInt8 }:ByteArray })),.v (.int .i64 0),.v (.int .i64 0)] fun y2 =>
 .br (decide (y2.1<(↑y1.n:Int))) (
  .el y1.1 (y1.n) y2.1 fun y3 =>
  .ql56 (y3.add (Int.toNat y2.1*(4:Nat))) fun y4 =>
  .br (ByteArray.toList y4.1 == x0.toList) (
   .ret [qv12 y4]) <|
 .nx 0 [.v (.int .i64 (IntKind.i64.wrap (y2.1+(1:Int)))),.v (.string y2.2.1),.v (.string y2.2.2.1),.v (.int .i64 y2.2.2.2.1),.v (.int .i64 y2.2.2.2.2.1)]) <|
 .ret [qv12 (({ data:={ toList:=[]:Array UInt8 }:ByteArray }),({ data:={ toList:=[]:Array UInt8 }:ByteArray }),(((0:Int)):Int),(((0:Int)):Int),())]
theorem fS_l08Find x0:qft aS_l08Find 204 [.string x0] (tS_l08Find x0) :=fitK (by kernel_rfl)
def aS_l02Trim:An:=⟨[(2,[.s 3],[.o (.o (.i .i64))])],[],[]⟩
def tS_l02Trim (x0:SlV):T :=
 .lp [.o (.o (.i .i64))] [.v (.int .i64 ((↑x0.n:Int)))] fun y1 =>
 .br (decide (y1.1 > (0:Int))) (
  .el x0.1 (x0.n) (IntKind.i64.wrap (y1.1-(1:Int))) fun y2 =>
  .ql15 (y2.add ((IntKind.i64.wrap (y1.1-(1:Int))).toNat*(1:Nat))) fun y3 =>
  .br (y3 == (0:Int)) (
   .nx 0 [.v (.int .i64 (IntKind.i64.wrap (y1.1-(1:Int))))]) <|
 .rq ((0:Int)≤(0:Int)∧(0:Int)≤y1.1∧y1.1≤(↑x0.c:Int)∧(↑x0.c:Int)≤(↑x0.c:Int)) <|
 .ret [.slice (if (↑x0.c:Int).toNat=Int.toNat (0:Int) then x0.1 else Option.map (fun x=>x.add (Int.toNat (0:Int)*Go.Proofs.Tryz.prog.types[(3:Nat)].size)) x0.1) (Int.toNat y1.1-Int.toNat (0:Int)) ((↑x0.c:Int).toNat-Int.toNat (0:Int))]) <|
 .rq ((0:Int)≤(0:Int)∧(0:Int)≤y1.1∧y1.1≤(↑x0.c:Int)∧(↑x0.c:Int)≤(↑x0.c:Int)) <|
 .ret [.slice (if (↑x0.c:Int).toNat=Int.toNat (0:Int) then x0.1 else Option.map (fun x=>x.add (Int.toNat (0:Int)*Go.Proofs.Tryz.prog.types[(3:Nat)].size)) x0.1) (Int.toNat y1.1-Int.toNat (0:Int)) ((↑x0.c:Int).toNat-Int.toNat (0:Int))]
theorem fS_l02Trim x0:qft aS_l02Trim 205 [Sc.val .l x0] (tS_l02Trim x0) :=fitK (by kernel_rfl)
def aI_IsWord:An:=⟨[(4,[.s 3],[.o (.o (.i .i64))])],[],[]⟩
def tI_IsWord (x0:ByteArray):T :=
 .br (decide ((↑x0.size:Int)<(1:Int))) (
  .rF) <|
 .br (decide ((↑x0.size:Int) > (12:Int))) (
  .rF) <|
 .rq ((0:Int)≤(0:Int)∧(0:Int)<(↑x0.size:Int)) <|
 .qc7 233 [.int .u8 (at0 x0 (Int.toNat (0:Int)))] fun y1 =>
 .bF y1 <|
 .lp [.o (.o (.i .i64))] [.v (.int .i64 1)] fun y2 =>
 .br (decide (y2.1<(↑x0.size:Int))) (
  .rq ((0:Int)≤y2.1∧y2.1<(↑x0.size:Int)) <|
 .qc7 233 [.int .u8 (at0 x0 (Int.toNat y2.1))] fun y3 =>
  .bn y3 (.rq ((0:Int)≤y2.1∧y2.1<(↑x0.size:Int)) <|
 .qc7 234 [.int .u8 (at0 x0 (Int.toNat y2.1))] fun y4 =>
   .bF y4 <|
 .nx 0 [.v (.int .i64 (IntKind.i64.wrap (y2.1+(1:Int))))]) <|
 .nx 0 [.v (.int .i64 (IntKind.i64.wrap (y2.1+(1:Int))))]) <|
 .rT
theorem fI_IsWord x0:qft aI_IsWord 206 [.string x0] (tI_IsWord x0) :=fitK (by kernel_rfl)
def tI_RatSign (x0:qy2):T :=
 .qc7 116 [qv1 x0] fun y1 =>
 .bn y1 (.ret [.int .i64 0]) <|
 .qc0 118 [qv0 (x0.1,x0.2.1,())] fun y2 =>
 .ret [.int .i64 y2]
theorem fI_RatSign x0:qft qa0 207 [qv1 x0] (tI_RatSign x0) :=fitK (by kernel_rfl)
def tI_RateOk (x0:qy6):T :=
 .qc7 119 [.string x0.1] fun y1 =>
 .br y1 (
  .qc7 119 [.string x0.2.1] fun y2 =>
  .br y2 (
   .br (!ByteArray.toList x0.1 == ByteArray.toList x0.2.1) (
    .qc7 235 [qv6 x0.2.2] fun y3 =>
    .br y3 (
     .qc0 118 [qv0 (x0.2.2.1,x0.2.2.2.1,())] fun y4 =>
     .br (decide (y4 > (0:Int))) (
      .ret [.bool (decide ((↑x0.2.2.2.1.n:Int)≤(2:Int)))]) <|
 .rF) <|
 .rF) <|
 .rF) <|
 .rF) <|
 .rF
theorem fI_RateOk x0:qft qa0 208 [qv7 x0] (tI_RateOk x0) :=fitK (by kernel_rfl)
def tI_rateCopy (x0:qy6):T :=
 .rg <|
 .qc57 236 [qv6 x0.2.2] fun y1 =>
 .ret [qv7 (x0.1,x0.2.1,y1.1,y1.2.1,((y1.2.2.1):Int),())]
theorem fI_rateCopy x0:qft qa0 209 [qv7 x0] (tI_rateCopy x0) :=fitK (by kernel_rfl)
def tL_szDec (x0:qy7) (x1:Int):T :=
 .qc0 70 [qv0 (x0.1,x0.2.1,()),.int .i64 x1] fun y1 =>
 .br (decide (y1<(0:Int))) (
  .rM) <|
 .ret [.int .i64 y1]
theorem fL_szDec x0 x1:qft qa0 210 [qv6 x0,.int .i64 x1] (tL_szDec x0 x1) :=fitK (by kernel_rfl)
def aS_NatOk:An:=⟨[(2,[.s 7],[.o (.o (.i .i64))])],[],[]⟩
def tS_NatOk (x0:SlV):T :=
 .lp [.o (.o (.i .i64))] [.v (.int .i64 0)] fun y1 =>
 .br (decide (y1.1<(↑x0.n:Int))) (
  .el x0.1 (x0.n) y1.1 fun y2 =>
  .ql15 (y2.add (Int.toNat y1.1*(1:Nat))) fun y3 =>
  .qc7 129 [.int .i64 y3,.int .i64 0,.int .i64 999999999] fun y4 =>
  .bF y4 <|
 .nx 0 [.v (.int .i64 (IntKind.i64.wrap (y1.1+(1:Int))))]) <|
 .br (decide ((↑x0.n:Int)≤(50:Int))) (
  .br ((↑x0.n:Int) == (0:Int)) (
   .rT) <|
 .el x0.1 (x0.n) (IntKind.i64.wrap ((↑x0.n:Int)-(1:Int))) fun y2 =>
  .ql15 (y2.add ((IntKind.i64.wrap ((↑x0.n:Int)-(1:Int))).toNat*(1:Nat))) fun y3 =>
  .ret [.bool (y3 != (0:Int))]) <|
 .rF
theorem fS_NatOk x0:qft aS_NatOk 211 [Sc.val .l x0] (tS_NatOk x0) :=fitK (by kernel_rfl)
def aS_l02Cmp:An:=⟨[(6,[.s 5],[.o (.o (.i .i64))])],[],[]⟩
def tS_l02Cmp (x0:SlV) (x1:SlV):T :=
 .br ((↑x0.n:Int) != (↑x1.n:Int)) (
  .br (decide ((↑x0.n:Int)<(↑x1.n:Int))) (
   .rM) <|
 .ret [.int .i64 1]) <|
 .lp [.o (.o (.i .i64))] [.v (.int .i64 (IntKind.i64.wrap ((↑x0.n:Int)-(1:Int))))] fun y1 =>
 .br (decide (y1.1≥(0:Int))) (
  .rg <|
 .el x0.1 (x0.n) y1.1 fun y2 =>
  .ql17 (y2.add (Int.toNat y1.1*(1:Nat))) fun y3 =>
  .el x1.1 (x1.n) y1.1 fun y4 =>
  .ql17 (y4.add (Int.toNat y1.1*(1:Nat))) fun y5 =>
  .br (decide (y3<y5)) (
   .rM) <|
 .rg <|
 .el x0.1 (x0.n) y1.1 fun y6 =>
  .ql17 (y6.add (Int.toNat y1.1*(1:Nat))) fun y7 =>
  .el x1.1 (x1.n) y1.1 fun y8 =>
  .ql17 (y8.add (Int.toNat y1.1*(1:Nat))) fun y9 =>
  .br (decide (y7 > y9)) (
   .ret [.int .i64 1]) <|
 .nx 0 [.v (.int .i64 (IntKind.i64.wrap (y1.1-(1:Int))))]) <|
 .ret [.int .i64 0]
theorem fS_l02Cmp x0 x1:qft aS_l02Cmp 212 [Sc.val .l x0,Sc.val .l x1] (tS_l02Cmp x0 x1) :=fitK (by kernel_rfl)
def aS_NatGcd:An:=⟨[(5,[.s 5,.s 6],[.o (.o (.l)),.o (.o (.l))])],[],[]⟩
def tS_NatGcd (x0:SlV) (x1:SlV):T :=
 .qc7 211 [Sc.val .l x0] fun y1 =>
 .bn y1 (.ret [.slice none 0 0]) <|
 .qc7 211 [Sc.val .l x1] fun y2 =>
 .bn y2 (.ret [.slice none 0 0]) <|
 .rd ({ a:=x0.1,n:=x0.n,c:=x0.c:SlV }) ((1:Nat)) fun y3 =>
 .rq (one y3=true∧((0:Nat)+x0.n)*(8:Nat)≤(140737488355328:Nat)∧(0:Nat)+x0.n≤(9223372036854775807:Nat)) <|
 .rd ({ a:=x1.1,n:=x1.n,c:=x1.c:SlV }) ((1:Nat)) fun y4 =>
 .rq (one y4=true∧((0:Nat)+x1.n)*(8:Nat)≤(140737488355328:Nat)∧(0:Nat)+x1.n≤(9223372036854775807:Nat)) <|
 .fz ((0:Nat)+x0.n) ([]++y3) 3 fun b5 c5 =>
 .fz ((0:Nat)+x1.n) ([]++y4) 3 fun b6 c6 =>
 .lp [.o (.o (.l)),.o (.o (.l))] [.v (.slice (some { block:=b5,off:=(0:Nat):Addr }) ((0:Nat)+x0.n) (c5)),.v (.slice (some { block:=b6,off:=(0:Nat):Addr }) ((0:Nat)+x1.n) (c6))] fun y7 =>
 .br (decide ((↑y7.2.1.n:Int) > (0:Int))) (
  .qc34 231 [Sc.val .l y7.1,Sc.val .l y7.2.1] fun y8 =>
  .nx 0 [.v (Sc.val .l y7.2.1),.v (Sc.val .l y8.2.1)]) <|
 .ret [Sc.val .l y7.1]
theorem fS_NatGcd x0 x1:qft aS_NatGcd 213 [Sc.val .l x0,Sc.val .l x1] (tS_NatGcd x0 x1) :=fitK (by kernel_rfl)
def tS_DecOk (x0:qy7):T :=
 .qc7 177 [qv0 (x0.1,x0.2.1,())] fun y1 =>
 .br y1 (
  .br (decide ((↑x0.2.1.n:Int)≤(6:Int))) (
   .qc7 129 [.int .i64 x0.2.2.1,.int .i64 0,.int .i64 30] fun y2 =>
   .ret [.bool y2]) <|
 .rF) <|
 .rF
theorem fS_DecOk x0:qft qa0 214 [qv6 x0] (tS_DecOk x0) :=fitK (by kernel_rfl)
def tS_IntSign (x0:qy0):T :=
 .qc0 221 [qv0 x0,qv0 ((false),nilS,())] fun y1 =>
 .ret [.int .i64 y1]
theorem fS_IntSign x0:qft qa0 215 [qv0 x0] (tS_IntSign x0) :=fitK (by kernel_rfl)
def tS_l06Mode (x0:Int):T :=
 .qc7 129 [.int .i64 x0,.int .i64 0,.int .i64 6] fun y1 =>
 .ret [.bool y1]
theorem fS_l06Mode x0:qft qa0 216 [.int .i64 x0] (tS_l06Mode x0) :=fitK (by kernel_rfl)
def tS_l06Round (x0:qy2) (x1:Int):T :=
 .qc34 231 [Sc.val .l x0.2.1,Sc.val .l x0.2.2.1] fun y1 =>
 .br (decide ((↑y1.2.1.n:Int) > (0:Int))) (
  .qc7 237 [.bool x0.1,Sc.val .l y1.1,Sc.val .l y1.2.1,Sc.val .l x0.2.2.1,.int .i64 x1] fun y2 =>
  .br y2 (
   .fz ((1:Nat)) [.int .i64 1] 3 fun b3 c3 =>
   .qc6 228 [Sc.val .l y1.1,.slice (some { block:=b3,off:=(0:Nat):Addr }) ((1:Nat)) (c3)] fun y4 =>
   .qc16 187 [.bool x0.1,Sc.val .l y4] fun y5 =>
   .ret [qv0 y5]) <|
 .qc16 187 [.bool x0.1,Sc.val .l y1.1] fun y3 =>
  .ret [qv0 y3]) <|
 .qc16 187 [.bool x0.1,Sc.val .l y1.1] fun y2 =>
 .ret [qv0 y2]
theorem fS_l06Round x0 x1:qft qa0 217 [qv1 x0,.int .i64 x1] (tS_l06Round x0 x1) :=fitK (by kernel_rfl)
def tS_RatRest (x0:qy2) (x1:Int):T :=
 .qc39 179 [qv1 x0,.int .i64 x1] fun y1 =>
 .qc38 238 [qv0 y1.1] fun y2 =>
 .qc38 239 [qv1 x0,qv1 y2.1] fun y3 =>
 .bn y1.2.1 (.ret [qv0 ((false),nilS,()),qv1 ((false),nilS,nilS,()),.bool (false)]) <|
 .bn y2.2.1 (.ret [qv0 ((false),nilS,()),qv1 ((false),nilS,nilS,()),.bool (false)]) <|
 .bn y3.2.1 (.ret [qv0 ((false),nilS,()),qv1 ((false),nilS,nilS,()),.bool (false)]) <|
 .rg <|
 .ret [qv0 y1.1,qv1 y3.1,.bool (true)]
theorem fS_RatRest x0 x1:qft qa0 218 [qv1 x0,.int .i64 x1] (tS_RatRest x0 x1) :=fitK (by kernel_rfl)
def tS_RatNeg (x0:qy2):T :=
 .qc7 174 [qv1 x0] fun y1 =>
 .bn y1 (.ret [qv1 ((false),nilS,nilS,()),.bool (false)]) <|
 .rg <|
 .qc21 132 [qv0 (x0.1,x0.2.1,())] fun y2 =>
 .es [] 3 fun b3 =>
 .ra ({ a:=x0.2.2.1.1,n:=x0.2.2.1.n,c:=x0.2.2.1.c:SlV }) ((1:Nat)) fun y4 =>
 .rq (one y4=true∧x0.2.2.1.n*(8:Nat)≤(140737488355328:Nat)∧x0.2.2.1.n≤(9223372036854775807:Nat)) <|
 .br (decide (x0.2.2.1.n=(0:Nat))) (
  .ret [qv1 (y2.1,y2.2.1,(⟨(some { block:=b3,off:=(0:Nat):Addr }),((0:Nat)),((0:Nat))⟩:SlV),()),.bool (true)]) <|
 .fz (x0.2.2.1.n) y4 3 fun b5 c5 =>
 .ret [qv1 (y2.1,y2.2.1,(⟨(some { block:=b5,off:=(0:Nat):Addr }),(x0.2.2.1.n),(c5)⟩:SlV),()),.bool (true)]
theorem fS_RatNeg x0:qft qa0 219 [qv1 x0] (tS_RatNeg x0) :=fitK (by kernel_rfl)
def aS_NatInt:An:=⟨[(5,[.s 4,.s 5],[.o (.o (.i .i64)),.o (.o (.i .i64))])],[],[]⟩
def tS_NatInt (x0:SlV):T :=
 .qc7 211 [Sc.val .l x0] fun y1 =>
 .bn y1 (.ret [.int .i64 0,.bool (false)]) <|
 .fz ((3:Nat)) [.int .i64 854775807,.int .i64 223372036,.int .i64 9] 3 fun b2 c2 =>
 .qc0 212 [Sc.val .l x0,.slice (some { block:=b2,off:=(0:Nat):Addr }) ((3:Nat)) (c2)] fun y3 =>
 .br (decide (y3 > (0:Int))) (
  .ret [.int .i64 0,.bool (false)]) <|
 .lp [.o (.o (.i .i64)),.o (.o (.i .i64))] [.v (.int .i64 0),.v (.int .i64 (IntKind.i64.wrap ((↑x0.n:Int)-(1:Int))))] fun y4 =>
 .br (decide (y4.2.1≥(0:Int))) (
  .el x0.1 (x0.n) y4.2.1 fun y5 =>
  .ql15 (y5.add (Int.toNat y4.2.1*(1:Nat))) fun y6 =>
  .nx 0 [.v (.int .i64 (IntKind.i64.wrap (IntKind.i64.wrap (y4.1*(1000000000:Int))+y6))),.v (.int .i64 (IntKind.i64.wrap (y4.2.1-(1:Int))))]) <|
 .ret [.int .i64 y4.1,.bool (true)]
theorem fS_NatInt x0:qft aS_NatInt 220 [Sc.val .l x0] (tS_NatInt x0) :=fitK (by kernel_rfl)
def tS_IntCmp (x0:qy0) (x1:qy0):T :=
 .qc7 177 [qv0 x0] fun y1 =>
 .bn y1 (.ret [.int .i64 0]) <|
 .qc7 177 [qv0 x1] fun y2 =>
 .bn y2 (.ret [.int .i64 0]) <|
 .br x0.1 (
  .br (!x1.1) (
   .rM) <|
 .br (!x0.1) (
   .br x1.1 (
    .ret [.int .i64 1]) <|
 .br x0.1 (
    .qc0 212 [Sc.val .l x1.2.1,Sc.val .l x0.2.1] fun y3 =>
    .ret [.int .i64 y3]) <|
 .qc0 212 [Sc.val .l x0.2.1,Sc.val .l x1.2.1] fun y3 =>
   .ret [.int .i64 y3]) <|
 .br x0.1 (
   .qc0 212 [Sc.val .l x1.2.1,Sc.val .l x0.2.1] fun y3 =>
   .ret [.int .i64 y3]) <|
 .qc0 212 [Sc.val .l x0.2.1,Sc.val .l x1.2.1] fun y3 =>
  .ret [.int .i64 y3]) <|
 .br (!x0.1) (
  .br x1.1 (
   .ret [.int .i64 1]) <|
 .br x0.1 (
   .qc0 212 [Sc.val .l x1.2.1,Sc.val .l x0.2.1] fun y3 =>
   .ret [.int .i64 y3]) <|
 .qc0 212 [Sc.val .l x0.2.1,Sc.val .l x1.2.1] fun y3 =>
  .ret [.int .i64 y3]) <|
 .br x0.1 (
  .qc0 212 [Sc.val .l x1.2.1,Sc.val .l x0.2.1] fun y3 =>
  .ret [.int .i64 y3]) <|
 .qc0 212 [Sc.val .l x0.2.1,Sc.val .l x1.2.1] fun y3 =>
 .ret [.int .i64 y3]
theorem fS_IntCmp x0 x1:qft qa0 221 [qv0 x0,qv0 x1] (tS_IntCmp x0 x1) :=fitK (by kernel_rfl)
def tS_l02Cap (x0:SlV):T :=
 .qc6 205 [Sc.val .l x0] fun y1 =>
 .br (decide ((↑y1.n:Int) > (50:Int))) (
  .ret [.slice none 0 0]) <|
 .ret [Sc.val .l y1]
theorem fS_l02Cap x0:qft qa0 222 [Sc.val .l x0] (tS_l02Cap x0) :=fitK (by kernel_rfl)
def tS_l17Money (x0:qy1):T :=
 .rg <|
 .es [] 3 fun b1 =>
 .ra ({ a:=x0.2.2.1.1,n:=x0.2.2.1.n,c:=x0.2.2.1.c:SlV }) ((1:Nat)) fun y2 =>
 .rq (one y2=true∧x0.2.2.1.n*(8:Nat)≤(140737488355328:Nat)∧x0.2.2.1.n≤(9223372036854775807:Nat)) <|
 .br (decide (x0.2.2.1.n=(0:Nat))) (
  .ret [qv2 (x0.1,x0.2.1,(⟨(some { block:=b1,off:=(0:Nat):Addr }),((0:Nat)),((0:Nat))⟩:SlV),())]) <|
 .fz (x0.2.2.1.n) y2 3 fun b3 c3 =>
 .ret [qv2 (x0.1,x0.2.1,(⟨(some { block:=b3,off:=(0:Nat):Addr }),(x0.2.2.1.n),(c3)⟩:SlV),())]
theorem fS_l17Money x0:qft qa0 223 [qv2 x0] (tS_l17Money x0) :=fitK (by kernel_rfl)
def tS_l09Both (x0:qy1) (x1:qy1):T :=
 .qc7 128 [qv2 x0] fun y1 =>
 .br y1 (
  .qc7 128 [qv2 x1] fun y2 =>
  .br y2 (
   .ret [.bool (ByteArray.toList x0.1 == ByteArray.toList x1.1)]) <|
 .rF) <|
 .rF
theorem fS_l09Both x0 x1:qft qa0 224 [qv2 x0,qv2 x1] (tS_l09Both x0 x1) :=fitK (by kernel_rfl)
def tS_l09Make (x0:ByteArray) (x1:qy0):T :=
 .qc7 128 [qv2 (x0,x1.1,x1.2.1,())] fun y1 =>
 .bn y1 (.ret [qv2 (({ data:={ toList:=[]:Array UInt8 }:ByteArray }),(false),nilS,()),.bool (false)]) <|
 .ret [qv2 (x0,x1.1,x1.2.1,()),.bool (true)]
theorem fS_l09Make x0 x1:qft qa0 225 [.string x0,qv0 x1] (tS_l09Make x0 x1) :=fitK (by kernel_rfl)
def tL_toDec (x0:qy7):T :=
 .qc16 82 [qv0 (x0.1,x0.2.1,())] fun y1 =>
 .ret [qv6 (y1.1,y1.2.1,((x0.2.2.1):Int),())]
theorem fL_toDec x0:qft qa0 226 [qv6 x0] (tL_toDec x0) :=fitK (by kernel_rfl)
def tL_eqDec (x0:qy7) (x1:qy7):T :=
 .qc7 86 [qv0 (x0.1,x0.2.1,()),qv0 (x1.1,x1.2.1,())] fun y1 =>
 .bF y1 <|
 .br (x0.2.2.1 != x1.2.2.1) (
  .rF) <|
 .rT
theorem fL_eqDec x0 x1:qft qa0 227 [qv6 x0,qv6 x1] (tL_eqDec x0 x1) :=fitK (by kernel_rfl)
def aS_l02Add:An:=⟨[(4,[.s 5,.s 6,.s 7],[.a 3,.o (.o (.i .i64)),.o (.o (.i .i64))])],[],[]⟩
def tS_l02Add (x0:SlV) (x1:SlV):T :=
 .lp [.a 3,.o (.o (.i .i64)),.o (.o (.i .i64))] [.a 3 ((0:Nat)) [],.v (.int .i64 0),.v (.int .i64 0)] fun y1 =>
 .br (decide (y1.2.2.1<(↑x0.n:Int))) (
  .br (decide (y1.2.2.1<(↑x0.n:Int))) (
   .el x0.1 (x0.n) y1.2.2.1 fun y2 =>
   .ql15 (y2.add (Int.toNat y1.2.2.1*(1:Nat))) fun y3 =>
   .br (decide (y1.2.2.1<(↑x1.n:Int))) (
    .el x1.1 (x1.n) y1.2.2.1 fun y4 =>
    .ql15 (y4.add (Int.toNat y1.2.2.1*(1:Nat))) fun y5 =>
    .rq ((1000000000:Int)≠(0:Int)) <|
 .rq ([Value.int IntKind.i64 ((IntKind.i64.wrap (IntKind.i64.wrap (y1.2.1+y3)+y5)).tmod (1000000000:Int))].length=(1:Nat)*(1:Nat)) <|
 .rq (one [Value.int IntKind.i64 ((IntKind.i64.wrap (IntKind.i64.wrap (y1.2.1+y3)+y5)).tmod (1000000000:Int))]=true∧(y1.1.1+(1:Nat))*(8:Nat)≤(140737488355328:Nat)∧y1.1.1+(1:Nat)≤(9223372036854775807:Nat)) <|
 .rq ((1000000000:Int)≠(0:Int)) <|
 .nx 0 [.a 3 (y1.1.1+(1:Nat)) (y1.1.2++[Value.int IntKind.i64 ((IntKind.i64.wrap (IntKind.i64.wrap (y1.2.1+y3)+y5)).tmod (1000000000:Int))]),.v (.int .i64 (IntKind.i64.wrap ((IntKind.i64.wrap (IntKind.i64.wrap (y1.2.1+y3)+y5)).tdiv (1000000000:Int)))),.v (.int .i64 (IntKind.i64.wrap (y1.2.2.1+(1:Int))))]) <|
 .rq ((1000000000:Int)≠(0:Int)) <|
 .rq ([Value.int IntKind.i64 ((IntKind.i64.wrap (y1.2.1+y3)).tmod (1000000000:Int))].length=(1:Nat)*(1:Nat)) <|
 .rq (one [Value.int IntKind.i64 ((IntKind.i64.wrap (y1.2.1+y3)).tmod (1000000000:Int))]=true∧(y1.1.1+(1:Nat))*(8:Nat)≤(140737488355328:Nat)∧y1.1.1+(1:Nat)≤(9223372036854775807:Nat)) <|
 .rq ((1000000000:Int)≠(0:Int)) <|
 .nx 0 [.a 3 (y1.1.1+(1:Nat)) (y1.1.2++[Value.int IntKind.i64 ((IntKind.i64.wrap (y1.2.1+y3)).tmod (1000000000:Int))]),.v (.int .i64 (IntKind.i64.wrap ((IntKind.i64.wrap (y1.2.1+y3)).tdiv (1000000000:Int)))),.v (.int .i64 (IntKind.i64.wrap (y1.2.2.1+(1:Int))))]) <|
 .br (decide (y1.2.2.1<(↑x1.n:Int))) (
   .el x1.1 (x1.n) y1.2.2.1 fun y2 =>
   .ql15 (y2.add (Int.toNat y1.2.2.1*(1:Nat))) fun y3 =>
   .rq ((1000000000:Int)≠(0:Int)) <|
 .rq ([Value.int IntKind.i64 ((IntKind.i64.wrap (y1.2.1+y3)).tmod (1000000000:Int))].length=(1:Nat)*(1:Nat)) <|
 .rq (one [Value.int IntKind.i64 ((IntKind.i64.wrap (y1.2.1+y3)).tmod (1000000000:Int))]=true∧(y1.1.1+(1:Nat))*(8:Nat)≤(140737488355328:Nat)∧y1.1.1+(1:Nat)≤(9223372036854775807:Nat)) <|
 .rq ((1000000000:Int)≠(0:Int)) <|
 .nx 0 [.a 3 (y1.1.1+(1:Nat)) (y1.1.2++[Value.int IntKind.i64 ((IntKind.i64.wrap (y1.2.1+y3)).tmod (1000000000:Int))]),.v (.int .i64 (IntKind.i64.wrap ((IntKind.i64.wrap (y1.2.1+y3)).tdiv (1000000000:Int)))),.v (.int .i64 (IntKind.i64.wrap (y1.2.2.1+(1:Int))))]) <|
 .rq ((1000000000:Int)≠(0:Int)) <|
 .rq ([Value.int IntKind.i64 (Int.tmod y1.2.1 (1000000000:Int))].length=(1:Nat)*(1:Nat)) <|
 .rq (one [Value.int IntKind.i64 (Int.tmod y1.2.1 (1000000000:Int))]=true∧(y1.1.1+(1:Nat))*(8:Nat)≤(140737488355328:Nat)∧y1.1.1+(1:Nat)≤(9223372036854775807:Nat)) <|
 .rq ((1000000000:Int)≠(0:Int)) <|
 .nx 0 [.a 3 (y1.1.1+(1:Nat)) (y1.1.2++[Value.int IntKind.i64 (Int.tmod y1.2.1 (1000000000:Int))]),.v (.int .i64 (IntKind.i64.wrap (Int.tdiv y1.2.1 (1000000000:Int)))),.v (.int .i64 (IntKind.i64.wrap (y1.2.2.1+(1:Int))))]) <|
 .br (decide (y1.2.2.1<(↑x1.n:Int))) (
  .br (decide (y1.2.2.1<(↑x0.n:Int))) (
   .el x0.1 (x0.n) y1.2.2.1 fun y2 =>
   .ql15 (y2.add (Int.toNat y1.2.2.1*(1:Nat))) fun y3 =>
   .br (decide (y1.2.2.1<(↑x1.n:Int))) (
    .el x1.1 (x1.n) y1.2.2.1 fun y4 =>
    .ql15 (y4.add (Int.toNat y1.2.2.1*(1:Nat))) fun y5 =>
    .rq ((1000000000:Int)≠(0:Int)) <|
 .rq ([Value.int IntKind.i64 ((IntKind.i64.wrap (IntKind.i64.wrap (y1.2.1+y3)+y5)).tmod (1000000000:Int))].length=(1:Nat)*(1:Nat)) <|
 .rq (one [Value.int IntKind.i64 ((IntKind.i64.wrap (IntKind.i64.wrap (y1.2.1+y3)+y5)).tmod (1000000000:Int))]=true∧(y1.1.1+(1:Nat))*(8:Nat)≤(140737488355328:Nat)∧y1.1.1+(1:Nat)≤(9223372036854775807:Nat)) <|
 .rq ((1000000000:Int)≠(0:Int)) <|
 .nx 0 [.a 3 (y1.1.1+(1:Nat)) (y1.1.2++[Value.int IntKind.i64 ((IntKind.i64.wrap (IntKind.i64.wrap (y1.2.1+y3)+y5)).tmod (1000000000:Int))]),.v (.int .i64 (IntKind.i64.wrap ((IntKind.i64.wrap (IntKind.i64.wrap (y1.2.1+y3)+y5)).tdiv (1000000000:Int)))),.v (.int .i64 (IntKind.i64.wrap (y1.2.2.1+(1:Int))))]) <|
 .rq ((1000000000:Int)≠(0:Int)) <|
 .rq ([Value.int IntKind.i64 ((IntKind.i64.wrap (y1.2.1+y3)).tmod (1000000000:Int))].length=(1:Nat)*(1:Nat)) <|
 .rq (one [Value.int IntKind.i64 ((IntKind.i64.wrap (y1.2.1+y3)).tmod (1000000000:Int))]=true∧(y1.1.1+(1:Nat))*(8:Nat)≤(140737488355328:Nat)∧y1.1.1+(1:Nat)≤(9223372036854775807:Nat)) <|
 .rq ((1000000000:Int)≠(0:Int)) <|
 .nx 0 [.a 3 (y1.1.1+(1:Nat)) (y1.1.2++[Value.int IntKind.i64 ((IntKind.i64.wrap (y1.2.1+y3)).tmod (1000000000:Int))]),.v (.int .i64 (IntKind.i64.wrap ((IntKind.i64.wrap (y1.2.1+y3)).tdiv (1000000000:Int)))),.v (.int .i64 (IntKind.i64.wrap (y1.2.2.1+(1:Int))))]) <|
 .br (decide (y1.2.2.1<(↑x1.n:Int))) (
   .el x1.1 (x1.n) y1.2.2.1 fun y2 =>
   .ql15 (y2.add (Int.toNat y1.2.2.1*(1:Nat))) fun y3 =>
   .rq ((1000000000:Int)≠(0:Int)) <|
 .rq ([Value.int IntKind.i64 ((IntKind.i64.wrap (y1.2.1+y3)).tmod (1000000000:Int))].length=(1:Nat)*(1:Nat)) <|
 .rq (one [Value.int IntKind.i64 ((IntKind.i64.wrap (y1.2.1+y3)).tmod (1000000000:Int))]=true∧(y1.1.1+(1:Nat))*(8:Nat)≤(140737488355328:Nat)∧y1.1.1+(1:Nat)≤(9223372036854775807:Nat)) <|
 .rq ((1000000000:Int)≠(0:Int)) <|
 .nx 0 [.a 3 (y1.1.1+(1:Nat)) (y1.1.2++[Value.int IntKind.i64 ((IntKind.i64.wrap (y1.2.1+y3)).tmod (1000000000:Int))]),.v (.int .i64 (IntKind.i64.wrap ((IntKind.i64.wrap (y1.2.1+y3)).tdiv (1000000000:Int)))),.v (.int .i64 (IntKind.i64.wrap (y1.2.2.1+(1:Int))))]) <|
 .rq ((1000000000:Int)≠(0:Int)) <|
 .rq ([Value.int IntKind.i64 (Int.tmod y1.2.1 (1000000000:Int))].length=(1:Nat)*(1:Nat)) <|
 .rq (one [Value.int IntKind.i64 (Int.tmod y1.2.1 (1000000000:Int))]=true∧(y1.1.1+(1:Nat))*(8:Nat)≤(140737488355328:Nat)∧y1.1.1+(1:Nat)≤(9223372036854775807:Nat)) <|
 .rq ((1000000000:Int)≠(0:Int)) <|
 .nx 0 [.a 3 (y1.1.1+(1:Nat)) (y1.1.2++[Value.int IntKind.i64 (Int.tmod y1.2.1 (1000000000:Int))]),.v (.int .i64 (IntKind.i64.wrap (Int.tdiv y1.2.1 (1000000000:Int)))),.v (.int .i64 (IntKind.i64.wrap (y1.2.2.1+(1:Int))))]) <|
 .br (decide (y1.2.1 > (0:Int))) (
  .br (decide (y1.2.2.1<(↑x0.n:Int))) (
   .el x0.1 (x0.n) y1.2.2.1 fun y2 =>
   .ql15 (y2.add (Int.toNat y1.2.2.1*(1:Nat))) fun y3 =>
   .br (decide (y1.2.2.1<(↑x1.n:Int))) (
    .el x1.1 (x1.n) y1.2.2.1 fun y4 =>
    .ql15 (y4.add (Int.toNat y1.2.2.1*(1:Nat))) fun y5 =>
    .rq ((1000000000:Int)≠(0:Int)) <|
 .rq ([Value.int IntKind.i64 ((IntKind.i64.wrap (IntKind.i64.wrap (y1.2.1+y3)+y5)).tmod (1000000000:Int))].length=(1:Nat)*(1:Nat)) <|
 .rq (one [Value.int IntKind.i64 ((IntKind.i64.wrap (IntKind.i64.wrap (y1.2.1+y3)+y5)).tmod (1000000000:Int))]=true∧(y1.1.1+(1:Nat))*(8:Nat)≤(140737488355328:Nat)∧y1.1.1+(1:Nat)≤(9223372036854775807:Nat)) <|
 .rq ((1000000000:Int)≠(0:Int)) <|
 .nx 0 [.a 3 (y1.1.1+(1:Nat)) (y1.1.2++[Value.int IntKind.i64 ((IntKind.i64.wrap (IntKind.i64.wrap (y1.2.1+y3)+y5)).tmod (1000000000:Int))]),.v (.int .i64 (IntKind.i64.wrap ((IntKind.i64.wrap (IntKind.i64.wrap (y1.2.1+y3)+y5)).tdiv (1000000000:Int)))),.v (.int .i64 (IntKind.i64.wrap (y1.2.2.1+(1:Int))))]) <|
 .rq ((1000000000:Int)≠(0:Int)) <|
 .rq ([Value.int IntKind.i64 ((IntKind.i64.wrap (y1.2.1+y3)).tmod (1000000000:Int))].length=(1:Nat)*(1:Nat)) <|
 .rq (one [Value.int IntKind.i64 ((IntKind.i64.wrap (y1.2.1+y3)).tmod (1000000000:Int))]=true∧(y1.1.1+(1:Nat))*(8:Nat)≤(140737488355328:Nat)∧y1.1.1+(1:Nat)≤(9223372036854775807:Nat)) <|
 .rq ((1000000000:Int)≠(0:Int)) <|
 .nx 0 [.a 3 (y1.1.1+(1:Nat)) (y1.1.2++[Value.int IntKind.i64 ((IntKind.i64.wrap (y1.2.1+y3)).tmod (1000000000:Int))]),.v (.int .i64 (IntKind.i64.wrap ((IntKind.i64.wrap (y1.2.1+y3)).tdiv (1000000000:Int)))),.v (.int .i64 (IntKind.i64.wrap (y1.2.2.1+(1:Int))))]) <|
 .br (decide (y1.2.2.1<(↑x1.n:Int))) (
   .el x1.1 (x1.n) y1.2.2.1 fun y2 =>
   .ql15 (y2.add (Int.toNat y1.2.2.1*(1:Nat))) fun y3 =>
   .rq ((1000000000:Int)≠(0:Int)) <|
 .rq ([Value.int IntKind.i64 ((IntKind.i64.wrap (y1.2.1+y3)).tmod (1000000000:Int))].length=(1:Nat)*(1:Nat)) <|
 .rq (one [Value.int IntKind.i64 ((IntKind.i64.wrap (y1.2.1+y3)).tmod (1000000000:Int))]=true∧(y1.1.1+(1:Nat))*(8:Nat)≤(140737488355328:Nat)∧y1.1.1+(1:Nat)≤(9223372036854775807:Nat)) <|
 .rq ((1000000000:Int)≠(0:Int)) <|
 .nx 0 [.a 3 (y1.1.1+(1:Nat)) (y1.1.2++[Value.int IntKind.i64 ((IntKind.i64.wrap (y1.2.1+y3)).tmod (1000000000:Int))]),.v (.int .i64 (IntKind.i64.wrap ((IntKind.i64.wrap (y1.2.1+y3)).tdiv (1000000000:Int)))),.v (.int .i64 (IntKind.i64.wrap (y1.2.2.1+(1:Int))))]) <|
 .rq ((1000000000:Int)≠(0:Int)) <|
 .rq ([Value.int IntKind.i64 (Int.tmod y1.2.1 (1000000000:Int))].length=(1:Nat)*(1:Nat)) <|
 .rq (one [Value.int IntKind.i64 (Int.tmod y1.2.1 (1000000000:Int))]=true∧(y1.1.1+(1:Nat))*(8:Nat)≤(140737488355328:Nat)∧y1.1.1+(1:Nat)≤(9223372036854775807:Nat)) <|
 .rq ((1000000000:Int)≠(0:Int)) <|
 .nx 0 [.a 3 (y1.1.1+(1:Nat)) (y1.1.2++[Value.int IntKind.i64 (Int.tmod y1.2.1 (1000000000:Int))]),.v (.int .i64 (IntKind.i64.wrap (Int.tdiv y1.2.1 (1000000000:Int)))),.v (.int .i64 (IntKind.i64.wrap (y1.2.2.1+(1:Int))))]) <|
 .fz y1.1.1 y1.1.2 3 fun b2 c2 =>
 .ret [.slice (some { block:=b2,off:=(0:Nat):Addr }) y1.1.1 (c2)]
theorem fS_l02Add x0 x1:qft aS_l02Add 228 [Sc.val .l x0,Sc.val .l x1] (tS_l02Add x0 x1) :=fitK (by kernel_rfl)
def aS_l02Sub:An:=⟨[(4,[.s 5,.s 6,.s 12],[.a 3,.o (.o (.i .i64)),.o (.o (.i .i64))])],[],[]⟩
def tS_l02Sub (x0:SlV) (x1:SlV):T :=
 .lp [.a 3,.o (.o (.i .i64)),.o (.o (.i .i64))] [.a 3 ((0:Nat)) [],.v (.int .i64 0),.v (.int .i64 0)] fun y1 =>
 .br (decide (y1.2.2.1<(↑x0.n:Int))) (
  .el x0.1 (x0.n) y1.2.2.1 fun y2 =>
  .ql15 (y2.add (Int.toNat y1.2.2.1*(1:Nat))) fun y3 =>
  .br (decide (y1.2.2.1<(↑x1.n:Int))) (
   .el x1.1 (x1.n) y1.2.2.1 fun y4 =>
   .ql15 (y4.add (Int.toNat y1.2.2.1*(1:Nat))) fun y5 =>
   .br (decide (IntKind.i64.wrap (IntKind.i64.wrap (y3-y1.2.1)-y5)<(0:Int))) (
    .rq ([Value.int IntKind.i64 (IntKind.i64.wrap (IntKind.i64.wrap (IntKind.i64.wrap (y3-y1.2.1)-y5)+(1000000000:Int)))].length=(1:Nat)*(1:Nat)) <|
 .rq (one [Value.int IntKind.i64 (IntKind.i64.wrap (IntKind.i64.wrap (IntKind.i64.wrap (y3-y1.2.1)-y5)+(1000000000:Int)))]=true∧(y1.1.1+(1:Nat))*(8:Nat)≤(140737488355328:Nat)∧y1.1.1+(1:Nat)≤(9223372036854775807:Nat)) <|
 .nx 0 [.a 3 (y1.1.1+(1:Nat)) (y1.1.2++[Value.int IntKind.i64 (IntKind.i64.wrap (IntKind.i64.wrap (IntKind.i64.wrap (y3-y1.2.1)-y5)+(1000000000:Int)))]),.v (.int .i64 1),.v (.int .i64 (IntKind.i64.wrap (y1.2.2.1+(1:Int))))]) <|
 .rq ([Value.int IntKind.i64 (IntKind.i64.wrap (IntKind.i64.wrap (y3-y1.2.1)-y5))].length=(1:Nat)*(1:Nat)) <|
 .rq (one [Value.int IntKind.i64 (IntKind.i64.wrap (IntKind.i64.wrap (y3-y1.2.1)-y5))]=true∧(y1.1.1+(1:Nat))*(8:Nat)≤(140737488355328:Nat)∧y1.1.1+(1:Nat)≤(9223372036854775807:Nat)) <|
 .nx 0 [.a 3 (y1.1.1+(1:Nat)) (y1.1.2++[Value.int IntKind.i64 (IntKind.i64.wrap (IntKind.i64.wrap (y3-y1.2.1)-y5))]),.v (.int .i64 0),.v (.int .i64 (IntKind.i64.wrap (y1.2.2.1+(1:Int))))]) <|
 .br (decide (IntKind.i64.wrap (y3-y1.2.1)<(0:Int))) (
   .rq ([Value.int IntKind.i64 (IntKind.i64.wrap (IntKind.i64.wrap (y3-y1.2.1)+(1000000000:Int)))].length=(1:Nat)*(1:Nat)) <|
 .rq (one [Value.int IntKind.i64 (IntKind.i64.wrap (IntKind.i64.wrap (y3-y1.2.1)+(1000000000:Int)))]=true∧(y1.1.1+(1:Nat))*(8:Nat)≤(140737488355328:Nat)∧y1.1.1+(1:Nat)≤(9223372036854775807:Nat)) <|
 .nx 0 [.a 3 (y1.1.1+(1:Nat)) (y1.1.2++[Value.int IntKind.i64 (IntKind.i64.wrap (IntKind.i64.wrap (y3-y1.2.1)+(1000000000:Int)))]),.v (.int .i64 1),.v (.int .i64 (IntKind.i64.wrap (y1.2.2.1+(1:Int))))]) <|
 .rq ([Value.int IntKind.i64 (IntKind.i64.wrap (y3-y1.2.1))].length=(1:Nat)*(1:Nat)) <|
 .rq (one [Value.int IntKind.i64 (IntKind.i64.wrap (y3-y1.2.1))]=true∧(y1.1.1+(1:Nat))*(8:Nat)≤(140737488355328:Nat)∧y1.1.1+(1:Nat)≤(9223372036854775807:Nat)) <|
 .nx 0 [.a 3 (y1.1.1+(1:Nat)) (y1.1.2++[Value.int IntKind.i64 (IntKind.i64.wrap (y3-y1.2.1))]),.v (.int .i64 0),.v (.int .i64 (IntKind.i64.wrap (y1.2.2.1+(1:Int))))]) <|
 .fz y1.1.1 y1.1.2 3 fun b2 c2 =>
 .qc6 205 [.slice (some { block:=b2,off:=(0:Nat):Addr }) y1.1.1 (c2)] fun y3 =>
 .ret [Sc.val .l y3]
theorem fS_l02Sub x0 x1:qft aS_l02Sub 229 [Sc.val .l x0,Sc.val .l x1] (tS_l02Sub x0 x1) :=fitK (by kernel_rfl)
def aS_l05Gcd:An:=⟨[(3,[.s 5,.s 6],[.o (.o (.l)),.o (.o (.l))])],[],[]⟩
def tS_l05Gcd (x0:SlV) (x1:SlV):T :=
 .lp [.o (.o (.l)),.o (.o (.l))] [.v (Sc.val .l x0),.v (Sc.val .l x1)] fun y1 =>
 .br (decide ((↑y1.2.1.n:Int) > (0:Int))) (
  .qc34 231 [Sc.val .l y1.1,Sc.val .l y1.2.1] fun y2 =>
  .nx 0 [.v (Sc.val .l y1.2.1),.v (Sc.val .l y2.2.1)]) <|
 .ret [Sc.val .l y1.1]
theorem fS_l05Gcd x0 x1:qft aS_l05Gcd 230 [Sc.val .l x0,Sc.val .l x1] (tS_l05Gcd x0 x1) :=fitK (by kernel_rfl)
def aS_l03Div:An:=⟨[(7,[.s 8,.s 9,.s 10],[.a 3,.o (.o (.l)),.o (.o (.i .i64))])],[],[]⟩
def tS_l03Div (x0:SlV) (x1:SlV):T :=
 .br ((↑x1.n:Int) == (1:Int)) (
  .el x1.1 (x1.n) ((0:Int)) fun y1 =>
  .ql15 (y1.add (Int.toNat (0:Int)*(1:Nat))) fun y2 =>
  .qc20 240 [Sc.val .l x0,.int .i64 y2] fun y3 =>
  .qc6 158 [.int .i64 y3.2.1] fun y4 =>
  .ret [Sc.val .l y3.1,Sc.val .l y4]) <|
 .rq ((0:Int)≤(↑x0.n:Int)∧(↑x0.n:Int)≤(↑x0.n:Int)∧(↑(8:Nat):Int)*(↑x0.n:Int)≤(281474976710656:Int)∧(↑x0.n:Int)≤(9223372036854775807:Int)) <|
 .fz ((0:Nat)) [] 3 fun b1 c1 =>
 .lp [.a 3,.o (.o (.l)),.o (.o (.i .i64))] [.a 3 ((↑x0.n:Int).toNat) ((madeCells { toList:=[Value.int IntKind.i64 (0:Int)]:Array Value } ((↑x0.n:Int).toNat*(1:Nat))).toList),.v (.slice (some { block:=b1,off:=(0:Nat):Addr }) ((0:Nat)) (c1)),.v (.int .i64 (IntKind.i64.wrap ((↑x0.n:Int)-(1:Int))))] fun y2 =>
 .br (decide (y2.2.2.1≥(0:Int))) (
  .el x0.1 (x0.n) y2.2.2.1 fun y3 =>
  .ql15 (y3.add (Int.toNat y2.2.2.1*(1:Nat))) fun y4 =>
  .rd ({ a:=y2.2.1.1,n:=y2.2.1.n,c:=y2.2.1.c:SlV }) ((1:Nat)) fun y5 =>
  .rq (one y5=true∧((1:Nat)+y2.2.1.n)*(8:Nat)≤(140737488355328:Nat)∧(1:Nat)+y2.2.1.n≤(9223372036854775807:Nat)) <|
 .fz ((1:Nat)+y2.2.1.n) ([Value.int IntKind.i64 y4]++y5) 3 fun b6 c6 =>
  .qc6 205 [.slice (some { block:=b6,off:=(0:Nat):Addr }) ((1:Nat)+y2.2.1.n) (c6)] fun y7 =>
  .qc0 212 [Sc.val .l y7,Sc.val .l x1] fun y8 =>
  .br (decide (y8<(0:Int))) (
   .nx 0 [.a 3 y2.1.1 y2.1.2,.v (Sc.val .l y7),.v (.int .i64 (IntKind.i64.wrap (y2.2.2.1-(1:Int))))]) <|
 .qc0 241 [Sc.val .l y7,Sc.val .l x1] fun y9 =>
  .rq ((0:Int)≤y2.2.2.1∧y2.2.2.1<(↑y2.1.1:Int)) <|
 .rq (Int.toNat y2.2.2.1*(1:Nat)+[Value.int IntKind.i64 y9].length≤y2.1.2.length) <|
 .qc6 158 [.int .i64 y9] fun y10 =>
  .qc6 200 [Sc.val .l x1,Sc.val .l y10] fun y11 =>
  .qc6 229 [Sc.val .l y7,Sc.val .l y11] fun y12 =>
  .nx 0 [.a 3 y2.1.1 (setl y2.1.2 (Int.toNat y2.2.2.1*(1:Nat)) [Value.int IntKind.i64 y9]),.v (Sc.val .l y12),.v (.int .i64 (IntKind.i64.wrap (y2.2.2.1-(1:Int))))]) <|
 .fz y2.1.1 y2.1.2 3 fun b3 c3 =>
 .qc6 205 [.slice (some { block:=b3,off:=(0:Nat):Addr }) y2.1.1 (c3)] fun y4 =>
 .ret [Sc.val .l y4,Sc.val .l y2.2.1]
theorem fS_l03Div x0 x1:qft aS_l03Div 231 [Sc.val .l x0,Sc.val .l x1] (tS_l03Div x0 x1) :=fitK (by kernel_rfl)
def tS_l08Table :T :=
 .fz ((20:Nat)) [.string ({ data:={ toList:=[(65:UInt8),(85:UInt8),(68:UInt8)]:Array UInt8 }:ByteArray }),.string ({ data:={ toList:=[(48:UInt8),(51:UInt8),(54:UInt8)]:Array UInt8 }:ByteArray }),.int .i64 2,.int .i64 5,.string ({ data:={ toList:=[(66:UInt8),(72:UInt8),(68:UInt8)]:Array UInt8 }:ByteArray }),.string ({ data:={ toList:=[(48:UInt8),(52:UInt8),(56:UInt8)]:Array UInt8 }:ByteArray }),.int .i64 3,.int .i64 5,.string ({ data:={ toList:=[(67:UInt8),(65:UInt8),(68:UInt8)]:Array UInt8 }:ByteArray }),.string ({ data:={ toList:=[(49:UInt8),(50:UInt8),(52:UInt8)]:Array UInt8 }:ByteArray }),.int .i64 2,.int .i64 5,.string ({ data:={ toList:=[(67:UInt8),(72:UInt8),(70:UInt8)]:Array UInt8 }:ByteArray }),.string ({ data:={ toList:=[(55:UInt8),(53:UInt8),(54:UInt8)]:Array UInt8 }:ByteArray }),.int .i64 2,.int .i64 5,.string ({ data:={ toList:=[(67:UInt8),(76:UInt8),(70:UInt8)]:Array UInt8 }:ByteArray }),.string ({ data:={ toList:=[(57:UInt8),(57:UInt8),(48:UInt8)]:Array UInt8 }:ByteArray }),.int .i64 4,.int .i64 1,.string ({ data:={ toList:=[(67:UInt8),(90:UInt8),(75:UInt8)]:Array UInt8 }:ByteArray }),.string ({ data:={ toList:=[(50:UInt8),(48:UInt8),(51:UInt8)]:Array UInt8 }:ByteArray }),.int .i64 2,.int .i64 100,.string ({ data:={ toList:=[(68:UInt8),(75:UInt8),(75:UInt8)]:Array UInt8 }:ByteArray }),.string ({ data:={ toList:=[(50:UInt8),(48:UInt8),(56:UInt8)]:Array UInt8 }:ByteArray }),.int .i64 2,.int .i64 50,.string ({ data:={ toList:=[(69:UInt8),(85:UInt8),(82:UInt8)]:Array UInt8 }:ByteArray }),.string ({ data:={ toList:=[(57:UInt8),(55:UInt8),(56:UInt8)]:Array UInt8 }:ByteArray }),.int .i64 2,.int .i64 1,.string ({ data:={ toList:=[(71:UInt8),(66:UInt8),(80:UInt8)]:Array UInt8 }:ByteArray }),.string ({ data:={ toList:=[(56:UInt8),(50:UInt8),(54:UInt8)]:Array UInt8 }:ByteArray }),.int .i64 2,.int .i64 1,.string ({ data:={ toList:=[(72:UInt8),(85:UInt8),(70:UInt8)]:Array UInt8 }:ByteArray }),.string ({ data:={ toList:=[(51:UInt8),(52:UInt8),(56:UInt8)]:Array UInt8 }:ByteArray }),.int .i64 2,.int .i64 500,.string ({ data:={ toList:=[(73:UInt8),(83:UInt8),(75:UInt8)]:Array UInt8 }:ByteArray }),.string ({ data:={ toList:=[(51:UInt8),(53:UInt8),(50:UInt8)]:Array UInt8 }:ByteArray }),.int .i64 0,.int .i64 1,.string ({ data:={ toList:=[(74:UInt8),(80:UInt8),(89:UInt8)]:Array UInt8 }:ByteArray }),.string ({ data:={ toList:=[(51:UInt8),(57:UInt8),(50:UInt8)]:Array UInt8 }:ByteArray }),.int .i64 0,.int .i64 1,.string ({ data:={ toList:=[(75:UInt8),(82:UInt8),(87:UInt8)]:Array UInt8 }:ByteArray }),.string ({ data:={ toList:=[(52:UInt8),(49:UInt8),(48:UInt8)]:Array UInt8 }:ByteArray }),.int .i64 0,.int .i64 10,.string ({ data:={ toList:=[(75:UInt8),(87:UInt8),(68:UInt8)]:Array UInt8 }:ByteArray }),.string ({ data:={ toList:=[(52:UInt8),(49:UInt8),(52:UInt8)]:Array UInt8 }:ByteArray }),.int .i64 3,.int .i64 5,.string ({ data:={ toList:=[(78:UInt8),(79:UInt8),(75:UInt8)]:Array UInt8 }:ByteArray }),.string ({ data:={ toList:=[(53:UInt8),(55:UInt8),(56:UInt8)]:Array UInt8 }:ByteArray }),.int .i64 2,.int .i64 100,.string ({ data:={ toList:=[(78:UInt8),(90:UInt8),(68:UInt8)]:Array UInt8 }:ByteArray }),.string ({ data:={ toList:=[(53:UInt8),(53:UInt8),(52:UInt8)]:Array UInt8 }:ByteArray }),.int .i64 2,.int .i64 10,.string ({ data:={ toList:=[(80:UInt8),(76:UInt8),(78:UInt8)]:Array UInt8 }:ByteArray }),.string ({ data:={ toList:=[(57:UInt8),(56:UInt8),(53:UInt8)]:Array UInt8 }:ByteArray }),.int .i64 2,.int .i64 1,.string ({ data:={ toList:=[(83:UInt8),(69:UInt8),(75:UInt8)]:Array UInt8 }:ByteArray }),.string ({ data:={ toList:=[(55:UInt8),(53:UInt8),(50:UInt8)]:Array UInt8 }:ByteArray }),.int .i64 2,.int .i64 100,.string ({ data:={ toList:=[(84:UInt8),(78:UInt8),(68:UInt8)]:Array UInt8 }:ByteArray }),.string ({ data:={ toList:=[(55:UInt8),(56:UInt8),(56:UInt8)]:Array UInt8 }:ByteArray }),.int .i64 3,.int .i64 10,.string ({ data:={ toList:=[(85:UInt8),(83:UInt8),(68:UInt8)]:Array UInt8 }:ByteArray }),.string ({ data:={ toList:=[(56:UInt8),(52:UInt8),(48:UInt8)]:Array UInt8 }:ByteArray }),.int .i64 2,.int .i64 1] 245 fun b1 c1 =>
 .ret [.slice (some { block:=b1,off:=(0:Nat):Addr }) ((20:Nat)) (c1)]
theorem fS_l08Table :qft qa0 232 [] (tS_l08Table ) :=fitK (by kernel_rfl)
def tI_isLower (x0:Int):T :=
 .br (decide (x0≥(97:Int))) (
  .ret [.bool (decide (x0≤(122:Int)))]) <|
 .rF
theorem fI_isLower x0:qft qa0 233 [.int .u8 x0] (tI_isLower x0) :=fitK (by kernel_rfl)
def tI_isDigit (x0:Int):T :=
 .br (decide (x0≥(48:Int))) (
  .ret [.bool (decide (x0≤(57:Int)))]) <|
 .rF
theorem fI_isDigit x0:qft qa0 234 [.int .u8 x0] (tI_isDigit x0) :=fitK (by kernel_rfl)
def tI_DecOk (x0:qy7):T :=
 .qc7 62 [qv0 (x0.1,x0.2.1,())] fun y1 =>
 .br y1 (
  .br (decide ((↑x0.2.1.n:Int)≤(6:Int))) (
   .qc7 242 [.int .i64 x0.2.2.1] fun y2 =>
   .ret [.bool y2]) <|
 .rF) <|
 .rF
theorem fI_DecOk x0:qft qa0 235 [qv6 x0] (tI_DecOk x0) :=fitK (by kernel_rfl)
def tI_decCopy (x0:qy7):T :=
 .rg <|
 .qc21 66 [qv0 (x0.1,x0.2.1,())] fun y1 =>
 .ret [qv6 (y1.1,y1.2.1,((x0.2.2.1):Int),())]
theorem fI_decCopy x0:qft qa0 236 [qv6 x0] (tI_decCopy x0) :=fitK (by kernel_rfl)
def tS_l06Away (x0:Bool) (x1:SlV) (x2:SlV) (x3:SlV) (x4:Int):T :=
 .qc6 228 [Sc.val .l x2,Sc.val .l x2] fun y1 =>
 .qc0 212 [Sc.val .l y1,Sc.val .l x3] fun y2 =>
 .br (x4 == (0:Int)) (
  .rF) <|
 .br (x4 == (1:Int)) (
  .rT) <|
 .br (x4 == (2:Int)) (
  .ret [.bool x0]) <|
 .br (x4 == (3:Int)) (
  .ret [.bool (!x0)]) <|
 .br (x4 == (4:Int)) (
  .ret [.bool (decide (y2 > (0:Int)))]) <|
 .br (x4 == (5:Int)) (
  .ret [.bool (decide (y2≥(0:Int)))]) <|
 .br (decide (y2 > (0:Int))) (
  .rT) <|
 .br (y2 == (0:Int)) (
  .qc7 243 [Sc.val .l x1] fun y3 =>
  .ret [.bool (!y3)]) <|
 .rF
theorem fS_l06Away x0 x1 x2 x3 x4:qft qa0 237 [.bool x0,Sc.val .l x1,Sc.val .l x2,Sc.val .l x3,.int .i64 x4] (tS_l06Away x0 x1 x2 x3 x4) :=fitK (by kernel_rfl)
def tS_RatInt (x0:qy0):T :=
 .rg <|
 .qc21 149 [.int .i64 1] fun y1 =>
 .qc38 160 [qv0 x0,qv0 y1] fun y2 =>
 .ret [qv1 y2.1,.bool y2.2.1]
theorem fS_RatInt x0:qft qa0 238 [qv0 x0] (tS_RatInt x0) :=fitK (by kernel_rfl)
def tS_RatSub (x0:qy2) (x1:qy2):T :=
 .qc38 219 [qv1 x1] fun y1 =>
 .bn y1.2.1 (.ret [qv1 ((false),nilS,nilS,()),.bool (false)]) <|
 .qc38 152 [qv1 x0,qv1 y1.1] fun y2 =>
 .ret [qv1 y2.1,.bool y2.2.1]
theorem fS_RatSub x0 x1:qft qa0 239 [qv1 x0,qv1 x1] (tS_RatSub x0 x1) :=fitK (by kernel_rfl)
def aS_l03Small:An:=⟨[(4,[.s 6,.s 7,.s 8],[.a 3,.o (.o (.i .i64)),.o (.o (.i .i64))])],[],[]⟩
def tS_l03Small (x0:SlV) (x1:Int):T :=
 .rq ((0:Int)≤(↑x0.n:Int)∧(↑x0.n:Int)≤(↑x0.n:Int)∧(↑(8:Nat):Int)*(↑x0.n:Int)≤(281474976710656:Int)∧(↑x0.n:Int)≤(9223372036854775807:Int)) <|
 .lp [.a 3,.o (.o (.i .i64)),.o (.o (.i .i64))] [.a 3 ((↑x0.n:Int).toNat) ((madeCells { toList:=[Value.int IntKind.i64 (0:Int)]:Array Value } ((↑x0.n:Int).toNat*(1:Nat))).toList),.v (.int .i64 0),.v (.int .i64 (IntKind.i64.wrap ((↑x0.n:Int)-(1:Int))))] fun y1 =>
 .br (decide (y1.2.2.1≥(0:Int))) (
  .el x0.1 (x0.n) y1.2.2.1 fun y2 =>
  .ql15 (y2.add (Int.toNat y1.2.2.1*(1:Nat))) fun y3 =>
  .rq (x1≠(0:Int)) <|
 .rq ((0:Int)≤y1.2.2.1∧y1.2.2.1<(↑y1.1.1:Int)) <|
 .rq (Int.toNat y1.2.2.1*(1:Nat)+[Value.int IntKind.i64 (IntKind.i64.wrap ((IntKind.i64.wrap (IntKind.i64.wrap (y1.2.1*(1000000000:Int))+y3)).tdiv x1))].length≤y1.1.2.length) <|
 .rq (x1≠(0:Int)) <|
 .nx 0 [.a 3 y1.1.1 (setl y1.1.2 (Int.toNat y1.2.2.1*(1:Nat)) [Value.int IntKind.i64 (IntKind.i64.wrap ((IntKind.i64.wrap (IntKind.i64.wrap (y1.2.1*(1000000000:Int))+y3)).tdiv x1))]),.v (.int .i64 ((IntKind.i64.wrap (IntKind.i64.wrap (y1.2.1*(1000000000:Int))+y3)).tmod x1)),.v (.int .i64 (IntKind.i64.wrap (y1.2.2.1-(1:Int))))]) <|
 .fz y1.1.1 y1.1.2 3 fun b2 c2 =>
 .qc6 205 [.slice (some { block:=b2,off:=(0:Nat):Addr }) y1.1.1 (c2)] fun y3 =>
 .ret [Sc.val .l y3,.int .i64 y1.2.1]
theorem fS_l03Small x0 x1:qft aS_l03Small 240 [Sc.val .l x0,.int .i64 x1] (tS_l03Small x0 x1) :=fitK (by kernel_rfl)
def aS_l03Digit:An:=⟨[(3,[.s 5,.s 6],[.o (.o (.i .i64)),.o (.o (.i .i64))])],[],[]⟩
def tS_l03Digit (x0:SlV) (x1:SlV):T :=
 .lp [.o (.o (.i .i64)),.o (.o (.i .i64))] [.v (.int .i64 0),.v (.int .i64 999999999)] fun y1 =>
 .br (decide (y1.1<y1.2.1)) (
  .rq ((2:Int)≠(0:Int)) <|
 .qc6 158 [.int .i64 (IntKind.i64.wrap ((IntKind.i64.wrap (IntKind.i64.wrap (y1.1+y1.2.1)+(1:Int))).tdiv (2:Int)))] fun y2 =>
  .qc6 200 [Sc.val .l x1,Sc.val .l y2] fun y3 =>
  .qc0 212 [Sc.val .l y3,Sc.val .l x0] fun y4 =>
  .br (decide (y4≤(0:Int))) (
   .nx 0 [.v (.int .i64 (IntKind.i64.wrap ((IntKind.i64.wrap (IntKind.i64.wrap (y1.1+y1.2.1)+(1:Int))).tdiv (2:Int)))),.v (.int .i64 y1.2.1)]) <|
 .nx 0 [.v (.int .i64 y1.1),.v (.int .i64 (IntKind.i64.wrap (IntKind.i64.wrap ((IntKind.i64.wrap (IntKind.i64.wrap (y1.1+y1.2.1)+(1:Int))).tdiv (2:Int))-(1:Int))))]) <|
 .ret [.int .i64 y1.1]
theorem fS_l03Digit x0 x1:qft aS_l03Digit 241 [Sc.val .l x0,Sc.val .l x1] (tS_l03Digit x0 x1) :=fitK (by kernel_rfl)
def tI_isScale (x0:Int):T :=
 .br (decide (x0≥(0:Int))) (
  .ret [.bool (decide (x0≤(30:Int)))]) <|
 .rF
theorem fI_isScale x0:qft qa0 242 [.int .i64 x0] (tI_isScale x0) :=fitK (by kernel_rfl)
def tS_NatEven (x0:SlV):T :=
 .qc7 211 [Sc.val .l x0] fun y1 =>
 .br y1 (
  .br ((↑x0.n:Int) == (0:Int)) (
   .rT) <|
 .el x0.1 (x0.n) ((0:Int)) fun y2 =>
  .ql15 (y2.add (Int.toNat (0:Int)*(1:Nat))) fun y3 =>
  .rq ((2:Int)≠(0:Int)) <|
 .ret [.bool (y3.tmod (2:Int) == (0:Int))]) <|
 .rF
theorem fS_NatEven x0:qft qa0 243 [Sc.val .l x0] (tS_NatEven x0) :=fitK (by kernel_rfl)
def aI_opDeal__run:An:=⟨[(14,[.s 10,.s 80],[.a 133,.o (.o (.i .i64))])],[],[]⟩
def tI_opDeal__run (x0:ByteArray × SlV × SlV × ByteArray × Bool × SlV × PUnit) (x1:qy3):T :=
 .qc7 206 [.string x0.1] fun y1 =>
 .bn y1 (.ret [qv3 (nilS,nilS,({ data:={ toList:=[]:Array UInt8 }:ByteArray }),nilS,()),.int .i64 1]) <|
 .qc7 301 [Sc.val .l x0.2.1] fun y2 =>
 .bn y2 (.ret [qv3 (nilS,nilS,({ data:={ toList:=[]:Array UInt8 }:ByteArray }),nilS,()),.int .i64 1]) <|
 .qc7 302 [qv2 x0.2.2.2] fun y3 =>
 .bn y3 (.ret [qv3 (nilS,nilS,({ data:={ toList:=[]:Array UInt8 }:ByteArray }),nilS,()),.int .i64 1]) <|
 .br ((↑x0.2.1.n:Int) != (↑x0.2.2.1.n:Int)) (
  .ret [qv3 (nilS,nilS,({ data:={ toList:=[]:Array UInt8 }:ByteArray }),nilS,()),.int .i64 1]) <|
 .qc7 303 [Sc.val .l x0.2.2.1] fun y4 =>
 .bn y4 (.ret [qv3 (nilS,nilS,({ data:={ toList:=[]:Array UInt8 }:ByteArray }),nilS,()),.int .i64 7]) <|
 .rd ({ a:=x0.2.1.1,n:=x0.2.1.n,c:=x0.2.1.c:SlV }) ((1:Nat)) fun y5 =>
 .rq (one y5=true∧((1:Nat)+x0.2.1.n)*(16:Nat)≤(140737488355328:Nat)∧(1:Nat)+x0.2.1.n≤(9223372036854775807:Nat)) <|
 .fz ((1:Nat)+x0.2.1.n) ([Value.string x0.1]++y5) 9 fun b6 c6 =>
 .qc0 304 [qv3 x1,.string x0.2.2.2.1,.slice (some { block:=b6,off:=(0:Nat):Addr }) ((1:Nat)+x0.2.1.n) (c6)] fun y7 =>
 .br (y7 != (0:Int)) (
  .ret [qv3 (nilS,nilS,({ data:={ toList:=[]:Array UInt8 }:ByteArray }),nilS,()),.int .i64 y7]) <|
 .qc11 305 [qv2 x0.2.2.2,Sc.val .l x0.2.2.1] fun y8 =>
 .bn y8.2.1 (.ret [qv3 (nilS,nilS,({ data:={ toList:=[]:Array UInt8 }:ByteArray }),nilS,()),.int .i64 8]) <|
 .rg <|
 .qc8 306 [qv2 x0.2.2.2] fun y9 =>
 .lp [.a 133,.o (.o (.i .i64))] [.a 133 ((1:Nat)) [.string x0.1,.string y9.1,.bool y9.2.1,Sc.val .l y9.2.2.1],.v (.int .i64 0)] fun y10 =>
 .br (decide (y10.2.1<(↑y8.1.n:Int))) (
  .el y8.1.1 (y8.1.n) y10.2.1 fun y11 =>
  .ql9 (y11.add (Int.toNat y10.2.1*(3:Nat))) fun y12 =>
  .rg <|
 .el x0.2.1.1 (x0.2.1.n) y10.2.1 fun y13 =>
  .ql12 (y13.add (Int.toNat y10.2.1*(1:Nat))) fun y14 =>
  .rq ([Value.string y14,Value.string y12.1,Value.bool y12.2.1,Value.slice y12.2.2.1.1 y12.2.2.1.n y12.2.2.1.c].length=(1:Nat)*(4:Nat)) <|
 .rq (one [Value.string y14,Value.string y12.1,Value.bool y12.2.1,Value.slice y12.2.2.1.1 y12.2.2.1.n y12.2.2.1.c]=true∧(y10.1.1+(1:Nat))*(64:Nat)≤(140737488355328:Nat)∧y10.1.1+(1:Nat)≤(9223372036854775807:Nat)) <|
 .nx 0 [.a 133 (y10.1.1+(1:Nat)) (y10.1.2++[Value.string y14,Value.string y12.1,Value.bool y12.2.1,Value.slice y12.2.2.1.1 y12.2.2.1.n y12.2.2.1.c]),.v (.int .i64 (IntKind.i64.wrap (y10.2.1+(1:Int))))]) <|
 .fz y10.1.1 y10.1.2 133 fun b11 c11 =>
 .qc4 307 [qv3 x1,.slice (some { block:=b11,off:=(0:Nat):Addr }) y10.1.1 (c11)] fun y12 =>
 .ret [qv3 y12.1,.int .i64 y12.2.1]
theorem fI_opDeal__run x0 x1:qft aI_opDeal__run 300 [qv11 x0,qv3 x1] (tI_opDeal__run x0 x1) :=fitK (by kernel_rfl)
def aI_areNames:An:=⟨[(2,[.s 7],[.o (.o (.i .i64))])],[],[]⟩
def tI_areNames (x0:SlV):T :=
 .lp [.o (.o (.i .i64))] [.v (.int .i64 0)] fun y1 =>
 .br (decide (y1.1<(↑x0.n:Int))) (
  .el x0.1 (x0.n) y1.1 fun y2 =>
  .ql10 (y2.add (Int.toNat y1.1*(1:Nat))) fun y3 =>
  .qc7 206 [.string y3] fun y4 =>
  .bF y4 <|
 .nx 0 [.v (.int .i64 (IntKind.i64.wrap (y1.1+(1:Int))))]) <|
 .rT
theorem fI_areNames x0:qft aI_areNames 301 [Sc.val .l x0] (tI_areNames x0) :=fitK (by kernel_rfl)
def tI_payable (x0:qy1):T :=
 .qc7 65 [qv2 x0] fun y1 =>
 .br y1 (
  .ret [.bool (!x0.2.1)]) <|
 .rF
theorem fI_payable x0:qft qa0 302 [qv2 x0] (tI_payable x0) :=fitK (by kernel_rfl)
def aI_WeightsOk:An:=⟨[(5,[.s 3,.s 16],[.o (.o (.i .i64)),.o (.o (.i .i64))])],[],[]⟩
def tI_WeightsOk (x0:SlV):T :=
 .br (decide ((↑x0.n:Int)<(1:Int))) (
  .rF) <|
 .br (decide ((↑x0.n:Int) > (30:Int))) (
  .rF) <|
 .lp [.o (.o (.i .i64)),.o (.o (.i .i64))] [.v (.int .i64 0),.v (.int .i64 0)] fun y1 =>
 .br (decide (y1.2.1<(↑x0.n:Int))) (
  .el x0.1 (x0.n) y1.2.1 fun y2 =>
  .ql15 (y2.add (Int.toNat y1.2.1*(1:Nat))) fun y3 =>
  .br (decide (y3<(0:Int))) (
   .rF) <|
 .br (decide (y3 > (1000000000:Int))) (
   .rF) <|
 .nx 0 [.v (.int .i64 (IntKind.i64.wrap (y1.1+y3))),.v (.int .i64 (IntKind.i64.wrap (y1.2.1+(1:Int))))]) <|
 .ret [.bool (decide (y1.1 > (0:Int)))]
theorem fI_WeightsOk x0:qft aI_WeightsOk 303 [Sc.val .l x0] (tI_WeightsOk x0) :=fitK (by kernel_rfl)
def tI_fits (x0:qy3) (x1:ByteArray) (x2:SlV):T :=
 .qc0 308 [qv3 x0,Sc.val .l x2] fun y1 =>
 .br (y1 != (0:Int)) (
  .ret [.int .i64 y1]) <|
 .qc0 309 [qv3 x0,.string x1,Sc.val .l x2] fun y2 =>
 .ret [.int .i64 y2]
theorem fI_fits x0 x1 x2:qft qa0 304 [qv3 x0,.string x1,Sc.val .l x2] (tI_fits x0 x1 x2) :=fitK (by kernel_rfl)
def aI_ShareMoney:An:=⟨[(8,[.s 8,.s 26],[.a 38,.o (.o (.i .i64))])],[],[]⟩
def tI_ShareMoney (x0:qy1) (x1:SlV):T :=
 .qc7 65 [qv2 x0] fun y1 =>
 .bn y1 (.ret [.slice none 0 0,.bool (false)]) <|
 .qc11 310 [qv0 x0.2,Sc.val .l x1] fun y2 =>
 .bn y2.2.1 (.ret [.slice none 0 0,.bool (false)]) <|
 .lp [.a 38,.o (.o (.i .i64))] [.a 38 ((0:Nat)) [],.v (.int .i64 0)] fun y3 =>
 .br (decide (y3.2.1<(↑y2.1.n:Int))) (
  .el y2.1.1 (y2.1.n) y3.2.1 fun y4 =>
  .ql23 (y4.add (Int.toNat y3.2.1*(2:Nat))) fun y5 =>
  .rq ([Value.string x0.1,Value.bool y5.1,Value.slice y5.2.1.1 y5.2.1.n y5.2.1.c].length=(1:Nat)*(3:Nat)) <|
 .rq (one [Value.string x0.1,Value.bool y5.1,Value.slice y5.2.1.1 y5.2.1.n y5.2.1.c]=true∧(y3.1.1+(1:Nat))*(48:Nat)≤(140737488355328:Nat)∧y3.1.1+(1:Nat)≤(9223372036854775807:Nat)) <|
 .nx 0 [.a 38 (y3.1.1+(1:Nat)) (y3.1.2++[Value.string x0.1,Value.bool y5.1,Value.slice y5.2.1.1 y5.2.1.n y5.2.1.c]),.v (.int .i64 (IntKind.i64.wrap (y3.2.1+(1:Int))))]) <|
 .fz y3.1.1 y3.1.2 38 fun b4 c4 =>
 .ret [.slice (some { block:=b4,off:=(0:Nat):Addr }) y3.1.1 (c4),.bool (true)]
theorem fI_ShareMoney x0 x1:qft aI_ShareMoney 305 [qv2 x0,Sc.val .l x1] (tI_ShareMoney x0 x1) :=fitK (by kernel_rfl)
def tI_minus (x0:qy1):T :=
 .rg <|
 .qc21 54 [qv0 x0.2] fun y1 =>
 .ret [qv2 (x0.1,y1.1,y1.2.1,())]
theorem fI_minus x0:qft qa0 306 [qv2 x0] (tI_minus x0) :=fitK (by kernel_rfl)
def aI_post:An:=⟨[(2,[.s 12,.c 2 0,.c 2 1,.c 2 2,.c 2 3,.c 4 0,.c 4 1,.c 4 2,.c 4 3],[.o (.o (.i .i64)),.o (.o (.l)),.o (.o (.l)),.o (.o (.s)),.o (.o (.l)),.o (.o (.l)),.o (.o (.l)),.o (.o (.s)),.o (.o (.l))])],[],[]⟩
def tI_post (x0:qy3) (x1:SlV):T :=
 .lp [.o (.o (.i .i64)),.o (.o (.l)),.o (.o (.l)),.o (.o (.s)),.o (.o (.l)),.o (.o (.l)),.o (.o (.l)),.o (.o (.s)),.o (.o (.l))] [.v (.int .i64 0),.v (Sc.val .l x0.1),.v (Sc.val .l x0.2.1),.v (.string x0.2.2.1),.v (Sc.val .l x0.2.2.2.1),.v (.slice none 0 0),.v (.slice none 0 0),.v (.string ({ data:={ toList:=[]:Array UInt8 }:ByteArray })),.v (.slice none 0 0)] fun y1 =>
 .br (decide (y1.1<(↑x1.n:Int))) (
  .el x1.1 (x1.n) y1.1 fun y2 =>
  .ql24 (y2.add (Int.toNat y1.1*(4:Nat))) fun y3 =>
  .qc26 311 [qv4 (y1.2.1,()),.string y3.1,qv2 y3.2] fun y4 =>
  .bn y4.2.1 (.ret [qv3 (nilS,nilS,({ data:={ toList:=[]:Array UInt8 }:ByteArray }),nilS,()),.int .i64 8]) <|
 .nx 0 [.v (.int .i64 (IntKind.i64.wrap (y1.1+(1:Int)))),.v (Sc.val .l y4.1.1),.v (Sc.val .l y1.2.2.1),.v (.string y1.2.2.2.1),.v (Sc.val .l y1.2.2.2.2.1),.v (Sc.val .l y1.2.2.2.2.2.1),.v (Sc.val .l y1.2.2.2.2.2.2.1),.v (.string y1.2.2.2.2.2.2.2.1),.v (Sc.val .l y1.2.2.2.2.2.2.2.2.1)]) <|
 .ret [qv3 (y1.2.1,y1.2.2.1,y1.2.2.2.1,y1.2.2.2.2.1,()),.int .i64 0]
theorem fI_post x0 x1:qft aI_post 307 [qv3 x0,Sc.val .l x1] (tI_post x0 x1) :=fitK (by kernel_rfl)
def aI_haveAccts:An:=⟨[(2,[.s 9],[.o (.o (.i .i64))])],[],[]⟩
def tI_haveAccts (x0:qy3) (x1:SlV):T :=
 .lp [.o (.o (.i .i64))] [.v (.int .i64 0)] fun y1 =>
 .br (decide (y1.1<(↑x1.n:Int))) (
  .el x1.1 (x1.n) y1.1 fun y2 =>
  .ql10 (y2.add (Int.toNat y1.1*(1:Nat))) fun y3 =>
  .qc0 43 [qv4 (x0.1,()),.string y3] fun y4 =>
  .br (decide (y4<(0:Int))) (
   .ret [.int .i64 3]) <|
 .nx 0 [.v (.int .i64 (IntKind.i64.wrap (y1.1+(1:Int))))]) <|
 .ret [.int .i64 0]
theorem fI_haveAccts x0 x1:qft aI_haveAccts 308 [qv3 x0,Sc.val .l x1] (tI_haveAccts x0 x1) :=fitK (by kernel_rfl)
def aI_match:An:=⟨[(2,[.s 13],[.o (.o (.i .i64))])],[],[]⟩
def tI_match (x0:qy3) (x1:ByteArray) (x2:SlV):T :=
 .lp [.o (.o (.i .i64))] [.v (.int .i64 0)] fun y1 =>
 .br (decide (y1.1<(↑x2.n:Int))) (
  .el x2.1 (x2.n) y1.1 fun y2 =>
  .ql10 (y2.add (Int.toNat y1.1*(1:Nat))) fun y3 =>
  .qc46 7 [qv4 (x0.1,()),.string y3] fun y4 =>
  .br (!ByteArray.toList y4.1.1 == x1.toList) (
   .ret [.int .i64 5]) <|
 .nx 0 [.v (.int .i64 (IntKind.i64.wrap (y1.1+(1:Int))))]) <|
 .ret [.int .i64 0]
theorem fI_match x0 x1 x2:qft aI_match 309 [qv3 x0,.string x1,Sc.val .l x2] (tI_match x0 x1 x2) :=fitK (by kernel_rfl)
def aI_Shares:An:=⟨[(8,[.s 7,.s 8,.s 9,.s 42],[.o (.o (.l)),.a 34,.a 322,.o (.o (.i .i64))]),(21,[.s 8,.s 92],[.a 34,.o (.o (.i .i64))]),(27,[.s 19,.s 111],[.a 36,.o (.o (.i .i64))])],[],[]⟩
def tI_Shares (x0:qy0) (x1:SlV):T :=
 .qc7 303 [Sc.val .l x1] fun y1 =>
 .bn y1 (.ret [.slice none 0 0,.bool (false)]) <|
 .qc7 62 [qv0 x0] fun y2 =>
 .bn y2 (.ret [.slice none 0 0,.bool (false)]) <|
 .qc0 312 [Sc.val .l x1] fun y3 =>
 .qc6 12 [.int .i64 y3] fun y4 =>
 .qc6 63 [Sc.val .l x0.2.1] fun y5 =>
 .rq ((0:Int)≤(↑x1.n:Int)∧(↑x1.n:Int)≤(↑x1.n:Int)∧(↑(24:Nat):Int)*(↑x1.n:Int)≤(281474976710656:Int)∧(↑x1.n:Int)≤(9223372036854775807:Int)) <|
 .lp [.o (.o (.l)),.a 34,.a 322,.o (.o (.i .i64))] [.v (Sc.val .l y5),.a 34 ((↑x1.n:Int).toNat) ((madeCells { toList:=[Value.slice none (0:Nat) (0:Nat)]:Array Value } ((↑x1.n:Int).toNat*(1:Nat))).toList),.a 322 ((0:Nat)) [],.v (.int .i64 0)] fun y6 =>
 .br (decide (y6.2.2.2.1<(↑x1.n:Int))) (
  .qc38 313 [qv0 x0,Sc.val .l x1,.int .i64 y6.2.2.2.1] fun y7 =>
  .bn y7.2.1 (.ret [.slice none 0 0,.bool (false)]) <|
 .rg <|
 .el x1.1 (x1.n) y6.2.2.2.1 fun y8 =>
  .ql17 (y8.add (Int.toNat y6.2.2.2.1*(1:Nat))) fun y9 =>
  .qc2 12 [.int .i64 y9] fun y10 =>
  .qc6 110 [Sc.val .l x0.2.1,Sc.val .l y10] fun y11 =>
  .qc34 49 [Sc.val .l y11,Sc.val .l y4] fun y12 =>
  .rq ((0:Int)≤y6.2.2.2.1∧y6.2.2.2.1<(↑y6.2.1.1:Int)) <|
 .rq (Int.toNat y6.2.2.2.1*(1:Nat)+[Value.slice y12.1.1 y12.1.n y12.1.c].length≤y6.2.1.2.length) <|
 .qc6 115 [Sc.val .l y6.1,Sc.val .l y12.1] fun y13 =>
  .rq ([Value.int IntKind.i64 y6.2.2.2.1,Value.slice y12.2.1.1 y12.2.1.n y12.2.1.c].length=(1:Nat)*(2:Nat)) <|
 .rq (one [Value.int IntKind.i64 y6.2.2.2.1,Value.slice y12.2.1.1 y12.2.1.n y12.2.1.c]=true∧(y6.2.2.1.1+(1:Nat))*(32:Nat)≤(140737488355328:Nat)∧y6.2.2.1.1+(1:Nat)≤(9223372036854775807:Nat)) <|
 .nx 0 [.v (Sc.val .l y13),.a 34 y6.2.1.1 (setl y6.2.1.2 (Int.toNat y6.2.2.2.1*(1:Nat)) [Value.slice y12.1.1 y12.1.n y12.1.c]),.a 322 (y6.2.2.1.1+(1:Nat)) (y6.2.2.1.2++[Value.int IntKind.i64 y6.2.2.2.1,Value.slice y12.2.1.1 y12.2.1.n y12.2.1.c]),.v (.int .i64 (IntKind.i64.wrap (y6.2.2.2.1+(1:Int))))]) <|
 .fz y6.2.2.1.1 y6.2.2.1.2 322 fun b7 c7 =>
 .qc6 314 [.slice (some { block:=b7,off:=(0:Nat):Addr }) y6.2.2.1.1 (c7),(Value.func (Fn.func (315:Nat)) { toList:=[]:Array Value } { toList:=[]:Array Value })] fun y8 =>
 .qc41 318 [Sc.val .l y6.1] fun y9 =>
 .rq ((0:Int)≤(0:Int)∧(0:Int)≤y9.1∧y9.1≤(↑y8.c:Int)∧(↑y8.c:Int)≤(↑y8.c:Int)) <|
 .lp [.a 34,.o (.o (.i .i64))] [.a 34 y6.2.1.1 y6.2.1.2,.v (.int .i64 0)] fun y10 =>
 .br (decide (y10.2.1<(↑(Int.toNat y9.1-Int.toNat (0:Int)):Int))) (
  .el (if (↑y8.c:Int).toNat=Int.toNat (0:Int) then y8.1 else Option.map (fun x=>x.add (Int.toNat (0:Int)*Go.Proofs.Tryz.prog.types[(322:Nat)].size)) y8.1) (Int.toNat y9.1-Int.toNat (0:Int)) y10.2.1 fun y11 =>
  .ql58 (y11.add (Int.toNat y10.2.1*(2:Nat))) fun y12 =>
  .rg <|
 .rq ((0:Int)≤y12.1∧y12.1<(↑y10.1.1:Int)) <|
 .xs y10.1.2 (Int.toNat y12.1*(1:Nat)) (.o (.l)) fun y13 =>
  .es [.int .i64 1] 3 fun b14 =>
  .qc2 114 [Sc.val .l y13,.slice (some { block:=b14,off:=(0:Nat):Addr }) ((1:Nat)) ((1:Nat))] fun y15 =>
  .rq ((0:Int)≤y12.1∧y12.1<(↑y10.1.1:Int)) <|
 .rq (Int.toNat y12.1*(1:Nat)+[Value.slice y15.1 y15.n y15.c].length≤y10.1.2.length) <|
 .nx 1 [.a 34 y10.1.1 (setl y10.1.2 (Int.toNat y12.1*(1:Nat)) [Value.slice y15.1 y15.n y15.c]),.v (.int .i64 (IntKind.i64.wrap (y10.2.1+(1:Int))))]) <|
 .lp [.a 36,.o (.o (.i .i64))] [.a 36 ((0:Nat)) [],.v (.int .i64 0)] fun y11 =>
 .br (decide (y11.2.1<(↑y10.1.1:Int))) (
  .rq ((0:Int)≤y11.2.1∧y11.2.1<(↑y10.1.1:Int)) <|
 .xs y10.1.2 (Int.toNat y11.2.1*(1:Nat)) (.o (.l)) fun y12 =>
  .qc16 113 [.bool x0.1,Sc.val .l y12] fun y13 =>
  .rq ([Value.bool y13.1,Value.slice y13.2.1.1 y13.2.1.n y13.2.1.c].length=(1:Nat)*(2:Nat)) <|
 .rq (one [Value.bool y13.1,Value.slice y13.2.1.1 y13.2.1.n y13.2.1.c]=true∧(y11.1.1+(1:Nat))*(32:Nat)≤(140737488355328:Nat)∧y11.1.1+(1:Nat)≤(9223372036854775807:Nat)) <|
 .nx 2 [.a 36 (y11.1.1+(1:Nat)) (y11.1.2++[Value.bool y13.1,Value.slice y13.2.1.1 y13.2.1.n y13.2.1.c]),.v (.int .i64 (IntKind.i64.wrap (y11.2.1+(1:Int))))]) <|
 .fz y11.1.1 y11.1.2 36 fun b12 c12 =>
 .ret [.slice (some { block:=b12,off:=(0:Nat):Addr }) y11.1.1 (c12),.bool (true)]
theorem fI_Shares x0 x1:qft aI_Shares 310 [qv0 x0,Sc.val .l x1] (tI_Shares x0 x1) :=fitK (by kernel_rfl)
end
end Go.Proofs.YtfiakghfncempaaGreatDoor
