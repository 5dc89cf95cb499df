/-
  What each function of the seat comes to, as a tree; each tree is checked against the code.
-/
import Derived.Test.YtagkjnpggkmehaaGreatDoorTA
namespace Go.Proofs.YtagkjnpggkmehaaGreatDoor
open Sx
set_option maxRecDepth 100000
noncomputable section
def aI_natCmp:An:=⟨[(6,[.s 5],[.o (.o (.i .i64))])],[],[]⟩
def tI_natCmp (x0:SlV) (x1:SlV):T :=
 .br ((↑x0.n:Int) != (↑x1.n:Int)) (
  .br (decide ((↑x0.n:Int)<(↑x1.n:Int))) (
   .rM) <|
 .ret [.int .i64 1]) <|
 .lp [.o (.o (.i .i64))] [.v (.int .i64 (IntKind.i64.wrap ((↑x0.n:Int)-(1:Int))))] fun y1 =>
 .br (decide (y1.1≥(0:Int))) (
  .rg <|
 .el x0.1 (x0.n) y1.1 fun y2 =>
  .ql33 (y2.add (Int.toNat y1.1*(1:Nat))) fun y3 =>
  .el x1.1 (x1.n) y1.1 fun y4 =>
  .ql33 (y4.add (Int.toNat y1.1*(1:Nat))) fun y5 =>
  .br (y3 != y5) (
   .rg <|
 .el x0.1 (x0.n) y1.1 fun y6 =>
   .ql33 (y6.add (Int.toNat y1.1*(1:Nat))) fun y7 =>
   .el x1.1 (x1.n) y1.1 fun y8 =>
   .ql33 (y8.add (Int.toNat y1.1*(1:Nat))) fun y9 =>
   .br (decide (y7<y9)) (
    .rM) <|
 .ret [.int .i64 1]) <|
 .nx 0 [.v (.int .i64 (IntKind.i64.wrap (y1.1-(1:Int))))]) <|
 .ret [.int .i64 0]
theorem fI_natCmp x0 x1:qft aI_natCmp 119 [Sc.val .l x0,Sc.val .l x1] (tI_natCmp x0 x1) :=fitK (by kernel_rfl)
def aI_trim:An:=⟨[(1,[.s 0],[.o (.o (.l))])],[],[]⟩
def tI_trim (x0:SlV):T :=
 .lp [.o (.o (.l))] [.v (Sc.val .l x0)] fun y1 =>
 .br (decide ((↑y1.1.n:Int) > (0:Int))) (
  .el y1.1.1 (y1.1.n) (IntKind.i64.wrap ((↑y1.1.n:Int)-(1:Int))) fun y2 =>
  .ql19 (y2.add ((IntKind.i64.wrap ((↑y1.1.n:Int)-(1:Int))).toNat*(1:Nat))) fun y3 =>
  .br (y3 == (0:Int)) (
   .rq ((0:Int)≤(0:Int)∧(0:Int)≤IntKind.i64.wrap ((↑y1.1.n:Int)-(1:Int))∧IntKind.i64.wrap ((↑y1.1.n:Int)-(1:Int))≤(↑y1.1.c:Int)∧(↑y1.1.c:Int)≤(↑y1.1.c:Int)) <|
 .nx 0 [.v (.slice (if (↑y1.1.c:Int).toNat=Int.toNat (0:Int) then y1.1.1 else Option.map (fun x=>x.add (Int.toNat (0:Int)*Go.Proofs.Tryz.prog.types[(3:Nat)].size)) y1.1.1) ((IntKind.i64.wrap ((↑y1.1.n:Int)-(1:Int))).toNat-Int.toNat (0:Int)) ((↑y1.1.c:Int).toNat-Int.toNat (0:Int)))]) <|
 .ret [Sc.val .l y1.1]) <|
 .ret [Sc.val .l y1.1]
theorem fI_trim x0:qft aI_trim 121 [Sc.val .l x0] (tI_trim x0) :=fitK (by kernel_rfl)
def aS_BookOk:An:=⟨[(2,[.s 8],[.o (.o (.i .i64))])],[],[]⟩
def tS_BookOk (x0:qy3):T :=
 .lp [.o (.o (.i .i64))] [.v (.int .i64 0)] fun y1 =>
 .br (decide (y1.1<(↑x0.1.n:Int))) (
  .el x0.1.1 (x0.1.n) y1.1 fun y2 =>
  .ql14 (y2.add (Int.toNat y1.1*(4:Nat))) fun y3 =>
  .rg <|
 .qc3 192 [.string y3.1] fun y4 =>
  .bF y4 <|
 .qc3 193 [qv3 y3.2] fun y5 =>
  .bF y5 <|
 .br (decide (y1.1 > (0:Int))) (
   .el x0.1.1 (x0.1.n) (IntKind.i64.wrap (y1.1-(1:Int))) fun y6 =>
   .ql8 ((y6.add ((IntKind.i64.wrap (y1.1-(1:Int))).toNat*(4:Nat))).add (0:Nat)) fun y7 =>
   .br (!Op.bytesLess y7.toList (ByteArray.toList y3.1)) (
    .rF) <|
 .nx 0 [.v (.int .i64 (IntKind.i64.wrap (y1.1+(1:Int))))]) <|
 .nx 0 [.v (.int .i64 (IntKind.i64.wrap (y1.1+(1:Int))))]) <|
 .ret [.bool (decide ((↑x0.1.n:Int)≤(12:Int)))]
theorem fS_BookOk x0:qft aS_BookOk 125 [qv4 x0] (tS_BookOk x0) :=fitK (by kernel_rfl)
def aS_RatesOk:An:=⟨[(4,[.s 18],[.o (.o (.i .i64))])],[],[]⟩
def tS_RatesOk (x0:qy7):T :=
 .qc5 89 [.string x0.1] fun y1 =>
 .bF y1 <|
 .br (decide ((↑x0.2.1.n:Int) > (12:Int))) (
  .rF) <|
 .lp [.o (.o (.i .i64))] [.v (.int .i64 0)] fun y2 =>
 .br (decide (y2.1<(↑x0.2.1.n:Int))) (
  .el x0.2.1.1 (x0.2.1.n) y2.1 fun y3 =>
  .ql13 (y3.add (Int.toNat y2.1*(5:Nat))) fun y4 =>
  .qc5 190 [qv5 y4] fun y5 =>
  .bF y5 <|
 .qc20 194 [Sc.val .l x0.2.1,.string y4.1,.string y4.2.1] fun y6 =>
  .br (y6 != y2.1) (
   .rF) <|
 .nx 0 [.v (.int .i64 (IntKind.i64.wrap (y2.1+(1:Int))))]) <|
 .rT
theorem fS_RatesOk x0:qft aS_RatesOk 126 [qv6 x0] (tS_RatesOk x0) :=fitK (by kernel_rfl)
def aI_CutAt:An:=⟨[(4,[.s 5,.s 6,.s 7],[.a 9,.o (.o (.i .i64)),.o (.o (.i .i64))])],[],[]⟩
def tI_CutAt (x0:ByteArray) (x1:ByteArray):T :=
 .lp [.a 9,.o (.o (.i .i64)),.o (.o (.i .i64))] [.a 9 ((0:Nat)) [],.v (.int .i64 0),.v (.int .i64 0)] fun y1 =>
 .br (decide (y1.2.2.1<(↑x0.size:Int))) (
  .rq ((0:Int)≤y1.2.2.1∧y1.2.2.1<(↑x0.size:Int)) <|
 .qc20 197 [.string x1,.int .u8 (at0 x0 (Int.toNat y1.2.2.1))] fun y2 =>
  .br (decide (y2≥(0:Int))) (
   .rq ((0:Int)≤y1.2.1∧y1.2.1≤y1.2.2.1∧y1.2.2.1≤(↑x0.size:Int)) <|
 .rq ([Value.string (x0.extract (Int.toNat y1.2.1) (Int.toNat y1.2.2.1))].length=(1:Nat)*(1:Nat)) <|
 .rq (one [Value.string (x0.extract (Int.toNat y1.2.1) (Int.toNat y1.2.2.1))]=true∧(y1.1.1+(1:Nat))*(16:Nat)≤(140737488355328:Nat)∧y1.1.1+(1:Nat)≤(9223372036854775807:Nat)) <|
 .nx 0 [.a 9 (y1.1.1+(1:Nat)) (y1.1.2++[Value.string (x0.extract (Int.toNat y1.2.1) (Int.toNat y1.2.2.1))]),.v (.int .i64 (IntKind.i64.wrap (y1.2.2.1+(1:Int)))),.v (.int .i64 (IntKind.i64.wrap (y1.2.2.1+(1:Int))))]) <|
 .nx 0 [.a 9 y1.1.1 y1.1.2,.v (.int .i64 y1.2.1),.v (.int .i64 (IntKind.i64.wrap (y1.2.2.1+(1:Int))))]) <|
 .rq ((0:Int)≤y1.2.1∧y1.2.1≤(↑x0.size:Int)∧(↑x0.size:Int)≤(↑x0.size:Int)) <|
 .rq ([Value.string (x0.extract (Int.toNat y1.2.1) (↑x0.size:Int).toNat)].length=(1:Nat)*(1:Nat)) <|
 .rq (one [Value.string (x0.extract (Int.toNat y1.2.1) (↑x0.size:Int).toNat)]=true∧(y1.1.1+(1:Nat))*(16:Nat)≤(140737488355328:Nat)∧y1.1.1+(1:Nat)≤(9223372036854775807:Nat)) <|
 .fz (y1.1.1+(1:Nat)) (y1.1.2++[Value.string (x0.extract (Int.toNat y1.2.1) (↑x0.size:Int).toNat)]) 9 fun b2 c2 =>
 .ret [.slice (some { block:=b2,off:=(0:Nat):Addr }) (y1.1.1+(1:Nat)) (c2)]
theorem fI_CutAt x0 x1:qft aI_CutAt 129 [.string x0,.string x1] (tI_CutAt x0 x1) :=fitK (by kernel_rfl)
def tI_TextRate (x0:ByteArray):T :=
 .qc9 198 [.string x0] fun y1 =>
 .br ((↑y1.n:Int) != (3:Int)) (
  .ret [qv5 (({ data:={ toList:=[]:Array UInt8 }:ByteArray }),({ data:={ toList:=[]:Array UInt8 }:ByteArray }),(false),nilS,(((0:Int)):Int),()),.bool (false)]) <|
 .el y1.1 (y1.n) ((2:Int)) fun y2 =>
 .ql10 (y2.add (Int.toNat (2:Int)*(1:Nat))) fun y3 =>
 .qc37 199 [.string y3] fun y4 =>
 .rg <|
 .el y1.1 (y1.n) ((0:Int)) fun y5 =>
 .ql8 (y5.add (Int.toNat (0:Int)*(1:Nat))) fun y6 =>
 .el y1.1 (y1.n) ((1:Int)) fun y7 =>
 .ql8 (y7.add (Int.toNat (1:Int)*(1:Nat))) fun y8 =>
 .bn y4.2.1 (.ret [qv5 (({ data:={ toList:=[]:Array UInt8 }:ByteArray }),({ data:={ toList:=[]:Array UInt8 }:ByteArray }),(false),nilS,(((0:Int)):Int),()),.bool (false)]) <|
 .qc5 142 [qv5 (y6,y8,y4.1.1,y4.1.2.1,((y4.1.2.2.1):Int),())] fun y9 =>
 .bn y9 (.ret [qv5 (({ data:={ toList:=[]:Array UInt8 }:ByteArray }),({ data:={ toList:=[]:Array UInt8 }:ByteArray }),(false),nilS,(((0:Int)):Int),()),.bool (false)]) <|
 .ret [qv5 (y6,y8,y4.1.1,y4.1.2.1,((y4.1.2.2.1):Int),()),.bool (true)]
theorem fI_TextRate x0:qft qa0 130 [.string x0] (tI_TextRate x0) :=fitK (by kernel_rfl)
def tI_TextMoney (x0:ByteArray):T :=
 .qc9 198 [.string x0] fun y1 =>
 .br ((↑y1.n:Int) != (2:Int)) (
  .ret [qv3 (({ data:={ toList:=[]:Array UInt8 }:ByteArray }),(false),nilS,()),.bool (false)]) <|
 .el y1.1 (y1.n) ((1:Int)) fun y2 =>
 .ql10 (y2.add (Int.toNat (1:Int)*(1:Nat))) fun y3 =>
 .qc37 199 [.string y3] fun y4 =>
 .rg <|
 .el y1.1 (y1.n) ((0:Int)) fun y5 =>
 .ql8 (y5.add (Int.toNat (0:Int)*(1:Nat))) fun y6 =>
 .bn y4.2.1 (.ret [qv3 (({ data:={ toList:=[]:Array UInt8 }:ByteArray }),(false),nilS,()),.bool (false)]) <|
 .qc1 81 [qv3 (y6,y4.1.1,y4.1.2.1,())] fun y7 =>
 .br (!y7.toList == x0.toList) (
  .ret [qv3 (({ data:={ toList:=[]:Array UInt8 }:ByteArray }),(false),nilS,()),.bool (false)]) <|
 .br (x0.toList == { data:={ toList:=[]:Array UInt8 }:ByteArray }.toList) (
  .ret [qv3 (({ data:={ toList:=[]:Array UInt8 }:ByteArray }),(false),nilS,()),.bool (false)]) <|
 .ret [qv3 (y6,y4.1.1,y4.1.2.1,()),.bool (true)]
theorem fI_TextMoney x0:qft qa0 131 [.string x0] (tI_TextMoney x0) :=fitK (by kernel_rfl)
def aI_BookOk:An:=⟨[(4,[.s 12],[.o (.o (.i .i64))])],[],[]⟩
def tI_BookOk (x0:qy3):T :=
 .br (decide ((↑x0.1.n:Int) > (12:Int))) (
  .rF) <|
 .lp [.o (.o (.i .i64))] [.v (.int .i64 0)] fun y1 =>
 .br (decide (y1.1<(↑x0.1.n:Int))) (
  .el x0.1.1 (x0.1.n) y1.1 fun y2 =>
  .ql14 (y2.add (Int.toNat y1.1*(4:Nat))) fun y3 =>
  .rg <|
 .qc3 200 [.string y3.1] fun y4 =>
  .bF y4 <|
 .qc3 144 [qv3 y3.2] fun y5 =>
  .bF y5 <|
 .br (decide (y1.1 > (0:Int))) (
   .el x0.1.1 (x0.1.n) (IntKind.i64.wrap (y1.1-(1:Int))) fun y6 =>
   .ql8 ((y6.add ((IntKind.i64.wrap (y1.1-(1:Int))).toNat*(4:Nat))).add (0:Nat)) fun y7 =>
   .br (!Op.bytesLess y7.toList (ByteArray.toList y3.1)) (
    .rF) <|
 .nx 0 [.v (.int .i64 (IntKind.i64.wrap (y1.1+(1:Int))))]) <|
 .nx 0 [.v (.int .i64 (IntKind.i64.wrap (y1.1+(1:Int))))]) <|
 .rT
theorem fI_BookOk x0:qft aI_BookOk 132 [qv4 x0] (tI_BookOk x0) :=fitK (by kernel_rfl)
def aI_RatesOk:An:=⟨[(5,[.s 21],[.o (.o (.i .i64))])],[],[]⟩
def tI_RatesOk (x0:qy7):T :=
 .qc5 52 [.string x0.1] fun y1 =>
 .bF y1 <|
 .br (decide ((↑x0.2.1.n:Int) > (12:Int))) (
  .rF) <|
 .mo (.mk 196) (.v (.o (.x))) fun y2 =>
 .lp [.o (.o (.i .i64))] [.v (.int .i64 0)] fun y3 =>
 .br (decide (y3.1<(↑x0.2.1.n:Int))) (
  .el x0.2.1.1 (x0.2.1.n) y3.1 fun y4 =>
  .ql13 (y4.add (Int.toNat y3.1*(5:Nat))) fun y5 =>
  .qc5 142 [qv5 y5] fun y6 =>
  .bF y6 <|
 .mo (.lk 196 (y2.1) (Sh1.val (.g [.s,.s]) (y5.1,y5.2.1,())) false) (.v (.o (.b))) fun y7 =>
  .br y7 (
   .rF) <|
 .mo (.up 196 (y2.1) (Sh1.val (.g [.s,.s]) (y5.1,y5.2.1,())) (.bool (true))) (.t []) fun _ =>
  .nx 0 [.v (.int .i64 (IntKind.i64.wrap (y3.1+(1:Int))))]) <|
 .rT
theorem fI_RatesOk x0:qft aI_RatesOk 133 [qv6 x0] (tI_RatesOk x0) :=fitK (by kernel_rfl)
def aS_l17Draw:An:=⟨[(3,[.s 12,.c 3 0],[.o (.o (.i .i64)),.o (.o (.l))])],[],[]⟩
def tS_l17Draw (x0:Addr):T :=
 .lp [.o (.o (.i .i64)),.o (.o (.l))] [.v (.int .i64 0),.v (.slice none 0 0)] fun y1 =>
 .br (decide (y1.1<(↑(5:Nat):Int))) (
  .rq ((0:Int)≤y1.1∧y1.1<(↑(5:Nat):Int)) <|
 .xs [.string ({ data:={ toList:=[(98:UInt8),(97:UInt8),(110:UInt8),(107:UInt8)]:Array UInt8 }:ByteArray }),.string ({ data:={ toList:=[(98:UInt8),(111:UInt8),(120:UInt8)]:Array UInt8 }:ByteArray }),.string ({ data:={ toList:=[(99:UInt8),(97:UInt8),(115:UInt8),(104:UInt8)]:Array UInt8 }:ByteArray }),.string ({ data:={ toList:=[(102:UInt8),(101:UInt8),(101:UInt8),(115:UInt8)]:Array UInt8 }:ByteArray }),.string ({ data:={ toList:=[(116:UInt8),(97:UInt8),(120:UInt8)]:Array UInt8 }:ByteArray })] (Int.toNat y1.1*(1:Nat)) (.o (.s)) fun y2 =>
  .qc5 177 [.pointer (some x0),.int .i64 4] fun y3 =>
  .bn y3 (.fz ((4:Nat)) [.string ({ data:={ toList:=[(67:UInt8),(72:UInt8),(70:UInt8)]:Array UInt8 }:ByteArray }),.string ({ data:={ toList:=[(69:UInt8),(85:UInt8),(82:UInt8)]:Array UInt8 }:ByteArray }),.string ({ data:={ toList:=[(85:UInt8),(83:UInt8),(68:UInt8)]:Array UInt8 }:ByteArray }),.string ({ data:={ toList:=[(74:UInt8),(80:UInt8),(89:UInt8)]:Array UInt8 }:ByteArray })] 9 fun b4 c4 =>
   .qc1 174 [.pointer (some x0),.slice (some { block:=b4,off:=(0:Nat):Addr }) ((4:Nat)) (c4)] fun y5 =>
   .qc38 203 [qv4 y1.2,.string y2,.string y5] fun y6 =>
   .br y6.2.1 (
    .rf <|
 .cf 97 [.pointer (some x0),.int .i64 9000] (.v (.o (.i .i64))) fun y7 =>
    .qc39 205 [.int .i64 (IntKind.i64.wrap (y7-(2000:Int)))] fun y8 =>
    .qc38 204 [qv4 y6.1,.string y2,qv3 (y5,y8.1,y8.2.1,())] fun y9 =>
    .nx 0 [.v (.int .i64 (IntKind.i64.wrap (y1.1+(1:Int)))),.v (Sc.val .l y9.1.1)]) <|
 .nx 0 [.v (.int .i64 (IntKind.i64.wrap (y1.1+(1:Int)))),.v (Sc.val .l y1.2.1)]) <|
 .nx 0 [.v (.int .i64 (IntKind.i64.wrap (y1.1+(1:Int)))),.v (Sc.val .l y1.2.1)]) <|
 .ret [qv4 y1.2]
theorem fS_l17Draw x0:qft aS_l17Draw 140 [.pointer (some x0)] (tS_l17Draw x0) :=fitK (by kernel_rfl)
def aS_l10Table:An:=⟨[(3,[.s 4,.c 3 0,.c 3 1],[.o (.o (.i .i64)),.o (.o (.s)),.o (.o (.l))])],[],[]⟩
def tS_l10Table (x0:Addr):T :=
 .fz ((3:Nat)) [.string ({ data:={ toList:=[(69:UInt8),(85:UInt8),(82:UInt8)]:Array UInt8 }:ByteArray }),.string ({ data:={ toList:=[(69:UInt8),(85:UInt8),(82:UInt8)]:Array UInt8 }:ByteArray }),.string ({ data:={ toList:=[(85:UInt8),(83:UInt8),(68:UInt8)]:Array UInt8 }:ByteArray })] 9 fun b1 c1 =>
 .qc1 174 [.pointer (some x0),.slice (some { block:=b1,off:=(0:Nat):Addr }) ((3:Nat)) (c1)] fun y2 =>
 .qc20 97 [.pointer (some x0),.int .i64 7] fun y3 =>
 .lp [.o (.o (.i .i64)),.o (.o (.s)),.o (.o (.l))] [.v (.int .i64 y3),.v (.string y2),.v (.slice none 0 0)] fun y4 =>
 .br (decide (y4.1 > (0:Int))) (
  .qc40 206 [.pointer (some x0)] fun y5 =>
  .qc5 177 [.pointer (some x0),.int .i64 2] fun y6 =>
  .br y6 (
   .br (!ByteArray.toList y5.1 == ByteArray.toList y4.2.1) (
    .qc41 207 [qv6 y4.2,qv5 (y5.1,y4.2.1,y5.2.2.1,y5.2.2.2.1,((y5.2.2.2.2.1):Int),())] fun y7 =>
    .br y7.2.1 (
     .nx 0 [.v (.int .i64 (IntKind.i64.wrap (y4.1-(1:Int)))),.v (.string y7.1.1),.v (Sc.val .l y7.1.2.1)]) <|
 .nx 0 [.v (.int .i64 (IntKind.i64.wrap (y4.1-(1:Int)))),.v (.string y4.2.1),.v (Sc.val .l y4.2.2.1)]) <|
 .qc41 207 [qv6 y4.2,qv5 y5] fun y7 =>
   .br y7.2.1 (
    .nx 0 [.v (.int .i64 (IntKind.i64.wrap (y4.1-(1:Int)))),.v (.string y7.1.1),.v (Sc.val .l y7.1.2.1)]) <|
 .nx 0 [.v (.int .i64 (IntKind.i64.wrap (y4.1-(1:Int)))),.v (.string y4.2.1),.v (Sc.val .l y4.2.2.1)]) <|
 .qc41 207 [qv6 y4.2,qv5 y5] fun y7 =>
  .br y7.2.1 (
   .nx 0 [.v (.int .i64 (IntKind.i64.wrap (y4.1-(1:Int)))),.v (.string y7.1.1),.v (Sc.val .l y7.1.2.1)]) <|
 .nx 0 [.v (.int .i64 (IntKind.i64.wrap (y4.1-(1:Int)))),.v (.string y4.2.1),.v (Sc.val .l y4.2.2.1)]) <|
 .ret [qv6 y4.2]
theorem fS_l10Table x0:qft aS_l10Table 141 [.pointer (some x0)] (tS_l10Table x0) :=fitK (by kernel_rfl)
def tI_RateOk (x0:qy4):T :=
 .qc5 52 [.string x0.1] fun y1 =>
 .br y1 (
  .qc5 52 [.string x0.2.1] fun y2 =>
  .br y2 (
   .br (!ByteArray.toList x0.1 == ByteArray.toList x0.2.1) (
    .qc5 208 [qv2 x0.2.2] fun y3 =>
    .br y3 (
     .qc20 111 [qv0 (x0.2.2.1,x0.2.2.2.1,())] fun y4 =>
     .br (decide (y4 > (0:Int))) (
      .ret [.bool (decide ((↑x0.2.2.2.1.n:Int)≤(2:Int)))]) <|
 .rF) <|
 .rF) <|
 .rF) <|
 .rF) <|
 .rF
theorem fI_RateOk x0:qft qa0 142 [qv5 x0] (tI_RateOk x0) :=fitK (by kernel_rfl)
def tI_DecText (x0:qy5):T :=
 .qc5 208 [qv2 x0] fun y1 =>
 .bn y1 (.ret [.string ({ data:={ toList:=[]:Array UInt8 }:ByteArray })]) <|
 .rg <|
 .qc4 210 [Sc.val .l x0.2.1] fun y2 =>
 .qc1 209 [.string y2,.int .i64 (IntKind.i64.wrap (x0.2.2.1+(1:Int)))] fun y3 =>
 .br (decide (x0.2.2.1 > (0:Int))) (
  .rg <|
 .rq ((0:Int)≤(0:Int)∧(0:Int)≤IntKind.i64.wrap ((↑y3.size:Int)-x0.2.2.1)∧IntKind.i64.wrap ((↑y3.size:Int)-x0.2.2.1)≤(↑y3.size:Int)) <|
 .rq ((y3.extract (Int.toNat (0:Int)) (IntKind.i64.wrap ((↑y3.size:Int)-x0.2.2.1)).toNat).size+{ data:={ toList:=[(46:UInt8)]:Array UInt8 }:ByteArray }.size≤(9223372036854775807:Nat)) <|
 .rq ((0:Int)≤IntKind.i64.wrap ((↑y3.size:Int)-x0.2.2.1)∧IntKind.i64.wrap ((↑y3.size:Int)-x0.2.2.1)≤(↑y3.size:Int)∧(↑y3.size:Int)≤(↑y3.size:Int)) <|
 .rq ((y3.extract (Int.toNat (0:Int)) (IntKind.i64.wrap ((↑y3.size:Int)-x0.2.2.1)).toNat++{ data:={ toList:=[(46:UInt8)]:Array UInt8 }:ByteArray }).size+(y3.extract (IntKind.i64.wrap ((↑y3.size:Int)-x0.2.2.1)).toNat (↑y3.size:Int).toNat).size≤(9223372036854775807:Nat)) <|
 .br x0.1 (
   .rq ({ data:={ toList:=[(45:UInt8)]:Array UInt8 }:ByteArray }.size+(y3.extract (Int.toNat (0:Int)) (IntKind.i64.wrap ((↑y3.size:Int)-x0.2.2.1)).toNat++{ data:={ toList:=[(46:UInt8)]:Array UInt8 }:ByteArray }++y3.extract (IntKind.i64.wrap ((↑y3.size:Int)-x0.2.2.1)).toNat (↑y3.size:Int).toNat).size≤(9223372036854775807:Nat)) <|
 .ret [.string ({ data:={ toList:=[(45:UInt8)]:Array UInt8 }:ByteArray }++(y3.extract (Int.toNat (0:Int)) (IntKind.i64.wrap ((↑y3.size:Int)-x0.2.2.1)).toNat++{ data:={ toList:=[(46:UInt8)]:Array UInt8 }:ByteArray }++y3.extract (IntKind.i64.wrap ((↑y3.size:Int)-x0.2.2.1)).toNat (↑y3.size:Int).toNat))]) <|
 .ret [.string (y3.extract (Int.toNat (0:Int)) (IntKind.i64.wrap ((↑y3.size:Int)-x0.2.2.1)).toNat++{ data:={ toList:=[(46:UInt8)]:Array UInt8 }:ByteArray }++y3.extract (IntKind.i64.wrap ((↑y3.size:Int)-x0.2.2.1)).toNat (↑y3.size:Int).toNat)]) <|
 .br x0.1 (
  .rq ({ data:={ toList:=[(45:UInt8)]:Array UInt8 }:ByteArray }.size+y3.size≤(9223372036854775807:Nat)) <|
 .ret [.string ({ data:={ toList:=[(45:UInt8)]:Array UInt8 }:ByteArray }++y3)]) <|
 .ret [.string y3]
theorem fI_DecText x0:qft qa0 143 [qv2 x0] (tI_DecText x0) :=fitK (by kernel_rfl)
def tI_MoneyOk (x0:qy2):T :=
 .qc5 52 [.string x0.1] fun y1 =>
 .br y1 (
  .qc5 108 [qv0 x0.2] fun y2 =>
  .br y2 (
   .ret [.bool (decide ((↑x0.2.2.1.n:Int)≤(4:Int)))]) <|
 .rF) <|
 .rF
theorem fI_MoneyOk x0:qft qa0 144 [qv3 x0] (tI_MoneyOk x0) :=fitK (by kernel_rfl)
def tI_CurPlaces (x0:ByteArray):T :=
 .qc18 107 [.string x0] fun y1 =>
 .ret [.int .i64 y1.1.2.2.1]
theorem fI_CurPlaces x0:qft qa0 145 [.string x0] (tI_CurPlaces x0) :=fitK (by kernel_rfl)
def aX_EqualFunc_Acct:An:=⟨[(4,[.s 17],[.o (.o (.i .i64))])],[],[]⟩
def tX_EqualFunc_Acct (x0:SlV) (x1:SlV) (x2:Nat):T :=
 .br ((↑x0.n:Int) != (↑x1.n:Int)) (
  .rF) <|
 .lp [.o (.o (.i .i64))] [.v (.int .i64 0)] fun y1 =>
 .br (decide (y1.1<(↑x0.n:Int))) (
  .el x0.1 (x0.n) y1.1 fun y2 =>
  .ql14 (y2.add (Int.toNat y1.1*(4:Nat))) fun y3 =>
  .el x1.1 (x1.n) y1.1 fun y4 =>
  .ql14 (y4.add (Int.toNat y1.1*(4:Nat))) fun y5 =>
  .call false x2 [qv10 y3,qv10 y5] (.v (.o (.b))) fun y6 =>
  .bF y6 <|
 .nx 0 [.v (.int .i64 (IntKind.i64.wrap (y1.1+(1:Int))))]) <|
 .rT
theorem fX_EqualFunc_Acct x0 x1 x2:qft aX_EqualFunc_Acct 146 [Sc.val .l x0,Sc.val .l x1,(Value.func (Fn.func x2) { toList:=[]:Array Value } { toList:=[]:Array Value })] (tX_EqualFunc_Acct x0 x1 x2) :=fitK (by kernel_rfl)
def tI_BookSame_1 (x0:ByteArray × ByteArray × Bool × SlV × PUnit) (x1:ByteArray × ByteArray × Bool × SlV × PUnit):T :=
 .br (ByteArray.toList x0.1 == ByteArray.toList x1.1) (
  .qc5 148 [qv3 x0.2,qv3 x1.2] fun y1 =>
  .ret [.bool y1]) <|
 .rF
theorem fI_BookSame_1 x0 x1:qft qa0 147 [qv10 x0,qv10 x1] (tI_BookSame_1 x0 x1) :=fitK (by kernel_rfl)
def tI_MoneySame (x0:qy2) (x1:qy2):T :=
 .br (ByteArray.toList x0.1 == ByteArray.toList x1.1) (
  .qc5 105 [qv0 x0.2,qv0 x1.2] fun y1 =>
  .ret [.bool y1]) <|
 .rF
theorem fI_MoneySame x0 x1:qft qa0 148 [qv3 x0,qv3 x1] (tI_MoneySame x0 x1) :=fitK (by kernel_rfl)
def tI_decSame (x0:qy5) (x1:qy5):T :=
 .qc5 105 [qv0 (x0.1,x0.2.1,()),qv0 (x1.1,x1.2.1,())] fun y1 =>
 .br y1 (
  .ret [.bool (x0.2.2.1 == x1.2.2.1)]) <|
 .rF
theorem fI_decSame x0 x1:qft qa0 149 [qv2 x0,qv2 x1] (tI_decSame x0 x1) :=fitK (by kernel_rfl)
def aS_l02Trim:An:=⟨[(2,[.s 3],[.o (.o (.i .i64))])],[],[]⟩
def tS_l02Trim (x0:SlV):T :=
 .lp [.o (.o (.i .i64))] [.v (.int .i64 ((↑x0.n:Int)))] fun y1 =>
 .br (decide (y1.1 > (0:Int))) (
  .el x0.1 (x0.n) (IntKind.i64.wrap (y1.1-(1:Int))) fun y2 =>
  .ql19 (y2.add ((IntKind.i64.wrap (y1.1-(1:Int))).toNat*(1:Nat))) fun y3 =>
  .br (y3 == (0:Int)) (
   .nx 0 [.v (.int .i64 (IntKind.i64.wrap (y1.1-(1:Int))))]) <|
 .rq ((0:Int)≤(0:Int)∧(0:Int)≤y1.1∧y1.1≤(↑x0.c:Int)∧(↑x0.c:Int)≤(↑x0.c:Int)) <|
 .ret [.slice (if (↑x0.c:Int).toNat=Int.toNat (0:Int) then x0.1 else Option.map (fun x=>x.add (Int.toNat (0:Int)*Go.Proofs.Tryz.prog.types[(3:Nat)].size)) x0.1) (Int.toNat y1.1-Int.toNat (0:Int)) ((↑x0.c:Int).toNat-Int.toNat (0:Int))]) <|
 .rq ((0:Int)≤(0:Int)∧(0:Int)≤y1.1∧y1.1≤(↑x0.c:Int)∧(↑x0.c:Int)≤(↑x0.c:Int)) <|
 .ret [.slice (if (↑x0.c:Int).toNat=Int.toNat (0:Int) then x0.1 else Option.map (fun x=>x.add (Int.toNat (0:Int)*Go.Proofs.Tryz.prog.types[(3:Nat)].size)) x0.1) (Int.toNat y1.1-Int.toNat (0:Int)) ((↑x0.c:Int).toNat-Int.toNat (0:Int))]
theorem fS_l02Trim x0:qft aS_l02Trim 151 [Sc.val .l x0] (tS_l02Trim x0) :=fitK (by kernel_rfl)
def aS_l02Cmp:An:=⟨[(6,[.s 5],[.o (.o (.i .i64))])],[],[]⟩
def tS_l02Cmp (x0:SlV) (x1:SlV):T :=
 .br ((↑x0.n:Int) != (↑x1.n:Int)) (
  .br (decide ((↑x0.n:Int)<(↑x1.n:Int))) (
   .rM) <|
 .ret [.int .i64 1]) <|
 .lp [.o (.o (.i .i64))] [.v (.int .i64 (IntKind.i64.wrap ((↑x0.n:Int)-(1:Int))))] fun y1 =>
 .br (decide (y1.1≥(0:Int))) (
  .rg <|
 .el x0.1 (x0.n) y1.1 fun y2 =>
  .ql33 (y2.add (Int.toNat y1.1*(1:Nat))) fun y3 =>
  .el x1.1 (x1.n) y1.1 fun y4 =>
  .ql33 (y4.add (Int.toNat y1.1*(1:Nat))) fun y5 =>
  .br (decide (y3<y5)) (
   .rM) <|
 .rg <|
 .el x0.1 (x0.n) y1.1 fun y6 =>
  .ql33 (y6.add (Int.toNat y1.1*(1:Nat))) fun y7 =>
  .el x1.1 (x1.n) y1.1 fun y8 =>
  .ql33 (y8.add (Int.toNat y1.1*(1:Nat))) fun y9 =>
  .br (decide (y7 > y9)) (
   .ret [.int .i64 1]) <|
 .nx 0 [.v (.int .i64 (IntKind.i64.wrap (y1.1-(1:Int))))]) <|
 .ret [.int .i64 0]
theorem fS_l02Cmp x0 x1:qft aS_l02Cmp 152 [Sc.val .l x0,Sc.val .l x1] (tS_l02Cmp x0 x1) :=fitK (by kernel_rfl)
def aS_l08Find:An:=⟨[(2,[.s 7,.c 2 0,.c 2 1,.c 2 2,.c 2 3],[.o (.o (.i .i64)),.o (.o (.s)),.o (.o (.s)),.o (.o (.i .i64)),.o (.o (.i .i64))])],[],[]⟩
def tS_l08Find (x0:ByteArray):T :=
 .qc9 214 [] fun y1 =>
 .lp [.o (.o (.i .i64)),.o (.o (.s)),.o (.o (.s)),.o (.o (.i .i64)),.o (.o (.i .i64))] [.v (.int .i64 0),.v (.string ({ data:={ toList:=[]:Array UInt8 }:ByteArray })),.v (.string ({ data:={ toList:=[]:Array UInt8 }:ByteArray })),.v (.int .i64 0),.v (.int .i64 0)] fun y2 =>
 .br (decide (y2.1<(↑y1.n:Int))) (
  .el y1.1 (y1.n) y2.1 fun y3 =>
  .ql42 (y3.add (Int.toNat y2.1*(4:Nat))) fun y4 =>
  .br (ByteArray.toList y4.1 == x0.toList) (
   .ret [qv9 y4]) <|
 .nx 0 [.v (.int .i64 (IntKind.i64.wrap (y2.1+(1:Int)))),.v (.string y2.2.1),.v (.string y2.2.2.1),.v (.int .i64 y2.2.2.2.1),.v (.int .i64 y2.2.2.2.2.1)]) <|
 .ret [qv9 (({ data:={ toList:=[]:Array UInt8 }:ByteArray }),({ data:={ toList:=[]:Array UInt8 }:ByteArray }),(((0:Int)):Int),(((0:Int)):Int),())]
theorem fS_l08Find x0:qft aS_l08Find 155 [.string x0] (tS_l08Find x0) :=fitK (by kernel_rfl)
def tS_IntOk (x0:qy0):T :=
 .qc5 157 [Sc.val .l x0.2.1] fun y1 =>
 .br y1 (
  .br (!x0.1) (
   .rT) <|
 .ret [.bool (decide ((↑x0.2.1.n:Int) > (0:Int)))]) <|
 .rF
theorem fS_IntOk x0:qft qa0 156 [qv0 x0] (tS_IntOk x0) :=fitK (by kernel_rfl)
def aS_NatOk:An:=⟨[(2,[.s 7],[.o (.o (.i .i64))])],[],[]⟩
def tS_NatOk (x0:SlV):T :=
 .lp [.o (.o (.i .i64))] [.v (.int .i64 0)] fun y1 =>
 .br (decide (y1.1<(↑x0.n:Int))) (
  .el x0.1 (x0.n) y1.1 fun y2 =>
  .ql19 (y2.add (Int.toNat y1.1*(1:Nat))) fun y3 =>
  .qc5 215 [.int .i64 y3,.int .i64 0,.int .i64 999999999] fun y4 =>
  .bF y4 <|
 .nx 0 [.v (.int .i64 (IntKind.i64.wrap (y1.1+(1:Int))))]) <|
 .br (decide ((↑x0.n:Int)≤(50:Int))) (
  .br ((↑x0.n:Int) == (0:Int)) (
   .rT) <|
 .el x0.1 (x0.n) (IntKind.i64.wrap ((↑x0.n:Int)-(1:Int))) fun y2 =>
  .ql19 (y2.add ((IntKind.i64.wrap ((↑x0.n:Int)-(1:Int))).toNat*(1:Nat))) fun y3 =>
  .ret [.bool (y3 != (0:Int))]) <|
 .rF
theorem fS_NatOk x0:qft aS_NatOk 157 [Sc.val .l x0] (tS_NatOk x0) :=fitK (by kernel_rfl)
def aS_NatGcd:An:=⟨[(5,[.s 5,.s 6],[.o (.o (.l)),.o (.o (.l))])],[],[]⟩
def tS_NatGcd (x0:SlV) (x1:SlV):T :=
 .qc5 157 [Sc.val .l x0] fun y1 =>
 .bn y1 (.ret [.slice none 0 0]) <|
 .qc5 157 [Sc.val .l x1] fun y2 =>
 .bn y2 (.ret [.slice none 0 0]) <|
 .rd ({ a:=x0.1,n:=x0.n,c:=x0.c:SlV }) ((1:Nat)) fun y3 =>
 .rq (one y3=true∧((0:Nat)+x0.n)*(8:Nat)≤(140737488355328:Nat)∧(0:Nat)+x0.n≤(9223372036854775807:Nat)) <|
 .rd ({ a:=x1.1,n:=x1.n,c:=x1.c:SlV }) ((1:Nat)) fun y4 =>
 .rq (one y4=true∧((0:Nat)+x1.n)*(8:Nat)≤(140737488355328:Nat)∧(0:Nat)+x1.n≤(9223372036854775807:Nat)) <|
 .fz ((0:Nat)+x0.n) ([]++y3) 3 fun b5 c5 =>
 .fz ((0:Nat)+x1.n) ([]++y4) 3 fun b6 c6 =>
 .lp [.o (.o (.l)),.o (.o (.l))] [.v (.slice (some { block:=b5,off:=(0:Nat):Addr }) ((0:Nat)+x0.n) (c5)),.v (.slice (some { block:=b6,off:=(0:Nat):Addr }) ((0:Nat)+x1.n) (c6))] fun y7 =>
 .br (decide ((↑y7.2.1.n:Int) > (0:Int))) (
  .qc35 216 [Sc.val .l y7.1,Sc.val .l y7.2.1] fun y8 =>
  .nx 0 [.v (Sc.val .l y7.2.1),.v (Sc.val .l y8.2.1)]) <|
 .ret [Sc.val .l y7.1]
theorem fS_NatGcd x0 x1:qft aS_NatGcd 158 [Sc.val .l x0,Sc.val .l x1] (tS_NatGcd x0 x1) :=fitK (by kernel_rfl)
def tS_RatCmp (x0:qy1) (x1:qy1):T :=
 .qc5 90 [qv1 x0] fun y1 =>
 .bn y1 (.ret [.int .i64 0]) <|
 .qc5 90 [qv1 x1] fun y2 =>
 .bn y2 (.ret [.int .i64 0]) <|
 .rg <|
 .qc43 219 [Sc.val .l x0.2.1,Sc.val .l x1.2.2.1] fun y3 =>
 .qc39 218 [.bool x0.1,Sc.val .l y3] fun y4 =>
 .qc43 219 [Sc.val .l x1.2.1,Sc.val .l x0.2.2.1] fun y5 =>
 .qc31 218 [.bool x1.1,Sc.val .l y5] fun y6 =>
 .qc20 217 [qv0 y4,qv0 y6] fun y7 =>
 .ret [.int .i64 y7]
theorem fS_RatCmp x0 x1:qft qa0 159 [qv1 x0,qv1 x1] (tS_RatCmp x0 x1) :=fitK (by kernel_rfl)
def tS_RatZero :T :=
 .fz ((1:Nat)) [.int .i64 1] 3 fun b1 c1 =>
 .ret [qv1 ((false),nilS,(⟨(some { block:=b1,off:=(0:Nat):Addr }),((1:Nat)),(c1)⟩:SlV),())]
theorem fS_RatZero :qft qa0 160 [] (tS_RatZero ) :=fitK (by kernel_rfl)
def tI_StrInt (x0:ByteArray):T :=
 .br (!x0.toList == { data:={ toList:=[]:Array UInt8 }:ByteArray }.toList) (
  .rq ((0:Int)≤(0:Int)∧(0:Int)<(↑x0.size:Int)) <|
 .br (at0 x0 (Int.toNat (0:Int)) == (45:Int)) (
   .rq ((0:Int)≤(1:Int)∧(1:Int)≤(↑x0.size:Int)∧(↑x0.size:Int)≤(↑x0.size:Int)) <|
 .qc27 166 [.string (x0.extract (Int.toNat (1:Int)) (↑x0.size:Int).toNat)] fun y1 =>
   .bn y1.2.1 (.ret [qv0 ((false),nilS,()),.bool (false)]) <|
 .br (at0 x0 (Int.toNat (0:Int)) == (45:Int)) (
    .br ((↑y1.1.n:Int) == (0:Int)) (
     .ret [qv0 ((false),nilS,()),.bool (false)]) <|
 .ret [qv0 ((at0 x0 (Int.toNat (0:Int)) == (45:Int)),y1.1,()),.bool (true)]) <|
 .ret [qv0 ((at0 x0 (Int.toNat (0:Int)) == (45:Int)),y1.1,()),.bool (true)]) <|
 .qc27 166 [.string x0] fun y1 =>
  .bn y1.2.1 (.ret [qv0 ((false),nilS,()),.bool (false)]) <|
 .br (at0 x0 (Int.toNat (0:Int)) == (45:Int)) (
   .br ((↑y1.1.n:Int) == (0:Int)) (
    .ret [qv0 ((false),nilS,()),.bool (false)]) <|
 .ret [qv0 ((at0 x0 (Int.toNat (0:Int)) == (45:Int)),y1.1,()),.bool (true)]) <|
 .ret [qv0 ((at0 x0 (Int.toNat (0:Int)) == (45:Int)),y1.1,()),.bool (true)]) <|
 .qc27 166 [.string x0] fun y1 =>
 .bn y1.2.1 (.ret [qv0 ((false),nilS,()),.bool (false)]) <|
 .ret [qv0 ((false),y1.1,()),.bool (true)]
theorem fI_StrInt x0:qft qa0 165 [.string x0] (tI_StrInt x0) :=fitK (by kernel_rfl)
def aI_TextNat:An:=⟨[(5,[.s 4,.s 5],[.a 3,.o (.o (.i .i64))]),(9,[.s 6,.s 42],[.o (.o (.i .i64)),.o (.o (.i .i64))])],[],[]⟩
def tI_TextNat (x0:ByteArray):T :=
 .qc5 224 [.string x0] fun y1 =>
 .bn y1 (.ret [.slice none 0 0,.bool (false)]) <|
 .br (decide ((↑x0.size:Int) > (450:Int))) (
  .ret [.slice none 0 0,.bool (false)]) <|
 .rq ((0:Int)≤(0:Int)∧(0:Int)<(↑x0.size:Int)) <|
 .br (at0 x0 (Int.toNat (0:Int)) == (48:Int)) (
  .br (decide ((↑x0.size:Int) > (1:Int))) (
   .ret [.slice none 0 0,.bool (false)]) <|
 .lp [.a 3,.o (.o (.i .i64))] [.a 3 ((0:Nat)) [],.v (.int .i64 ((↑x0.size:Int)))] fun y2 =>
  .br (decide (y2.2.1 > (0:Int))) (
   .rq (((0:Int)≤if IntKind.i64.wrap (y2.2.1-(9:Int)) > (0:Int) then IntKind.i64.wrap (y2.2.1-(9:Int)) else (0:Int))∧(if IntKind.i64.wrap (y2.2.1-(9:Int)) > (0:Int) then IntKind.i64.wrap (y2.2.1-(9:Int)) else (0:Int))≤y2.2.1∧y2.2.1≤(↑x0.size:Int)) <|
 .mo (.cv 9 28 (.string (x0.extract (if IntKind.i64.wrap (y2.2.1-(9:Int)) > (0:Int) then IntKind.i64.wrap (y2.2.1-(9:Int)) else (0:Int)).toNat (Int.toNat y2.2.1)))) (.v (.o (.l))) fun y3 =>
   .lp [.o (.o (.i .i64)),.o (.o (.i .i64))] [.v (.int .i64 0),.v (.int .i64 0)] fun y4 =>
   .br (decide (y4.2.1<(↑y3.n:Int))) (
    .el y3.1 (y3.n) y4.2.1 fun y5 =>
    .ql17 (y5.add (Int.toNat y4.2.1*(1:Nat))) fun y6 =>
    .nx 1 [.v (.int .i64 (IntKind.i64.wrap (IntKind.i64.wrap ((10:Int)*y4.1)+IntKind.i64.wrap (IntKind.u8.wrap (y6-(48:Int)))))),.v (.int .i64 (IntKind.i64.wrap (y4.2.1+(1:Int))))]) <|
 .rq ([Value.int IntKind.i64 y4.1].length=(1:Nat)*(1:Nat)) <|
 .rq (one [Value.int IntKind.i64 y4.1]=true∧(y2.1.1+(1:Nat))*(8:Nat)≤(140737488355328:Nat)∧y2.1.1+(1:Nat)≤(9223372036854775807:Nat)) <|
 .nx 0 [.a 3 (y2.1.1+(1:Nat)) (y2.1.2++[Value.int IntKind.i64 y4.1]),.v (.int .i64 (IntKind.i64.wrap (y2.2.1-(9:Int))))]) <|
 .fz y2.1.1 y2.1.2 3 fun b3 c3 =>
  .qc9 121 [.slice (some { block:=b3,off:=(0:Nat):Addr }) y2.1.1 (c3)] fun y4 =>
  .ret [Sc.val .l y4,.bool (true)]) <|
 .lp [.a 3,.o (.o (.i .i64))] [.a 3 ((0:Nat)) [],.v (.int .i64 ((↑x0.size:Int)))] fun y2 =>
 .br (decide (y2.2.1 > (0:Int))) (
  .rq (((0:Int)≤if IntKind.i64.wrap (y2.2.1-(9:Int)) > (0:Int) then IntKind.i64.wrap (y2.2.1-(9:Int)) else (0:Int))∧(if IntKind.i64.wrap (y2.2.1-(9:Int)) > (0:Int) then IntKind.i64.wrap (y2.2.1-(9:Int)) else (0:Int))≤y2.2.1∧y2.2.1≤(↑x0.size:Int)) <|
 .mo (.cv 9 28 (.string (x0.extract (if IntKind.i64.wrap (y2.2.1-(9:Int)) > (0:Int) then IntKind.i64.wrap (y2.2.1-(9:Int)) else (0:Int)).toNat (Int.toNat y2.2.1)))) (.v (.o (.l))) fun y3 =>
  .lp [.o (.o (.i .i64)),.o (.o (.i .i64))] [.v (.int .i64 0),.v (.int .i64 0)] fun y4 =>
  .br (decide (y4.2.1<(↑y3.n:Int))) (
   .el y3.1 (y3.n) y4.2.1 fun y5 =>
   .ql17 (y5.add (Int.toNat y4.2.1*(1:Nat))) fun y6 =>
   .nx 1 [.v (.int .i64 (IntKind.i64.wrap (IntKind.i64.wrap ((10:Int)*y4.1)+IntKind.i64.wrap (IntKind.u8.wrap (y6-(48:Int)))))),.v (.int .i64 (IntKind.i64.wrap (y4.2.1+(1:Int))))]) <|
 .rq ([Value.int IntKind.i64 y4.1].length=(1:Nat)*(1:Nat)) <|
 .rq (one [Value.int IntKind.i64 y4.1]=true∧(y2.1.1+(1:Nat))*(8:Nat)≤(140737488355328:Nat)∧y2.1.1+(1:Nat)≤(9223372036854775807:Nat)) <|
 .nx 0 [.a 3 (y2.1.1+(1:Nat)) (y2.1.2++[Value.int IntKind.i64 y4.1]),.v (.int .i64 (IntKind.i64.wrap (y2.2.1-(9:Int))))]) <|
 .fz y2.1.1 y2.1.2 3 fun b3 c3 =>
 .qc9 121 [.slice (some { block:=b3,off:=(0:Nat):Addr }) y2.1.1 (c3)] fun y4 =>
 .ret [Sc.val .l y4,.bool (true)]
theorem fI_TextNat x0:qft aI_TextNat 166 [.string x0] (tI_TextNat x0) :=fitK (by kernel_rfl)
def tI_isOne (x0:SlV):T :=
 .br ((↑x0.n:Int) == (1:Int)) (
  .el x0.1 (x0.n) ((0:Int)) fun y1 =>
  .ql19 (y1.add (Int.toNat (0:Int)*(1:Nat))) fun y2 =>
  .ret [.bool (y2 == (1:Int))]) <|
 .rF
theorem fI_isOne x0:qft qa0 167 [Sc.val .l x0] (tI_isOne x0) :=fitK (by kernel_rfl)
def tS_l01Byte (x0:Addr):T :=
 .ql19 (x0.add (2:Nat)) fun y1 =>
 .st (x0.add (2:Nat)) [.int .i64 (IntKind.i64.wrap (IntKind.i64.wrap (y1*(6364136223846793005:Int))+(1442695040888963407:Int)))] <|
 .rg <|
 .ql33 (x0.add (2:Nat)) fun y2 =>
 .ql33 (x0.add (2:Nat)) fun y3 =>
 .rg <|
 .ql33 (x0.add (1:Nat)) fun y4 =>
 .ql22 (x0.add (0:Nat)) fun y5 =>
 .br (decide (y4<(↑y5.n:Int))) (
  .rg <|
 .ql22 (x0.add (0:Nat)) fun y6 =>
  .ql33 (x0.add (1:Nat)) fun y7 =>
  .el y6.1 (y6.n) y7 fun y8 =>
  .ql44 (y8.add (y7.toNat*(1:Nat))) fun y9 =>
  .ql19 (x0.add (1:Nat)) fun y10 =>
  .st (x0.add (1:Nat)) [.int .i64 (IntKind.i64.wrap (y10+(1:Int)))] <|
 .ret [.int .i64 (IntKind.i64.wrap (↑(BitVec.ofInt (64:Nat) (IntKind.i64.wrap (IntKind.i64.wrap (↑(BitVec.ofInt (64:Nat) (IntKind.i64.wrap (↑(BitVec.ofInt (64:Nat) (y2.fdiv ((2:Int) ^ min (Int.toNat (33:Int)) (64:Nat))) ^^^ BitVec.ofInt (64:Nat) (y3.fdiv ((2:Int) ^ min (Int.toNat (45:Int)) (64:Nat)))).toNat:Int)) &&& BitVec.ofInt (64:Nat) (255:Int)).toNat:Int)+IntKind.i64.wrap y9)) &&& BitVec.ofInt (64:Nat) (255:Int)).toNat:Int))]) <|
 .ret [.int .i64 (IntKind.i64.wrap (↑(BitVec.ofInt (64:Nat) (IntKind.i64.wrap (↑(BitVec.ofInt (64:Nat) (y2.fdiv ((2:Int) ^ min (Int.toNat (33:Int)) (64:Nat))) ^^^ BitVec.ofInt (64:Nat) (y3.fdiv ((2:Int) ^ min (Int.toNat (45:Int)) (64:Nat)))).toNat:Int)) &&& BitVec.ofInt (64:Nat) (255:Int)).toNat:Int))]
theorem fS_l01Byte x0:qft qa0 170 [.pointer (some x0)] (tS_l01Byte x0) :=fitK (by kernel_rfl)
def tS_RatAdd (x0:qy1) (x1:qy1):T :=
 .qc5 90 [qv1 x0] fun y1 =>
 .bn y1 (.ret [qv1 ((false),nilS,nilS,()),.bool (false)]) <|
 .qc5 90 [qv1 x1] fun y2 =>
 .bn y2 (.ret [qv1 ((false),nilS,nilS,()),.bool (false)]) <|
 .rg <|
 .qc43 219 [Sc.val .l x0.2.1,Sc.val .l x1.2.2.1] fun y3 =>
 .qc31 218 [.bool x0.1,Sc.val .l y3] fun y4 =>
 .rg <|
 .qc43 219 [Sc.val .l x1.2.1,Sc.val .l x0.2.2.1] fun y5 =>
 .qc31 218 [.bool x1.1,Sc.val .l y5] fun y6 =>
 .qc31 225 [qv0 y4,qv0 y6] fun y7 =>
 .rg <|
 .qc43 219 [Sc.val .l x0.2.2.1,Sc.val .l x1.2.2.1] fun y8 =>
 .qc16 226 [.bool y7.1,Sc.val .l y7.2.1,Sc.val .l y8] fun y9 =>
 .ret [qv1 y9.1,.bool y9.2.1]
theorem fS_RatAdd x0 x1:qft qa0 171 [qv1 x0,qv1 x1] (tS_RatAdd x0 x1) :=fitK (by kernel_rfl)
def aS_RestOf:An:=⟨[(2,[.s 9,.c 4 0,.c 4 1,.c 4 2],[.o (.o (.i .i64)),.o (.o (.b)),.o (.o (.l)),.o (.o (.l))])],[],[]⟩
def tS_RestOf (x0:SlV) (x1:ByteArray):T :=
 .lp [.o (.o (.i .i64)),.o (.o (.b)),.o (.o (.l)),.o (.o (.l))] [.v (.int .i64 0),.v (.bool (false)),.v (.slice none 0 0),.v (.slice none 0 0)] fun y1 =>
 .br (decide (y1.1<(↑x0.n:Int))) (
  .el x0.1 (x0.n) y1.1 fun y2 =>
  .ql6 (y2.add (Int.toNat y1.1*(4:Nat))) fun y3 =>
  .br (ByteArray.toList y3.1 == x1.toList) (
   .qc32 227 [qv1 y3.2] fun y4 =>
   .ret [qv1 y4]) <|
 .nx 0 [.v (.int .i64 (IntKind.i64.wrap (y1.1+(1:Int)))),.v (.bool y1.2.1),.v (Sc.val .l y1.2.2.1),.v (Sc.val .l y1.2.2.2.1)]) <|
 .qc32 160 [] fun y2 =>
 .ret [qv1 y2]
theorem fS_RestOf x0 x1:qft aS_RestOf 172 [Sc.val .l x0,.string x1] (tS_RestOf x0 x1) :=fitK (by kernel_rfl)
def aS_l19Copy:An:=⟨[(3,[.s 3,.s 9],[.o (.o (.l)),.o (.o (.i .i64))])],[],[]⟩
def tS_l19Copy (x0:SlV):T :=
 .fz ((0:Nat)) [] 40 fun b1 c1 =>
 .lp [.o (.o (.l)),.o (.o (.i .i64))] [.v (.slice (some { block:=b1,off:=(0:Nat):Addr }) ((0:Nat)) (c1)),.v (.int .i64 0)] fun y2 =>
 .br (decide (y2.2.1<(↑x0.n:Int))) (
  .el x0.1 (x0.n) y2.2.1 fun y3 =>
  .ql6 (y3.add (Int.toNat y2.2.1*(4:Nat))) fun y4 =>
  .rg <|
 .qc29 227 [qv1 y4.2] fun y5 =>
  .rq ([Value.string y4.1,Value.bool y5.1,Value.slice y5.2.1.1 y5.2.1.n y5.2.1.c,Value.slice y5.2.2.1.1 y5.2.2.1.n y5.2.2.1.c].length=(1:Nat)*(4:Nat)) <|
 .rq (one [Value.string y4.1,Value.bool y5.1,Value.slice y5.2.1.1 y5.2.1.n y5.2.1.c,Value.slice y5.2.2.1.1 y5.2.2.1.n y5.2.2.1.c]=true) <|
 .ap ({ a:=y2.1.1,n:=y2.1.n,c:=y2.1.c:SlV }) 4 72 [.string y4.1,.bool y5.1,Sc.val .l y5.2.1,Sc.val .l y5.2.2.1] ((1:Nat)) 40 fun y6 =>
  .nx 0 [.v (Sc.val .l y6),.v (.int .i64 (IntKind.i64.wrap (y2.2.1+(1:Int))))]) <|
 .ret [Sc.val .l y2.1]
theorem fS_l19Copy x0:qft aS_l19Copy 173 [Sc.val .l x0] (tS_l19Copy x0) :=fitK (by kernel_rfl)
def tS_l01Str (x0:Addr) (x1:SlV):T :=
 .qc20 97 [.pointer (some x0),.int .i64 ((↑x1.n:Int))] fun y1 =>
 .el x1.1 (x1.n) y1 fun y2 =>
 .ql10 (y2.add (y1.toNat*(1:Nat))) fun y3 =>
 .ret [.string y3]
theorem fS_l01Str x0 x1:qft qa0 174 [.pointer (some x0),Sc.val .l x1] (tS_l01Str x0 x1) :=fitK (by kernel_rfl)
def tS_l04Draw (x0:Addr) (x1:Int):T :=
 .qc5 177 [.pointer (some x0),.int .i64 3] fun y1 =>
 .br y1 (
  .qc20 97 [.pointer (some x0),.int .i64 2001] fun y2 =>
  .qc31 205 [.int .i64 (IntKind.i64.wrap (y2-(1000:Int)))] fun y3 =>
  .ret [qv0 y3]) <|
 .qc5 177 [.pointer (some x0),.int .i64 2] fun y2 =>
 .qc9 178 [.pointer (some x0),.int .i64 x1] fun y3 =>
 .qc31 218 [.bool y2,Sc.val .l y3] fun y4 =>
 .ret [qv0 y4]
theorem fS_l04Draw x0 x1:qft qa0 175 [.pointer (some x0),.int .i64 x1] (tS_l04Draw x0 x1) :=fitK (by kernel_rfl)
def aS_NatOf:An:=⟨[(2,[.s 0,.s 3],[.o (.o (.i .i64)),.a 3])],[],[]⟩
def tS_NatOf (x0:Int):T :=
 .lp [.o (.o (.i .i64)),.a 3] [.v (.int .i64 x0),.a 3 ((0:Nat)) []] fun y1 =>
 .br (decide (y1.1 > (0:Int))) (
  .rq ((1000000000:Int)≠(0:Int)) <|
 .rq ([Value.int IntKind.i64 (Int.tmod y1.1 (1000000000:Int))].length=(1:Nat)*(1:Nat)) <|
 .rq (one [Value.int IntKind.i64 (Int.tmod y1.1 (1000000000:Int))]=true∧(y1.2.1.1+(1:Nat))*(8:Nat)≤(140737488355328:Nat)∧y1.2.1.1+(1:Nat)≤(9223372036854775807:Nat)) <|
 .rq ((1000000000:Int)≠(0:Int)) <|
 .nx 0 [.v (.int .i64 (IntKind.i64.wrap (Int.tdiv y1.1 (1000000000:Int)))),.a 3 (y1.2.1.1+(1:Nat)) (y1.2.1.2++[Value.int IntKind.i64 (Int.tmod y1.1 (1000000000:Int))])]) <|
 .fz y1.2.1.1 y1.2.1.2 3 fun b2 c2 =>
 .ret [.slice (some { block:=b2,off:=(0:Nat):Addr }) y1.2.1.1 (c2)]
theorem fS_NatOf x0:qft aS_NatOf 176 [.int .i64 x0] (tS_NatOf x0) :=fitK (by kernel_rfl)
def tS_l01Once (x0:Addr) (x1:Int):T :=
 .qc20 97 [.pointer (some x0),.int .i64 x1] fun y1 =>
 .ret [.bool (y1 == (0:Int))]
theorem fS_l01Once x0 x1:qft qa0 177 [.pointer (some x0),.int .i64 x1] (tS_l01Once x0 x1) :=fitK (by kernel_rfl)
def aS_l02Nat:An:=⟨[(3,[.s 5,.s 6],[.a 3,.o (.o (.i .i64))])],[],[]⟩
def tS_l02Nat (x0:Addr) (x1:Int):T :=
 .qc20 97 [.pointer (some x0),.int .i64 (IntKind.i64.wrap (x1+(1:Int)))] fun y1 =>
 .lp [.a 3,.o (.o (.i .i64))] [.a 3 ((0:Nat)) [],.v (.int .i64 y1)] fun y2 =>
 .br (decide (y2.2.1 > (0:Int))) (
  .qc20 97 [.pointer (some x0),.int .i64 1000000000] fun y3 =>
  .qc20 97 [.pointer (some x0),.int .i64 1000000000] fun y4 =>
  .fz ((7:Nat)) [.int .i64 0,.int .i64 1,.int .i64 2,.int .i64 999999999,.int .i64 500000000,.int .i64 y3,.int .i64 y4] 3 fun b5 c5 =>
  .qc20 228 [.pointer (some x0),.slice (some { block:=b5,off:=(0:Nat):Addr }) ((7:Nat)) (c5)] fun y6 =>
  .rq ([Value.int IntKind.i64 y6].length=(1:Nat)*(1:Nat)) <|
 .rq (one [Value.int IntKind.i64 y6]=true∧(y2.1.1+(1:Nat))*(8:Nat)≤(140737488355328:Nat)∧y2.1.1+(1:Nat)≤(9223372036854775807:Nat)) <|
 .nx 0 [.a 3 (y2.1.1+(1:Nat)) (y2.1.2++[Value.int IntKind.i64 y6]),.v (.int .i64 (IntKind.i64.wrap (y2.2.1-(1:Int))))]) <|
 .fz y2.1.1 y2.1.2 3 fun b3 c3 =>
 .qc9 151 [.slice (some { block:=b3,off:=(0:Nat):Addr }) y2.1.1 (c3)] fun y4 =>
 .ret [Sc.val .l y4]
theorem fS_l02Nat x0 x1:qft aS_l02Nat 178 [.pointer (some x0),.int .i64 x1] (tS_l02Nat x0 x1) :=fitK (by kernel_rfl)
def tS_RatMake (x0:qy0) (x1:qy0):T :=
 .qc5 156 [qv0 x0] fun y1 =>
 .bn y1 (.ret [qv1 ((false),nilS,nilS,()),.bool (false)]) <|
 .qc5 156 [qv0 x1] fun y2 =>
 .bn y2 (.ret [qv1 ((false),nilS,nilS,()),.bool (false)]) <|
 .qc16 226 [.bool (!x0.1 == x1.1),Sc.val .l x0.2.1,Sc.val .l x1.2.1] fun y3 =>
 .ret [qv1 y3.1,.bool y3.2.1]
theorem fS_RatMake x0 x1:qft qa0 179 [qv0 x0,qv0 x1] (tS_RatMake x0 x1) :=fitK (by kernel_rfl)
def tI_IntStr (x0:qy0):T :=
 .qc5 108 [qv0 x0] fun y1 =>
 .bn y1 (.ret [.string ({ data:={ toList:=[]:Array UInt8 }:ByteArray })]) <|
 .br x0.1 (
  .qc1 210 [Sc.val .l x0.2.1] fun y2 =>
  .rq ({ data:={ toList:=[(45:UInt8)]:Array UInt8 }:ByteArray }.size+y2.size≤(9223372036854775807:Nat)) <|
 .ret [.string ({ data:={ toList:=[(45:UInt8)]:Array UInt8 }:ByteArray }++y2)]) <|
 .qc1 210 [Sc.val .l x0.2.1] fun y2 =>
 .ret [.string y2]
theorem fI_IntStr x0:qft qa0 180 [qv0 x0] (tI_IntStr x0) :=fitK (by kernel_rfl)
def tI_NatText (x0:SlV):T :=
 .qc5 109 [Sc.val .l x0] fun y1 =>
 .bn y1 (.ret [.string ({ data:={ toList:=[]:Array UInt8 }:ByteArray })]) <|
 .qc1 210 [Sc.val .l x0] fun y2 =>
 .ret [.string y2]
theorem fI_NatText x0:qft qa0 181 [Sc.val .l x0] (tI_NatText x0) :=fitK (by kernel_rfl)
def aI_natSmall:An:=⟨[(4,[.s 6,.s 7,.s 8],[.a 3,.o (.o (.i .i64)),.o (.o (.i .i64))])],[],[]⟩
def tI_natSmall (x0:SlV) (x1:Int):T :=
 .rq ((0:Int)≤(↑x0.n:Int)∧(↑x0.n:Int)≤(↑x0.n:Int)∧(↑(8:Nat):Int)*(↑x0.n:Int)≤(281474976710656:Int)∧(↑x0.n:Int)≤(9223372036854775807:Int)) <|
 .lp [.a 3,.o (.o (.i .i64)),.o (.o (.i .i64))] [.a 3 ((↑x0.n:Int).toNat) ((madeCells { toList:=[Value.int IntKind.i64 (0:Int)]:Array Value } ((↑x0.n:Int).toNat*(1:Nat))).toList),.v (.int .i64 0),.v (.int .i64 (IntKind.i64.wrap ((↑x0.n:Int)-(1:Int))))] fun y1 =>
 .br (decide (y1.2.2.1≥(0:Int))) (
  .el x0.1 (x0.n) y1.2.2.1 fun y2 =>
  .ql19 (y2.add (Int.toNat y1.2.2.1*(1:Nat))) fun y3 =>
  .rq (x1≠(0:Int)) <|
 .rq ((0:Int)≤y1.2.2.1∧y1.2.2.1<(↑y1.1.1:Int)) <|
 .rq (Int.toNat y1.2.2.1*(1:Nat)+[Value.int IntKind.i64 (IntKind.i64.wrap ((IntKind.i64.wrap (IntKind.i64.wrap (y1.2.1*(1000000000:Int))+y3)).tdiv x1))].length≤y1.1.2.length) <|
 .rq (x1≠(0:Int)) <|
 .nx 0 [.a 3 y1.1.1 (setl y1.1.2 (Int.toNat y1.2.2.1*(1:Nat)) [Value.int IntKind.i64 (IntKind.i64.wrap ((IntKind.i64.wrap (IntKind.i64.wrap (y1.2.1*(1000000000:Int))+y3)).tdiv x1))]),.v (.int .i64 ((IntKind.i64.wrap (IntKind.i64.wrap (y1.2.1*(1000000000:Int))+y3)).tmod x1)),.v (.int .i64 (IntKind.i64.wrap (y1.2.2.1-(1:Int))))]) <|
 .fz y1.1.1 y1.1.2 3 fun b2 c2 =>
 .qc9 121 [.slice (some { block:=b2,off:=(0:Nat):Addr }) y1.1.1 (c2)] fun y3 =>
 .ret [Sc.val .l y3,.int .i64 y1.2.1]
theorem fI_natSmall x0 x1:qft aI_natSmall 186 [Sc.val .l x0,.int .i64 x1] (tI_natSmall x0 x1) :=fitK (by kernel_rfl)
def tI_NatOf (x0:Int):T :=
 .br (decide (x0<(0:Int))) (
  .ret [.slice none 0 0]) <|
 .qc9 116 [.int .u64 (IntKind.u64.wrap x0)] fun y1 =>
 .ret [Sc.val .l y1]
theorem fI_NatOf x0:qft qa0 187 [.int .i64 x0] (tI_NatOf x0) :=fitK (by kernel_rfl)
def aI_divStep:An:=⟨[(4,[.s 7],[.o (.o (.i .i64))])],[],[]⟩
def tI_divStep (x0:SlV) (x1:SlV):T :=
 .rg <|
 .el x0.1 (x0.n) ((↑x1.n:Int)) fun y1 =>
 .ql33 (y1.add ((↑x1.n:Int).toNat*(1:Nat))) fun y2 =>
 .el x0.1 (x0.n) (IntKind.i64.wrap ((↑x1.n:Int)-(1:Int))) fun y3 =>
 .ql33 (y3.add ((IntKind.i64.wrap ((↑x1.n:Int)-(1:Int))).toNat*(1:Nat))) fun y4 =>
 .el x1.1 (x1.n) (IntKind.i64.wrap ((↑x1.n:Int)-(1:Int))) fun y5 =>
 .ql19 (y5.add ((IntKind.i64.wrap ((↑x1.n:Int)-(1:Int))).toNat*(1:Nat))) fun y6 =>
 .rq (y6≠(0:Int)) <|
 .lp [.o (.o (.i .i64))] [.v (.int .i64 (if (999999999:Int)<IntKind.i64.wrap ((IntKind.i64.wrap (IntKind.i64.wrap (y2*(1000000000:Int))+y4)).tdiv y6) then (999999999:Int) else IntKind.i64.wrap ((IntKind.i64.wrap (IntKind.i64.wrap (y2*(1000000000:Int))+y4)).tdiv y6)))] fun y7 =>
 .rg <|
 .br (decide (y7.1 > (0:Int))) (
  .el x1.1 (x1.n) (IntKind.i64.wrap ((↑x1.n:Int)-(1:Int))) fun y8 =>
  .ql33 (y8.add ((IntKind.i64.wrap ((↑x1.n:Int)-(1:Int))).toNat*(1:Nat))) fun y9 =>
  .br (decide (IntKind.i64.wrap (IntKind.i64.wrap (IntKind.i64.wrap (y2*(1000000000:Int))+y4)-IntKind.i64.wrap (y7.1*y9))<(1000000000:Int))) (
   .el x1.1 (x1.n) (IntKind.i64.wrap ((↑x1.n:Int)-(2:Int))) fun y10 =>
   .ql33 (y10.add ((IntKind.i64.wrap ((↑x1.n:Int)-(2:Int))).toNat*(1:Nat))) fun y11 =>
   .el x1.1 (x1.n) (IntKind.i64.wrap ((↑x1.n:Int)-(1:Int))) fun y12 =>
   .ql33 (y12.add ((IntKind.i64.wrap ((↑x1.n:Int)-(1:Int))).toNat*(1:Nat))) fun y13 =>
   .el x0.1 (x0.n) (IntKind.i64.wrap ((↑x1.n:Int)-(2:Int))) fun y14 =>
   .ql33 (y14.add ((IntKind.i64.wrap ((↑x1.n:Int)-(2:Int))).toNat*(1:Nat))) fun y15 =>
   .br (decide (IntKind.i64.wrap (y7.1*y11) > IntKind.i64.wrap (IntKind.i64.wrap (IntKind.i64.wrap (IntKind.i64.wrap (IntKind.i64.wrap (y2*(1000000000:Int))+y4)-IntKind.i64.wrap (y7.1*y13))*(1000000000:Int))+y15))) (
    .nx 0 [.v (.int .i64 (IntKind.i64.wrap (y7.1-(1:Int))))]) <|
 .qc5 233 [Sc.val .l x0,Sc.val .l x1,.int .i64 y7.1] fun y16 =>
   .br y16 (
    .qc45 234 [Sc.val .l x0,Sc.val .l x1] fun _ =>
    .ret [.int .i64 (IntKind.i64.wrap (y7.1-(1:Int)))]) <|
 .ret [.int .i64 y7.1]) <|
 .qc5 233 [Sc.val .l x0,Sc.val .l x1,.int .i64 y7.1] fun y10 =>
  .br y10 (
   .qc45 234 [Sc.val .l x0,Sc.val .l x1] fun _ =>
   .ret [.int .i64 (IntKind.i64.wrap (y7.1-(1:Int)))]) <|
 .ret [.int .i64 y7.1]) <|
 .qc5 233 [Sc.val .l x0,Sc.val .l x1,.int .i64 y7.1] fun y8 =>
 .br y8 (
  .qc45 234 [Sc.val .l x0,Sc.val .l x1] fun _ =>
  .ret [.int .i64 (IntKind.i64.wrap (y7.1-(1:Int)))]) <|
 .ret [.int .i64 y7.1]
theorem fI_divStep x0 x1:qft aI_divStep 188 [Sc.val .l x0,Sc.val .l x1] (tI_divStep x0 x1) :=fitK (by kernel_rfl)
def tS_RateOk (x0:qy4):T :=
 .qc5 89 [.string x0.1] fun y1 =>
 .br y1 (
  .qc5 89 [.string x0.2.1] fun y2 =>
  .br y2 (
   .br (!ByteArray.toList x0.1 == ByteArray.toList x0.2.1) (
    .qc5 236 [qv2 x0.2.2] fun y3 =>
    .br y3 (
     .qc20 237 [qv0 (x0.2.2.1,x0.2.2.2.1,())] fun y4 =>
     .br (decide (y4 > (0:Int))) (
      .ret [.bool (decide ((↑x0.2.2.2.1.n:Int)≤(2:Int)))]) <|
 .rF) <|
 .rF) <|
 .rF) <|
 .rF) <|
 .rF
theorem fS_RateOk x0:qft qa0 190 [qv5 x0] (tS_RateOk x0) :=fitK (by kernel_rfl)
def tS_l09Make (x0:ByteArray) (x1:qy0):T :=
 .qc5 193 [qv3 (x0,x1.1,x1.2.1,())] fun y1 =>
 .bn y1 (.ret [qv3 (({ data:={ toList:=[]:Array UInt8 }:ByteArray }),(false),nilS,()),.bool (false)]) <|
 .ret [qv3 (x0,x1.1,x1.2.1,()),.bool (true)]
theorem fS_l09Make x0 x1:qft qa0 191 [.string x0,qv0 x1] (tS_l09Make x0 x1) :=fitK (by kernel_rfl)
def tS_IsWord (x0:ByteArray):T :=
 .qc5 211 [.string x0,.int .u8 ((97:Int)),.int .u8 ((122:Int)),.int .u8 ((48:Int)),.int .u8 ((57:Int))] fun y1 =>
 .br y1 (
  .br (decide ((↑x0.size:Int)≤(12:Int))) (
   .rq ((0:Int)≤(0:Int)∧(0:Int)<(↑x0.size:Int)) <|
 .ret [.bool (decide (at0 x0 (Int.toNat (0:Int))≥(97:Int)))]) <|
 .rF) <|
 .rF
theorem fS_IsWord x0:qft qa0 192 [.string x0] (tS_IsWord x0) :=fitK (by kernel_rfl)
def tS_MoneyOk (x0:qy2):T :=
 .qc5 89 [.string x0.1] fun y1 =>
 .br y1 (
  .qc5 156 [qv0 x0.2] fun y2 =>
  .br y2 (
   .ret [.bool (decide ((↑x0.2.2.1.n:Int)≤(4:Int)))]) <|
 .rF) <|
 .rF
theorem fS_MoneyOk x0:qft qa0 193 [qv3 x0] (tS_MoneyOk x0) :=fitK (by kernel_rfl)
def aS_l10At:An:=⟨[(2,[.s 11],[.o (.o (.i .i64))])],[],[]⟩
def tS_l10At (x0:SlV) (x1:ByteArray) (x2:ByteArray):T :=
 .lp [.o (.o (.i .i64))] [.v (.int .i64 0)] fun y1 =>
 .br (decide (y1.1<(↑x0.n:Int))) (
  .el x0.1 (x0.n) y1.1 fun y2 =>
  .ql13 (y2.add (Int.toNat y1.1*(5:Nat))) fun y3 =>
  .br (ByteArray.toList y3.1 == x1.toList) (
   .br (ByteArray.toList y3.2.1 == x2.toList) (
    .ret [.int .i64 y1.1]) <|
 .nx 0 [.v (.int .i64 (IntKind.i64.wrap (y1.1+(1:Int))))]) <|
 .nx 0 [.v (.int .i64 (IntKind.i64.wrap (y1.1+(1:Int))))]) <|
 .rM
theorem fS_l10At x0 x1 x2:qft aS_l10At 194 [Sc.val .l x0,.string x1,.string x2] (tS_l10At x0 x1 x2) :=fitK (by kernel_rfl)
def tI_Cut (x0:ByteArray):T :=
 .qc9 129 [.string x0,.string ({ data:={ toList:=[(32:UInt8)]:Array UInt8 }:ByteArray })] fun y1 =>
 .ret [Sc.val .l y1]
theorem fI_Cut x0:qft qa0 198 [.string x0] (tI_Cut x0) :=fitK (by kernel_rfl)
def aI_TextDec:An:=⟨[(12,[.s 8],[.o (.o (.s))])],[],[]⟩
def tI_TextDec (x0:ByteArray):T :=
 .br (!x0.toList == { data:={ toList:=[]:Array UInt8 }:ByteArray }.toList) (
  .rq ((0:Int)≤(0:Int)∧(0:Int)<(↑x0.size:Int)) <|
 .br (at0 x0 (Int.toNat (0:Int)) == (45:Int)) (
   .rq ((0:Int)≤(1:Int)∧(1:Int)≤(↑x0.size:Int)∧(↑x0.size:Int)≤(↑x0.size:Int)) <|
 .qc9 129 [.string (x0.extract (Int.toNat (1:Int)) (↑x0.size:Int).toNat),.string ({ data:={ toList:=[(46:UInt8)]:Array UInt8 }:ByteArray })] fun y1 =>
   .br (decide ((↑y1.n:Int) > (2:Int))) (
    .ret [qv2 ((false),nilS,(((0:Int)):Int),()),.bool (false)]) <|
 .br (decide ((↑(x0.extract (Int.toNat (1:Int)) (↑x0.size:Int).toNat).size:Int) > (100:Int))) (
    .ret [qv2 ((false),nilS,(((0:Int)):Int),()),.bool (false)]) <|
 .br ((↑y1.n:Int) == (2:Int)) (
    .el y1.1 (y1.n) ((1:Int)) fun y2 =>
    .ql10 (y2.add (Int.toNat (1:Int)*(1:Nat))) fun y3 =>
    .qc1 48 [Sc.val .l y1,.string ({ data:={ toList:=[]:Array UInt8 }:ByteArray })] fun y4 =>
    .lp [.o (.o (.s))] [.v (.string y4)] fun y5 =>
    .br (decide ((↑(ByteArray.size y5.1):Int) > (1:Int))) (
     .rq ((0:Int)≤(0:Int)∧(0:Int)<(↑(ByteArray.size y5.1):Int)) <|
 .br (at0 y5.1 (Int.toNat (0:Int)) == (48:Int)) (
      .rq ((0:Int)≤(1:Int)∧(1:Int)≤(↑(ByteArray.size y5.1):Int)∧(↑(ByteArray.size y5.1):Int)≤(↑(ByteArray.size y5.1):Int)) <|
 .nx 0 [.v (.string (ByteArray.extract y5.1 (Int.toNat (1:Int)) (↑(ByteArray.size y5.1):Int).toNat))]) <|
 .qc27 166 [.string y5.1] fun y6 =>
     .qc31 112 [.bool (at0 x0 (Int.toNat (0:Int)) == (45:Int)),Sc.val .l y6.1] fun y7 =>
     .bn y6.2.1 (.ret [qv2 ((false),nilS,(((0:Int)):Int),()),.bool (false)]) <|
 .qc1 143 [qv2 (y7.1,y7.2.1,(((↑y3.size:Int)):Int),())] fun y8 =>
     .br (!y8.toList == x0.toList) (
      .ret [qv2 ((false),nilS,(((0:Int)):Int),()),.bool (false)]) <|
 .ret [qv2 (y7.1,y7.2.1,(((↑y3.size:Int)):Int),()),.bool (true)]) <|
 .qc27 166 [.string y5.1] fun y6 =>
    .qc31 112 [.bool (at0 x0 (Int.toNat (0:Int)) == (45:Int)),Sc.val .l y6.1] fun y7 =>
    .bn y6.2.1 (.ret [qv2 ((false),nilS,(((0:Int)):Int),()),.bool (false)]) <|
 .qc1 143 [qv2 (y7.1,y7.2.1,(((↑y3.size:Int)):Int),())] fun y8 =>
    .br (!y8.toList == x0.toList) (
     .ret [qv2 ((false),nilS,(((0:Int)):Int),()),.bool (false)]) <|
 .ret [qv2 (y7.1,y7.2.1,(((↑y3.size:Int)):Int),()),.bool (true)]) <|
 .qc1 48 [Sc.val .l y1,.string ({ data:={ toList:=[]:Array UInt8 }:ByteArray })] fun y2 =>
   .lp [.o (.o (.s))] [.v (.string y2)] fun y3 =>
   .br (decide ((↑(ByteArray.size y3.1):Int) > (1:Int))) (
    .rq ((0:Int)≤(0:Int)∧(0:Int)<(↑(ByteArray.size y3.1):Int)) <|
 .br (at0 y3.1 (Int.toNat (0:Int)) == (48:Int)) (
     .rq ((0:Int)≤(1:Int)∧(1:Int)≤(↑(ByteArray.size y3.1):Int)∧(↑(ByteArray.size y3.1):Int)≤(↑(ByteArray.size y3.1):Int)) <|
 .nx 0 [.v (.string (ByteArray.extract y3.1 (Int.toNat (1:Int)) (↑(ByteArray.size y3.1):Int).toNat))]) <|
 .qc27 166 [.string y3.1] fun y4 =>
    .qc31 112 [.bool (at0 x0 (Int.toNat (0:Int)) == (45:Int)),Sc.val .l y4.1] fun y5 =>
    .bn y4.2.1 (.ret [qv2 ((false),nilS,(((0:Int)):Int),()),.bool (false)]) <|
 .qc1 143 [qv2 (y5.1,y5.2.1,(((0:Int)):Int),())] fun y6 =>
    .br (!y6.toList == x0.toList) (
     .ret [qv2 ((false),nilS,(((0:Int)):Int),()),.bool (false)]) <|
 .ret [qv2 (y5.1,y5.2.1,(((0:Int)):Int),()),.bool (true)]) <|
 .qc27 166 [.string y3.1] fun y4 =>
   .qc31 112 [.bool (at0 x0 (Int.toNat (0:Int)) == (45:Int)),Sc.val .l y4.1] fun y5 =>
   .bn y4.2.1 (.ret [qv2 ((false),nilS,(((0:Int)):Int),()),.bool (false)]) <|
 .qc1 143 [qv2 (y5.1,y5.2.1,(((0:Int)):Int),())] fun y6 =>
   .br (!y6.toList == x0.toList) (
    .ret [qv2 ((false),nilS,(((0:Int)):Int),()),.bool (false)]) <|
 .ret [qv2 (y5.1,y5.2.1,(((0:Int)):Int),()),.bool (true)]) <|
 .qc9 129 [.string x0,.string ({ data:={ toList:=[(46:UInt8)]:Array UInt8 }:ByteArray })] fun y1 =>
  .br (decide ((↑y1.n:Int) > (2:Int))) (
   .ret [qv2 ((false),nilS,(((0:Int)):Int),()),.bool (false)]) <|
 .br (decide ((↑x0.size:Int) > (100:Int))) (
   .ret [qv2 ((false),nilS,(((0:Int)):Int),()),.bool (false)]) <|
 .br ((↑y1.n:Int) == (2:Int)) (
   .el y1.1 (y1.n) ((1:Int)) fun y2 =>
   .ql10 (y2.add (Int.toNat (1:Int)*(1:Nat))) fun y3 =>
   .qc1 48 [Sc.val .l y1,.string ({ data:={ toList:=[]:Array UInt8 }:ByteArray })] fun y4 =>
   .lp [.o (.o (.s))] [.v (.string y4)] fun y5 =>
   .br (decide ((↑(ByteArray.size y5.1):Int) > (1:Int))) (
    .rq ((0:Int)≤(0:Int)∧(0:Int)<(↑(ByteArray.size y5.1):Int)) <|
 .br (at0 y5.1 (Int.toNat (0:Int)) == (48:Int)) (
     .rq ((0:Int)≤(1:Int)∧(1:Int)≤(↑(ByteArray.size y5.1):Int)∧(↑(ByteArray.size y5.1):Int)≤(↑(ByteArray.size y5.1):Int)) <|
 .nx 0 [.v (.string (ByteArray.extract y5.1 (Int.toNat (1:Int)) (↑(ByteArray.size y5.1):Int).toNat))]) <|
 .qc27 166 [.string y5.1] fun y6 =>
    .qc31 112 [.bool (at0 x0 (Int.toNat (0:Int)) == (45:Int)),Sc.val .l y6.1] fun y7 =>
    .bn y6.2.1 (.ret [qv2 ((false),nilS,(((0:Int)):Int),()),.bool (false)]) <|
 .qc1 143 [qv2 (y7.1,y7.2.1,(((↑y3.size:Int)):Int),())] fun y8 =>
    .br (!y8.toList == x0.toList) (
     .ret [qv2 ((false),nilS,(((0:Int)):Int),()),.bool (false)]) <|
 .ret [qv2 (y7.1,y7.2.1,(((↑y3.size:Int)):Int),()),.bool (true)]) <|
 .qc27 166 [.string y5.1] fun y6 =>
   .qc31 112 [.bool (at0 x0 (Int.toNat (0:Int)) == (45:Int)),Sc.val .l y6.1] fun y7 =>
   .bn y6.2.1 (.ret [qv2 ((false),nilS,(((0:Int)):Int),()),.bool (false)]) <|
 .qc1 143 [qv2 (y7.1,y7.2.1,(((↑y3.size:Int)):Int),())] fun y8 =>
   .br (!y8.toList == x0.toList) (
    .ret [qv2 ((false),nilS,(((0:Int)):Int),()),.bool (false)]) <|
 .ret [qv2 (y7.1,y7.2.1,(((↑y3.size:Int)):Int),()),.bool (true)]) <|
 .qc1 48 [Sc.val .l y1,.string ({ data:={ toList:=[]:Array UInt8 }:ByteArray })] fun y2 =>
  .lp [.o (.o (.s))] [.v (.string y2)] fun y3 =>
  .br (decide ((↑(ByteArray.size y3.1):Int) > (1:Int))) (
   .rq ((0:Int)≤(0:Int)∧(0:Int)<(↑(ByteArray.size y3.1):Int)) <|
 .br (at0 y3.1 (Int.toNat (0:Int)) == (48:Int)) (
    .rq ((0:Int)≤(1:Int)∧(1:Int)≤(↑(ByteArray.size y3.1):Int)∧(↑(ByteArray.size y3.1):Int)≤(↑(ByteArray.size y3.1):Int)) <|
 .nx 0 [.v (.string (ByteArray.extract y3.1 (Int.toNat (1:Int)) (↑(ByteArray.size y3.1):Int).toNat))]) <|
 .qc27 166 [.string y3.1] fun y4 =>
   .qc31 112 [.bool (at0 x0 (Int.toNat (0:Int)) == (45:Int)),Sc.val .l y4.1] fun y5 =>
   .bn y4.2.1 (.ret [qv2 ((false),nilS,(((0:Int)):Int),()),.bool (false)]) <|
 .qc1 143 [qv2 (y5.1,y5.2.1,(((0:Int)):Int),())] fun y6 =>
   .br (!y6.toList == x0.toList) (
    .ret [qv2 ((false),nilS,(((0:Int)):Int),()),.bool (false)]) <|
 .ret [qv2 (y5.1,y5.2.1,(((0:Int)):Int),()),.bool (true)]) <|
 .qc27 166 [.string y3.1] fun y4 =>
  .qc31 112 [.bool (at0 x0 (Int.toNat (0:Int)) == (45:Int)),Sc.val .l y4.1] fun y5 =>
  .bn y4.2.1 (.ret [qv2 ((false),nilS,(((0:Int)):Int),()),.bool (false)]) <|
 .qc1 143 [qv2 (y5.1,y5.2.1,(((0:Int)):Int),())] fun y6 =>
  .br (!y6.toList == x0.toList) (
   .ret [qv2 ((false),nilS,(((0:Int)):Int),()),.bool (false)]) <|
 .ret [qv2 (y5.1,y5.2.1,(((0:Int)):Int),()),.bool (true)]) <|
 .qc9 129 [.string x0,.string ({ data:={ toList:=[(46:UInt8)]:Array UInt8 }:ByteArray })] fun y1 =>
 .br (decide ((↑y1.n:Int) > (2:Int))) (
  .ret [qv2 ((false),nilS,(((0:Int)):Int),()),.bool (false)]) <|
 .br (decide ((↑x0.size:Int) > (100:Int))) (
  .ret [qv2 ((false),nilS,(((0:Int)):Int),()),.bool (false)]) <|
 .br ((↑y1.n:Int) == (2:Int)) (
  .el y1.1 (y1.n) ((1:Int)) fun y2 =>
  .ql10 (y2.add (Int.toNat (1:Int)*(1:Nat))) fun y3 =>
  .qc1 48 [Sc.val .l y1,.string ({ data:={ toList:=[]:Array UInt8 }:ByteArray })] fun y4 =>
  .lp [.o (.o (.s))] [.v (.string y4)] fun y5 =>
  .br (decide ((↑(ByteArray.size y5.1):Int) > (1:Int))) (
   .rq ((0:Int)≤(0:Int)∧(0:Int)<(↑(ByteArray.size y5.1):Int)) <|
 .br (at0 y5.1 (Int.toNat (0:Int)) == (48:Int)) (
    .rq ((0:Int)≤(1:Int)∧(1:Int)≤(↑(ByteArray.size y5.1):Int)∧(↑(ByteArray.size y5.1):Int)≤(↑(ByteArray.size y5.1):Int)) <|
 .nx 0 [.v (.string (ByteArray.extract y5.1 (Int.toNat (1:Int)) (↑(ByteArray.size y5.1):Int).toNat))]) <|
 .qc27 166 [.string y5.1] fun y6 =>
   .qc31 112 [.bool (false),Sc.val .l y6.1] fun y7 =>
   .bn y6.2.1 (.ret [qv2 ((false),nilS,(((0:Int)):Int),()),.bool (false)]) <|
 .qc1 143 [qv2 (y7.1,y7.2.1,(((↑y3.size:Int)):Int),())] fun y8 =>
   .br (!y8.toList == x0.toList) (
    .ret [qv2 ((false),nilS,(((0:Int)):Int),()),.bool (false)]) <|
 .ret [qv2 (y7.1,y7.2.1,(((↑y3.size:Int)):Int),()),.bool (true)]) <|
 .qc27 166 [.string y5.1] fun y6 =>
  .qc31 112 [.bool (false),Sc.val .l y6.1] fun y7 =>
  .bn y6.2.1 (.ret [qv2 ((false),nilS,(((0:Int)):Int),()),.bool (false)]) <|
 .qc1 143 [qv2 (y7.1,y7.2.1,(((↑y3.size:Int)):Int),())] fun y8 =>
  .br (!y8.toList == x0.toList) (
   .ret [qv2 ((false),nilS,(((0:Int)):Int),()),.bool (false)]) <|
 .ret [qv2 (y7.1,y7.2.1,(((↑y3.size:Int)):Int),()),.bool (true)]) <|
 .qc1 48 [Sc.val .l y1,.string ({ data:={ toList:=[]:Array UInt8 }:ByteArray })] fun y2 =>
 .lp [.o (.o (.s))] [.v (.string y2)] fun y3 =>
 .br (decide ((↑(ByteArray.size y3.1):Int) > (1:Int))) (
  .rq ((0:Int)≤(0:Int)∧(0:Int)<(↑(ByteArray.size y3.1):Int)) <|
 .br (at0 y3.1 (Int.toNat (0:Int)) == (48:Int)) (
   .rq ((0:Int)≤(1:Int)∧(1:Int)≤(↑(ByteArray.size y3.1):Int)∧(↑(ByteArray.size y3.1):Int)≤(↑(ByteArray.size y3.1):Int)) <|
 .nx 0 [.v (.string (ByteArray.extract y3.1 (Int.toNat (1:Int)) (↑(ByteArray.size y3.1):Int).toNat))]) <|
 .qc27 166 [.string y3.1] fun y4 =>
  .qc31 112 [.bool (false),Sc.val .l y4.1] fun y5 =>
  .bn y4.2.1 (.ret [qv2 ((false),nilS,(((0:Int)):Int),()),.bool (false)]) <|
 .qc1 143 [qv2 (y5.1,y5.2.1,(((0:Int)):Int),())] fun y6 =>
  .br (!y6.toList == x0.toList) (
   .ret [qv2 ((false),nilS,(((0:Int)):Int),()),.bool (false)]) <|
 .ret [qv2 (y5.1,y5.2.1,(((0:Int)):Int),()),.bool (true)]) <|
 .qc27 166 [.string y3.1] fun y4 =>
 .qc31 112 [.bool (false),Sc.val .l y4.1] fun y5 =>
 .bn y4.2.1 (.ret [qv2 ((false),nilS,(((0:Int)):Int),()),.bool (false)]) <|
 .qc1 143 [qv2 (y5.1,y5.2.1,(((0:Int)):Int),())] fun y6 =>
 .br (!y6.toList == x0.toList) (
  .ret [qv2 ((false),nilS,(((0:Int)):Int),()),.bool (false)]) <|
 .ret [qv2 (y5.1,y5.2.1,(((0:Int)):Int),()),.bool (true)]
theorem fI_TextDec x0:qft aI_TextDec 199 [.string x0] (tI_TextDec x0) :=fitK (by kernel_rfl)
def aI_IsWord:An:=⟨[(4,[.s 3],[.o (.o (.i .i64))])],[],[]⟩
def tI_IsWord (x0:ByteArray):T :=
 .br (decide ((↑x0.size:Int)<(1:Int))) (
  .rF) <|
 .br (decide ((↑x0.size:Int) > (12:Int))) (
  .rF) <|
 .rq ((0:Int)≤(0:Int)∧(0:Int)<(↑x0.size:Int)) <|
 .qc5 239 [.int .u8 (at0 x0 (Int.toNat (0:Int)))] fun y1 =>
 .bF y1 <|
 .lp [.o (.o (.i .i64))] [.v (.int .i64 1)] fun y2 =>
 .br (decide (y2.1<(↑x0.size:Int))) (
  .rq ((0:Int)≤y2.1∧y2.1<(↑x0.size:Int)) <|
 .qc5 239 [.int .u8 (at0 x0 (Int.toNat y2.1))] fun y3 =>
  .bn y3 (.rq ((0:Int)≤y2.1∧y2.1<(↑x0.size:Int)) <|
 .qc5 240 [.int .u8 (at0 x0 (Int.toNat y2.1))] fun y4 =>
   .bF y4 <|
 .nx 0 [.v (.int .i64 (IntKind.i64.wrap (y2.1+(1:Int))))]) <|
 .nx 0 [.v (.int .i64 (IntKind.i64.wrap (y2.1+(1:Int))))]) <|
 .rT
theorem fI_IsWord x0:qft aI_IsWord 200 [.string x0] (tI_IsWord x0) :=fitK (by kernel_rfl)
def aS_BookOpen:An:=⟨[(5,[.s 9],[.o (.o (.i .i64))])],[],[]⟩
def tS_BookOpen (x0:qy3) (x1:ByteArray) (x2:ByteArray):T :=
 .qc5 125 [qv4 x0] fun y1 =>
 .bn y1 (.ret [qv4 (nilS,()),.bool (false)]) <|
 .qc20 243 [qv4 x0,.string x1] fun y2 =>
 .br (decide (y2≥(0:Int))) (
  .ret [qv4 (nilS,()),.bool (false)]) <|
 .qc25 244 [qv4 x0] fun y3 =>
 .lp [.o (.o (.i .i64))] [.v (.int .i64 0)] fun y4 =>
 .br (decide (y4.1<(↑y3.1.n:Int))) (
  .el y3.1.1 (y3.1.n) y4.1 fun y5 =>
  .ql10 ((y5.add (Int.toNat y4.1*(4:Nat))).add (0:Nat)) fun y6 =>
  .br (Op.bytesLess y6.toList x1.toList) (
   .nx 0 [.v (.int .i64 (IntKind.i64.wrap (y4.1+(1:Int))))]) <|
 .rq ((0:Int)≤(0:Int)∧(0:Int)≤y4.1∧y4.1≤(↑y3.1.c:Int)∧(↑y3.1.c:Int)≤(↑y3.1.c:Int)) <|
 .rd ({ a:=if (↑y3.1.c:Int).toNat=Int.toNat (0:Int) then y3.1.1 else Option.map (fun x=>x.add (Int.toNat (0:Int)*Go.Proofs.Tryz.prog.types[(109:Nat)].size)) y3.1.1,n:=Int.toNat y4.1-Int.toNat (0:Int),c:=(↑y3.1.c:Int).toNat-Int.toNat (0:Int):SlV }) ((4:Nat)) fun y7 =>
  .rq (one y7=true∧((0:Nat)+(Int.toNat y4.1-Int.toNat (0:Int)))*(64:Nat)≤(140737488355328:Nat)∧(0:Nat)+(Int.toNat y4.1-Int.toNat (0:Int))≤(9223372036854775807:Nat)) <|
 .rq ([Value.string x1,Value.string x2,Value.bool false,Value.slice none (0:Nat) (0:Nat)].length=(1:Nat)*(4:Nat)) <|
 .rq (one [Value.string x1,Value.string x2,Value.bool false,Value.slice none (0:Nat) (0:Nat)]=true∧((0:Nat)+(Int.toNat y4.1-Int.toNat (0:Int))+(1:Nat))*(64:Nat)≤(140737488355328:Nat)∧(0:Nat)+(Int.toNat y4.1-Int.toNat (0:Int))+(1:Nat)≤(9223372036854775807:Nat)) <|
 .rq ((0:Int)≤y4.1∧y4.1≤(↑y3.1.n:Int)∧(↑y3.1.n:Int)≤(↑y3.1.c:Int)∧(↑y3.1.c:Int)≤(↑y3.1.c:Int)) <|
 .rd ({ a:=if (↑y3.1.c:Int).toNat=Int.toNat y4.1 then y3.1.1 else Option.map (fun x=>x.add (Int.toNat y4.1*Go.Proofs.Tryz.prog.types[(109:Nat)].size)) y3.1.1,n:=(↑y3.1.n:Int).toNat-Int.toNat y4.1,c:=(↑y3.1.c:Int).toNat-Int.toNat y4.1:SlV }) ((4:Nat)) fun y8 =>
  .rq (one y8=true∧((0:Nat)+(Int.toNat y4.1-Int.toNat (0:Int))+(1:Nat)+((↑y3.1.n:Int).toNat-Int.toNat y4.1))*(64:Nat)≤(140737488355328:Nat)∧(0:Nat)+(Int.toNat y4.1-Int.toNat (0:Int))+(1:Nat)+((↑y3.1.n:Int).toNat-Int.toNat y4.1)≤(9223372036854775807:Nat)) <|
 .fz ((0:Nat)+(Int.toNat y4.1-Int.toNat (0:Int))+(1:Nat)+((↑y3.1.n:Int).toNat-Int.toNat y4.1)) ([]++y7++[Value.string x1,Value.string x2,Value.bool false,Value.slice none (0:Nat) (0:Nat)]++y8) 109 fun b9 c9 =>
  .qc5 125 [qv4 ((⟨(some { block:=b9,off:=(0:Nat):Addr }),((0:Nat)+(Int.toNat y4.1-Int.toNat (0:Int))+(1:Nat)+((↑y3.1.n:Int).toNat-Int.toNat y4.1)),(c9)⟩:SlV),())] fun y10 =>
  .bn y10 (.ret [qv4 (nilS,()),.bool (false)]) <|
 .ret [qv4 ((⟨(some { block:=b9,off:=(0:Nat):Addr }),((0:Nat)+(Int.toNat y4.1-Int.toNat (0:Int))+(1:Nat)+((↑y3.1.n:Int).toNat-Int.toNat y4.1)),(c9)⟩:SlV),()),.bool (true)]) <|
 .rq ((0:Int)≤(0:Int)∧(0:Int)≤y4.1∧y4.1≤(↑y3.1.c:Int)∧(↑y3.1.c:Int)≤(↑y3.1.c:Int)) <|
 .rd ({ a:=if (↑y3.1.c:Int).toNat=Int.toNat (0:Int) then y3.1.1 else Option.map (fun x=>x.add (Int.toNat (0:Int)*Go.Proofs.Tryz.prog.types[(109:Nat)].size)) y3.1.1,n:=Int.toNat y4.1-Int.toNat (0:Int),c:=(↑y3.1.c:Int).toNat-Int.toNat (0:Int):SlV }) ((4:Nat)) fun y5 =>
 .rq (one y5=true∧((0:Nat)+(Int.toNat y4.1-Int.toNat (0:Int)))*(64:Nat)≤(140737488355328:Nat)∧(0:Nat)+(Int.toNat y4.1-Int.toNat (0:Int))≤(9223372036854775807:Nat)) <|
 .rq ([Value.string x1,Value.string x2,Value.bool false,Value.slice none (0:Nat) (0:Nat)].length=(1:Nat)*(4:Nat)) <|
 .rq (one [Value.string x1,Value.string x2,Value.bool false,Value.slice none (0:Nat) (0:Nat)]=true∧((0:Nat)+(Int.toNat y4.1-Int.toNat (0:Int))+(1:Nat))*(64:Nat)≤(140737488355328:Nat)∧(0:Nat)+(Int.toNat y4.1-Int.toNat (0:Int))+(1:Nat)≤(9223372036854775807:Nat)) <|
 .rq ((0:Int)≤y4.1∧y4.1≤(↑y3.1.n:Int)∧(↑y3.1.n:Int)≤(↑y3.1.c:Int)∧(↑y3.1.c:Int)≤(↑y3.1.c:Int)) <|
 .rd ({ a:=if (↑y3.1.c:Int).toNat=Int.toNat y4.1 then y3.1.1 else Option.map (fun x=>x.add (Int.toNat y4.1*Go.Proofs.Tryz.prog.types[(109:Nat)].size)) y3.1.1,n:=(↑y3.1.n:Int).toNat-Int.toNat y4.1,c:=(↑y3.1.c:Int).toNat-Int.toNat y4.1:SlV }) ((4:Nat)) fun y6 =>
 .rq (one y6=true∧((0:Nat)+(Int.toNat y4.1-Int.toNat (0:Int))+(1:Nat)+((↑y3.1.n:Int).toNat-Int.toNat y4.1))*(64:Nat)≤(140737488355328:Nat)∧(0:Nat)+(Int.toNat y4.1-Int.toNat (0:Int))+(1:Nat)+((↑y3.1.n:Int).toNat-Int.toNat y4.1)≤(9223372036854775807:Nat)) <|
 .fz ((0:Nat)+(Int.toNat y4.1-Int.toNat (0:Int))+(1:Nat)+((↑y3.1.n:Int).toNat-Int.toNat y4.1)) ([]++y5++[Value.string x1,Value.string x2,Value.bool false,Value.slice none (0:Nat) (0:Nat)]++y6) 109 fun b7 c7 =>
 .qc5 125 [qv4 ((⟨(some { block:=b7,off:=(0:Nat):Addr }),((0:Nat)+(Int.toNat y4.1-Int.toNat (0:Int))+(1:Nat)+((↑y3.1.n:Int).toNat-Int.toNat y4.1)),(c7)⟩:SlV),())] fun y8 =>
 .bn y8 (.ret [qv4 (nilS,()),.bool (false)]) <|
 .ret [qv4 ((⟨(some { block:=b7,off:=(0:Nat):Addr }),((0:Nat)+(Int.toNat y4.1-Int.toNat (0:Int))+(1:Nat)+((↑y3.1.n:Int).toNat-Int.toNat y4.1)),(c7)⟩:SlV),()),.bool (true)]
theorem fS_BookOpen x0 x1 x2:qft aS_BookOpen 203 [qv4 x0,.string x1,.string x2] (tS_BookOpen x0 x1 x2) :=fitK (by kernel_rfl)
def tS_BookPost (x0:qy3) (x1:ByteArray) (x2:qy2):T :=
 .qc20 243 [qv4 x0,.string x1] fun y1 =>
 .qc5 125 [qv4 x0] fun y2 =>
 .bn y2 (.ret [qv4 (nilS,()),.bool (false)]) <|
 .br (decide (y1<(0:Int))) (
  .ret [qv4 (nilS,()),.bool (false)]) <|
 .rg <|
 .el x0.1.1 (x0.1.n) y1 fun y3 =>
 .ql46 ((y3.add (y1.toNat*(4:Nat))).add (1:Nat)) fun y4 =>
 .qc23 245 [qv3 y4,qv3 x2] fun y5 =>
 .bn y5.2.1 (.ret [qv4 (nilS,()),.bool (false)]) <|
 .qc25 244 [qv4 x0] fun y6 =>
 .el y6.1.1 (y6.1.n) y1 fun y7 =>
 .st ((y7.add (y1.toNat*(4:Nat))).add (1:Nat)) [.string y5.1.1,.bool y5.1.2.1,Sc.val .l y5.1.2.2.1] <|
 .ret [qv4 y6,.bool (true)]
theorem fS_BookPost x0 x1 x2:qft qa0 204 [qv4 x0,.string x1,qv3 x2] (tS_BookPost x0 x1 x2) :=fitK (by kernel_rfl)
def tS_IntOf (x0:Int):T :=
 .br (x0 == (-9223372036854775808:Int)) (
  .fz ((3:Nat)) [.int .i64 854775808,.int .i64 223372036,.int .i64 9] 3 fun b1 c1 =>
  .qc31 218 [.bool (true),.slice (some { block:=b1,off:=(0:Nat):Addr }) ((3:Nat)) (c1)] fun y2 =>
  .ret [qv0 y2]) <|
 .br (decide (x0<(0:Int))) (
  .qc9 176 [.int .i64 (IntKind.i64.wrap ((0:Int)-x0))] fun y1 =>
  .qc31 218 [.bool (true),Sc.val .l y1] fun y2 =>
  .ret [qv0 y2]) <|
 .qc9 176 [.int .i64 x0] fun y1 =>
 .qc31 218 [.bool (false),Sc.val .l y1] fun y2 =>
 .ret [qv0 y2]
theorem fS_IntOf x0:qft qa0 205 [.int .i64 x0] (tS_IntOf x0) :=fitK (by kernel_rfl)
def aS_l10Draw:An:=⟨[(3,[.s 3,.s 4],[.o (.o (.s)),.o (.o (.s))])],[],[]⟩
def tS_l10Draw (x0:Addr):T :=
 .qc1 99 [.pointer (some x0)] fun y1 =>
 .qc1 99 [.pointer (some x0)] fun y2 =>
 .lp [.o (.o (.s)),.o (.o (.s))] [.v (.string y1),.v (.string y2)] fun y3 =>
 .br (ByteArray.toList y3.1 == ByteArray.toList y3.2.1) (
  .fz ((2:Nat)) [.string ({ data:={ toList:=[(67:UInt8),(72:UInt8),(70:UInt8)]:Array UInt8 }:ByteArray }),.string ({ data:={ toList:=[(69:UInt8),(85:UInt8),(82:UInt8)]:Array UInt8 }:ByteArray })] 9 fun b4 c4 =>
  .qc1 174 [.pointer (some x0),.slice (some { block:=b4,off:=(0:Nat):Addr }) ((2:Nat)) (c4)] fun y5 =>
  .nx 0 [.v (.string y5),.v (.string ({ data:={ toList:=[(85:UInt8),(83:UInt8),(68:UInt8)]:Array UInt8 }:ByteArray }))]) <|
 .qc20 97 [.pointer (some x0),.int .i64 3000] fun y4 =>
 .qc31 205 [.int .i64 (IntKind.i64.wrap ((1:Int)+y4))] fun y5 =>
 .rf <|
 .es [.int .i64 0,.int .i64 1,.int .i64 2,.int .i64 3,.int .i64 4] 3 fun b6 =>
 .cf 228 [.pointer (some x0),.slice (some { block:=b6,off:=(0:Nat):Addr }) ((5:Nat)) ((5:Nat))] (.v (.o (.i .i64))) fun y7 =>
 .ret [qv5 (y3.1,y3.2.1,y5.1,y5.2.1,((y7):Int),())]
theorem fS_l10Draw x0:qft aS_l10Draw 206 [.pointer (some x0)] (tS_l10Draw x0) :=fitK (by kernel_rfl)
def tS_RatePut (x0:qy7) (x1:qy4):T :=
 .qc5 126 [qv6 x0] fun y1 =>
 .bn y1 (.ret [qv6 (({ data:={ toList:=[]:Array UInt8 }:ByteArray }),nilS,()),.bool (false)]) <|
 .qc5 190 [qv5 x1] fun y2 =>
 .bn y2 (.ret [qv6 (({ data:={ toList:=[]:Array UInt8 }:ByteArray }),nilS,()),.bool (false)]) <|
 .qc26 246 [qv6 x0] fun y3 =>
 .qc20 194 [Sc.val .l x0.2.1,.string x1.1,.string x1.2.1] fun y4 =>
 .br (decide (y4≥(0:Int))) (
  .rg <|
 .qc47 247 [qv5 x1] fun y5 =>
  .el y3.2.1.1 (y3.2.1.n) y4 fun y6 =>
  .st (y6.add (y4.toNat*(5:Nat))) [.string y5.1,.string y5.2.1,.bool y5.2.2.1,Sc.val .l y5.2.2.2.1,.int .i64 y5.2.2.2.2.1] <|
 .qc5 126 [qv6 y3] fun y7 =>
  .bn y7 (.ret [qv6 (({ data:={ toList:=[]:Array UInt8 }:ByteArray }),nilS,()),.bool (false)]) <|
 .ret [qv6 y3,.bool (true)]) <|
 .rg <|
 .qc47 247 [qv5 x1] fun y5 =>
 .rq ([Value.string y5.1,Value.string y5.2.1,Value.bool y5.2.2.1,Value.slice y5.2.2.2.1.1 y5.2.2.2.1.n y5.2.2.2.1.c,Value.int IntKind.i64 y5.2.2.2.2.1].length=(1:Nat)*(5:Nat)) <|
 .rq (one [Value.string y5.1,Value.string y5.2.1,Value.bool y5.2.2.1,Value.slice y5.2.2.2.1.1 y5.2.2.2.1.n y5.2.2.2.1.c,Value.int IntKind.i64 y5.2.2.2.2.1]=true) <|
 .ap ({ a:=y3.2.1.1,n:=y3.2.1.n,c:=y3.2.1.c:SlV }) 5 72 [.string y5.1,.string y5.2.1,.bool y5.2.2.1,Sc.val .l y5.2.2.2.1,.int .i64 y5.2.2.2.2.1] ((1:Nat)) 104 fun y6 =>
 .qc5 126 [qv6 (y3.1,y6,())] fun y7 =>
 .bn y7 (.ret [qv6 (({ data:={ toList:=[]:Array UInt8 }:ByteArray }),nilS,()),.bool (false)]) <|
 .ret [qv6 (y3.1,y6,()),.bool (true)]
theorem fS_RatePut x0 x1:qft qa0 207 [qv6 x0,qv5 x1] (tS_RatePut x0 x1) :=fitK (by kernel_rfl)
def tI_DecOk (x0:qy5):T :=
 .qc5 108 [qv0 (x0.1,x0.2.1,())] fun y1 =>
 .br y1 (
  .br (decide ((↑x0.2.1.n:Int)≤(6:Int))) (
   .qc5 248 [.int .i64 x0.2.2.1] fun y2 =>
   .ret [.bool y2]) <|
 .rF) <|
 .rF
theorem fI_DecOk x0:qft qa0 208 [qv2 x0] (tI_DecOk x0) :=fitK (by kernel_rfl)
def tI_Pad (x0:ByteArray) (x1:Int):T :=
 .br (decide ((↑x0.size:Int)≥x1)) (
  .ret [.string x0]) <|
 .br (decide (x1 > (2000:Int))) (
  .ret [.string x0]) <|
 .qc1 249 [.string ({ data:={ toList:=[(48:UInt8)]:Array UInt8 }:ByteArray }),.int .i64 (IntKind.i64.wrap (x1-(↑x0.size:Int)))] fun y1 =>
 .rq (y1.size+x0.size≤(9223372036854775807:Nat)) <|
 .ret [.string (y1++x0)]
theorem fI_Pad x0 x1:qft qa0 209 [.string x0,.int .i64 x1] (tI_Pad x0 x1) :=fitK (by kernel_rfl)
def aI_natText:An:=⟨[(5,[.s 3,.s 4],[.o (.o (.s)),.o (.o (.i .i64))])],[],[]⟩
def tI_natText (x0:SlV):T :=
 .br ((↑x0.n:Int) == (0:Int)) (
  .ret [.string ({ data:={ toList:=[(48:UInt8)]:Array UInt8 }:ByteArray })]) <|
 .el x0.1 (x0.n) (IntKind.i64.wrap ((↑x0.n:Int)-(1:Int))) fun y1 =>
 .ql19 (y1.add ((IntKind.i64.wrap ((↑x0.n:Int)-(1:Int))).toNat*(1:Nat))) fun y2 =>
 .qc1 250 [.int .i64 y2] fun y3 =>
 .lp [.o (.o (.s)),.o (.o (.i .i64))] [.v (.string y3),.v (.int .i64 (IntKind.i64.wrap ((↑x0.n:Int)-(2:Int))))] fun y4 =>
 .br (decide (y4.2.1≥(0:Int))) (
  .el x0.1 (x0.n) y4.2.1 fun y5 =>
  .ql19 (y5.add (Int.toNat y4.2.1*(1:Nat))) fun y6 =>
  .qc1 250 [.int .i64 y6] fun y7 =>
  .qc1 209 [.string y7,.int .i64 9] fun y8 =>
  .rq (ByteArray.size y4.1+y8.size≤(9223372036854775807:Nat)) <|
 .nx 0 [.v (.string (y4.1++y8)),.v (.int .i64 (IntKind.i64.wrap (y4.2.1-(1:Int))))]) <|
 .ret [.string y4.1]
theorem fI_natText x0:qft aI_natText 210 [Sc.val .l x0] (tI_natText x0) :=fitK (by kernel_rfl)
def aS_l01All:An:=⟨[(2,[.s 11],[.o (.o (.i .i64))])],[],[]⟩
def tS_l01All (x0:ByteArray) (x1:Int) (x2:Int) (x3:Int) (x4:Int):T :=
 .lp [.o (.o (.i .i64))] [.v (.int .i64 0)] fun y1 =>
 .br (decide (y1.1<(↑x0.size:Int))) (
  .rq ((0:Int)≤y1.1∧y1.1<(↑x0.size:Int)) <|
 .br (decide (at0 x0 (Int.toNat y1.1)<x1)) (
   .rq ((0:Int)≤y1.1∧y1.1<(↑x0.size:Int)) <|
 .br (decide (at0 x0 (Int.toNat y1.1)<x3)) (
    .rF) <|
 .rq ((0:Int)≤y1.1∧y1.1<(↑x0.size:Int)) <|
 .br (decide (at0 x0 (Int.toNat y1.1) > x4)) (
    .rF) <|
 .nx 0 [.v (.int .i64 (IntKind.i64.wrap (y1.1+(1:Int))))]) <|
 .rq ((0:Int)≤y1.1∧y1.1<(↑x0.size:Int)) <|
 .br (decide (at0 x0 (Int.toNat y1.1) > x2)) (
   .rq ((0:Int)≤y1.1∧y1.1<(↑x0.size:Int)) <|
 .br (decide (at0 x0 (Int.toNat y1.1)<x3)) (
    .rF) <|
 .rq ((0:Int)≤y1.1∧y1.1<(↑x0.size:Int)) <|
 .br (decide (at0 x0 (Int.toNat y1.1) > x4)) (
    .rF) <|
 .nx 0 [.v (.int .i64 (IntKind.i64.wrap (y1.1+(1:Int))))]) <|
 .nx 0 [.v (.int .i64 (IntKind.i64.wrap (y1.1+(1:Int))))]) <|
 .ret [.bool (decide ((↑x0.size:Int) > (0:Int)))]
theorem fS_l01All x0 x1 x2 x3 x4:qft aS_l01All 211 [.string x0,.int .u8 x1,.int .u8 x2,.int .u8 x3,.int .u8 x4] (tS_l01All x0 x1 x2 x3 x4) :=fitK (by kernel_rfl)
def tS_l08Table :T :=
 .fz ((20:Nat)) [.string ({ data:={ toList:=[(65:UInt8),(85:UInt8),(68:UInt8)]:Array UInt8 }:ByteArray }),.string ({ data:={ toList:=[(48:UInt8),(51:UInt8),(54:UInt8)]:Array UInt8 }:ByteArray }),.int .i64 2,.int .i64 5,.string ({ data:={ toList:=[(66:UInt8),(72:UInt8),(68:UInt8)]:Array UInt8 }:ByteArray }),.string ({ data:={ toList:=[(48:UInt8),(52:UInt8),(56:UInt8)]:Array UInt8 }:ByteArray }),.int .i64 3,.int .i64 5,.string ({ data:={ toList:=[(67:UInt8),(65:UInt8),(68:UInt8)]:Array UInt8 }:ByteArray }),.string ({ data:={ toList:=[(49:UInt8),(50:UInt8),(52:UInt8)]:Array UInt8 }:ByteArray }),.int .i64 2,.int .i64 5,.string ({ data:={ toList:=[(67:UInt8),(72:UInt8),(70:UInt8)]:Array UInt8 }:ByteArray }),.string ({ data:={ toList:=[(55:UInt8),(53:UInt8),(54:UInt8)]:Array UInt8 }:ByteArray }),.int .i64 2,.int .i64 5,.string ({ data:={ toList:=[(67:UInt8),(76:UInt8),(70:UInt8)]:Array UInt8 }:ByteArray }),.string ({ data:={ toList:=[(57:UInt8),(57:UInt8),(48:UInt8)]:Array UInt8 }:ByteArray }),.int .i64 4,.int .i64 1,.string ({ data:={ toList:=[(67:UInt8),(90:UInt8),(75:UInt8)]:Array UInt8 }:ByteArray }),.string ({ data:={ toList:=[(50:UInt8),(48:UInt8),(51:UInt8)]:Array UInt8 }:ByteArray }),.int .i64 2,.int .i64 100,.string ({ data:={ toList:=[(68:UInt8),(75:UInt8),(75:UInt8)]:Array UInt8 }:ByteArray }),.string ({ data:={ toList:=[(50:UInt8),(48:UInt8),(56:UInt8)]:Array UInt8 }:ByteArray }),.int .i64 2,.int .i64 50,.string ({ data:={ toList:=[(69:UInt8),(85:UInt8),(82:UInt8)]:Array UInt8 }:ByteArray }),.string ({ data:={ toList:=[(57:UInt8),(55:UInt8),(56:UInt8)]:Array UInt8 }:ByteArray }),.int .i64 2,.int .i64 1,.string ({ data:={ toList:=[(71:UInt8),(66:UInt8),(80:UInt8)]:Array UInt8 }:ByteArray }),.string ({ data:={ toList:=[(56:UInt8),(50:UInt8),(54:UInt8)]:Array UInt8 }:ByteArray }),.int .i64 2,.int .i64 1,.string ({ data:={ toList:=[(72:UInt8),(85:UInt8),(70:UInt8)]:Array UInt8 }:ByteArray }),.string ({ data:={ toList:=[(51:UInt8),(52:UInt8),(56:UInt8)]:Array UInt8 }:ByteArray }),.int .i64 2,.int .i64 500,.string ({ data:={ toList:=[(73:UInt8),(83:UInt8),(75:UInt8)]:Array UInt8 }:ByteArray }),.string ({ data:={ toList:=[(51:UInt8),(53:UInt8),(50:UInt8)]:Array UInt8 }:ByteArray }),.int .i64 0,.int .i64 1,.string ({ data:={ toList:=[(74:UInt8),(80:UInt8),(89:UInt8)]:Array UInt8 }:ByteArray }),.string ({ data:={ toList:=[(51:UInt8),(57:UInt8),(50:UInt8)]:Array UInt8 }:ByteArray }),.int .i64 0,.int .i64 1,.string ({ data:={ toList:=[(75:UInt8),(82:UInt8),(87:UInt8)]:Array UInt8 }:ByteArray }),.string ({ data:={ toList:=[(52:UInt8),(49:UInt8),(48:UInt8)]:Array UInt8 }:ByteArray }),.int .i64 0,.int .i64 10,.string ({ data:={ toList:=[(75:UInt8),(87:UInt8),(68:UInt8)]:Array UInt8 }:ByteArray }),.string ({ data:={ toList:=[(52:UInt8),(49:UInt8),(52:UInt8)]:Array UInt8 }:ByteArray }),.int .i64 3,.int .i64 5,.string ({ data:={ toList:=[(78:UInt8),(79:UInt8),(75:UInt8)]:Array UInt8 }:ByteArray }),.string ({ data:={ toList:=[(53:UInt8),(55:UInt8),(56:UInt8)]:Array UInt8 }:ByteArray }),.int .i64 2,.int .i64 100,.string ({ data:={ toList:=[(78:UInt8),(90:UInt8),(68:UInt8)]:Array UInt8 }:ByteArray }),.string ({ data:={ toList:=[(53:UInt8),(53:UInt8),(52:UInt8)]:Array UInt8 }:ByteArray }),.int .i64 2,.int .i64 10,.string ({ data:={ toList:=[(80:UInt8),(76:UInt8),(78:UInt8)]:Array UInt8 }:ByteArray }),.string ({ data:={ toList:=[(57:UInt8),(56:UInt8),(53:UInt8)]:Array UInt8 }:ByteArray }),.int .i64 2,.int .i64 1,.string ({ data:={ toList:=[(83:UInt8),(69:UInt8),(75:UInt8)]:Array UInt8 }:ByteArray }),.string ({ data:={ toList:=[(55:UInt8),(53:UInt8),(50:UInt8)]:Array UInt8 }:ByteArray }),.int .i64 2,.int .i64 100,.string ({ data:={ toList:=[(84:UInt8),(78:UInt8),(68:UInt8)]:Array UInt8 }:ByteArray }),.string ({ data:={ toList:=[(55:UInt8),(56:UInt8),(56:UInt8)]:Array UInt8 }:ByteArray }),.int .i64 3,.int .i64 10,.string ({ data:={ toList:=[(85:UInt8),(83:UInt8),(68:UInt8)]:Array UInt8 }:ByteArray }),.string ({ data:={ toList:=[(56:UInt8),(52:UInt8),(48:UInt8)]:Array UInt8 }:ByteArray }),.int .i64 2,.int .i64 1] 170 fun b1 c1 =>
 .ret [.slice (some { block:=b1,off:=(0:Nat):Addr }) ((20:Nat)) (c1)]
theorem fS_l08Table :qft qa0 214 [] (tS_l08Table ) :=fitK (by kernel_rfl)
def tS_l01In (x0:Int) (x1:Int) (x2:Int):T :=
 .br (decide (x0≥x1)) (
  .ret [.bool (decide (x0≤x2))]) <|
 .rF
theorem fS_l01In x0 x1 x2:qft qa0 215 [.int .i64 x0,.int .i64 x1,.int .i64 x2] (tS_l01In x0 x1 x2) :=fitK (by kernel_rfl)
def aS_l03Div:An:=⟨[(7,[.s 8,.s 9,.s 10],[.a 3,.o (.o (.l)),.o (.o (.i .i64))])],[],[]⟩
def tS_l03Div (x0:SlV) (x1:SlV):T :=
 .br ((↑x1.n:Int) == (1:Int)) (
  .el x1.1 (x1.n) ((0:Int)) fun y1 =>
  .ql19 (y1.add (Int.toNat (0:Int)*(1:Nat))) fun y2 =>
  .qc36 251 [Sc.val .l x0,.int .i64 y2] fun y3 =>
  .qc9 176 [.int .i64 y3.2.1] fun y4 =>
  .ret [Sc.val .l y3.1,Sc.val .l y4]) <|
 .rq ((0:Int)≤(↑x0.n:Int)∧(↑x0.n:Int)≤(↑x0.n:Int)∧(↑(8:Nat):Int)*(↑x0.n:Int)≤(281474976710656:Int)∧(↑x0.n:Int)≤(9223372036854775807:Int)) <|
 .fz ((0:Nat)) [] 3 fun b1 c1 =>
 .lp [.a 3,.o (.o (.l)),.o (.o (.i .i64))] [.a 3 ((↑x0.n:Int).toNat) ((madeCells { toList:=[Value.int IntKind.i64 (0:Int)]:Array Value } ((↑x0.n:Int).toNat*(1:Nat))).toList),.v (.slice (some { block:=b1,off:=(0:Nat):Addr }) ((0:Nat)) (c1)),.v (.int .i64 (IntKind.i64.wrap ((↑x0.n:Int)-(1:Int))))] fun y2 =>
 .br (decide (y2.2.2.1≥(0:Int))) (
  .el x0.1 (x0.n) y2.2.2.1 fun y3 =>
  .ql19 (y3.add (Int.toNat y2.2.2.1*(1:Nat))) fun y4 =>
  .rd ({ a:=y2.2.1.1,n:=y2.2.1.n,c:=y2.2.1.c:SlV }) ((1:Nat)) fun y5 =>
  .rq (one y5=true∧((1:Nat)+y2.2.1.n)*(8:Nat)≤(140737488355328:Nat)∧(1:Nat)+y2.2.1.n≤(9223372036854775807:Nat)) <|
 .fz ((1:Nat)+y2.2.1.n) ([Value.int IntKind.i64 y4]++y5) 3 fun b6 c6 =>
  .qc9 151 [.slice (some { block:=b6,off:=(0:Nat):Addr }) ((1:Nat)+y2.2.1.n) (c6)] fun y7 =>
  .qc20 152 [Sc.val .l y7,Sc.val .l x1] fun y8 =>
  .br (decide (y8<(0:Int))) (
   .nx 0 [.a 3 y2.1.1 y2.1.2,.v (Sc.val .l y7),.v (.int .i64 (IntKind.i64.wrap (y2.2.2.1-(1:Int))))]) <|
 .qc20 252 [Sc.val .l y7,Sc.val .l x1] fun y9 =>
  .rq ((0:Int)≤y2.2.2.1∧y2.2.2.1<(↑y2.1.1:Int)) <|
 .rq (Int.toNat y2.2.2.1*(1:Nat)+[Value.int IntKind.i64 y9].length≤y2.1.2.length) <|
 .qc9 176 [.int .i64 y9] fun y10 =>
  .qc9 219 [Sc.val .l x1,Sc.val .l y10] fun y11 =>
  .qc9 253 [Sc.val .l y7,Sc.val .l y11] fun y12 =>
  .nx 0 [.a 3 y2.1.1 (setl y2.1.2 (Int.toNat y2.2.2.1*(1:Nat)) [Value.int IntKind.i64 y9]),.v (Sc.val .l y12),.v (.int .i64 (IntKind.i64.wrap (y2.2.2.1-(1:Int))))]) <|
 .fz y2.1.1 y2.1.2 3 fun b3 c3 =>
 .qc9 151 [.slice (some { block:=b3,off:=(0:Nat):Addr }) y2.1.1 (c3)] fun y4 =>
 .ret [Sc.val .l y4,Sc.val .l y2.2.1]
theorem fS_l03Div x0 x1:qft aS_l03Div 216 [Sc.val .l x0,Sc.val .l x1] (tS_l03Div x0 x1) :=fitK (by kernel_rfl)
def tS_IntCmp (x0:qy0) (x1:qy0):T :=
 .qc5 156 [qv0 x0] fun y1 =>
 .bn y1 (.ret [.int .i64 0]) <|
 .qc5 156 [qv0 x1] fun y2 =>
 .bn y2 (.ret [.int .i64 0]) <|
 .br x0.1 (
  .br (!x1.1) (
   .rM) <|
 .br (!x0.1) (
   .br x1.1 (
    .ret [.int .i64 1]) <|
 .br x0.1 (
    .qc20 152 [Sc.val .l x1.2.1,Sc.val .l x0.2.1] fun y3 =>
    .ret [.int .i64 y3]) <|
 .qc20 152 [Sc.val .l x0.2.1,Sc.val .l x1.2.1] fun y3 =>
   .ret [.int .i64 y3]) <|
 .br x0.1 (
   .qc20 152 [Sc.val .l x1.2.1,Sc.val .l x0.2.1] fun y3 =>
   .ret [.int .i64 y3]) <|
 .qc20 152 [Sc.val .l x0.2.1,Sc.val .l x1.2.1] fun y3 =>
  .ret [.int .i64 y3]) <|
 .br (!x0.1) (
  .br x1.1 (
   .ret [.int .i64 1]) <|
 .br x0.1 (
   .qc20 152 [Sc.val .l x1.2.1,Sc.val .l x0.2.1] fun y3 =>
   .ret [.int .i64 y3]) <|
 .qc20 152 [Sc.val .l x0.2.1,Sc.val .l x1.2.1] fun y3 =>
  .ret [.int .i64 y3]) <|
 .br x0.1 (
  .qc20 152 [Sc.val .l x1.2.1,Sc.val .l x0.2.1] fun y3 =>
  .ret [.int .i64 y3]) <|
 .qc20 152 [Sc.val .l x0.2.1,Sc.val .l x1.2.1] fun y3 =>
 .ret [.int .i64 y3]
theorem fS_IntCmp x0 x1:qft qa0 217 [qv0 x0,qv0 x1] (tS_IntCmp x0 x1) :=fitK (by kernel_rfl)
def tS_l04Make (x0:Bool) (x1:SlV):T :=
 .qc9 254 [Sc.val .l x1] fun y1 =>
 .br x0 (
  .rd ({ a:=y1.1,n:=y1.n,c:=y1.c:SlV }) ((1:Nat)) fun y2 =>
  .rq (one y2=true∧((0:Nat)+y1.n)*(8:Nat)≤(140737488355328:Nat)∧(0:Nat)+y1.n≤(9223372036854775807:Nat)) <|
 .fz ((0:Nat)+y1.n) ([]++y2) 3 fun b3 c3 =>
  .ret [qv0 ((decide ((↑y1.n:Int) > (0:Int))),(⟨(some { block:=b3,off:=(0:Nat):Addr }),((0:Nat)+y1.n),(c3)⟩:SlV),())]) <|
 .rd ({ a:=y1.1,n:=y1.n,c:=y1.c:SlV }) ((1:Nat)) fun y2 =>
 .rq (one y2=true∧((0:Nat)+y1.n)*(8:Nat)≤(140737488355328:Nat)∧(0:Nat)+y1.n≤(9223372036854775807:Nat)) <|
 .fz ((0:Nat)+y1.n) ([]++y2) 3 fun b3 c3 =>
 .ret [qv0 ((false),(⟨(some { block:=b3,off:=(0:Nat):Addr }),((0:Nat)+y1.n),(c3)⟩:SlV),())]
theorem fS_l04Make x0 x1:qft qa0 218 [.bool x0,Sc.val .l x1] (tS_l04Make x0 x1) :=fitK (by kernel_rfl)
def aS_l02Mul:An:=⟨[(5,[.s 5,.s 28],[.a 3,.o (.o (.i .i64))]),(9,[.s 5,.s 8,.s 35],[.a 3,.o (.o (.i .i64)),.o (.o (.i .i64))])],[],[]⟩
def tS_l02Mul (x0:SlV) (x1:SlV):T :=
 .br ((↑x0.n:Int) == (0:Int)) (
  .ret [.slice none 0 0]) <|
 .br ((↑x1.n:Int) == (0:Int)) (
  .ret [.slice none 0 0]) <|
 .rq ((0:Int)≤IntKind.i64.wrap ((↑x0.n:Int)+(↑x1.n:Int))∧IntKind.i64.wrap ((↑x0.n:Int)+(↑x1.n:Int))≤IntKind.i64.wrap ((↑x0.n:Int)+(↑x1.n:Int))∧(↑(8:Nat):Int)*IntKind.i64.wrap ((↑x0.n:Int)+(↑x1.n:Int))≤(281474976710656:Int)∧IntKind.i64.wrap ((↑x0.n:Int)+(↑x1.n:Int))≤(9223372036854775807:Int)) <|
 .lp [.a 3,.o (.o (.i .i64))] [.a 3 ((IntKind.i64.wrap ((↑x0.n:Int)+(↑x1.n:Int))).toNat) ((madeCells { toList:=[Value.int IntKind.i64 (0:Int)]:Array Value } ((IntKind.i64.wrap ((↑x0.n:Int)+(↑x1.n:Int))).toNat*(1:Nat))).toList),.v (.int .i64 0)] fun y1 =>
 .br (decide (y1.2.1<(↑x0.n:Int))) (
  .el x0.1 (x0.n) y1.2.1 fun y2 =>
  .ql19 (y2.add (Int.toNat y1.2.1*(1:Nat))) fun y3 =>
  .lp [.a 3,.o (.o (.i .i64)),.o (.o (.i .i64))] [.a 3 y1.1.1 y1.1.2,.v (.int .i64 0),.v (.int .i64 0)] fun y4 =>
  .br (decide (y4.2.2.1<(↑x1.n:Int))) (
   .el x1.1 (x1.n) y4.2.2.1 fun y5 =>
   .ql19 (y5.add (Int.toNat y4.2.2.1*(1:Nat))) fun y6 =>
   .rq ((0:Int)≤IntKind.i64.wrap (y1.2.1+y4.2.2.1)∧IntKind.i64.wrap (y1.2.1+y4.2.2.1)<(↑y4.1.1:Int)) <|
 .xs y4.1.2 ((IntKind.i64.wrap (y1.2.1+y4.2.2.1)).toNat*(1:Nat)) (.o (.i .i64)) fun y7 =>
   .rq ((1000000000:Int)≠(0:Int)) <|
 .rq ((0:Int)≤IntKind.i64.wrap (y1.2.1+y4.2.2.1)∧IntKind.i64.wrap (y1.2.1+y4.2.2.1)<(↑y4.1.1:Int)) <|
 .rq ((IntKind.i64.wrap (y1.2.1+y4.2.2.1)).toNat*(1:Nat)+[Value.int IntKind.i64 ((IntKind.i64.wrap (IntKind.i64.wrap (y7+IntKind.i64.wrap (y3*y6))+y4.2.1)).tmod (1000000000:Int))].length≤y4.1.2.length) <|
 .rq ((1000000000:Int)≠(0:Int)) <|
 .nx 1 [.a 3 y4.1.1 (setl y4.1.2 ((IntKind.i64.wrap (y1.2.1+y4.2.2.1)).toNat*(1:Nat)) [Value.int IntKind.i64 ((IntKind.i64.wrap (IntKind.i64.wrap (y7+IntKind.i64.wrap (y3*y6))+y4.2.1)).tmod (1000000000:Int))]),.v (.int .i64 (IntKind.i64.wrap ((IntKind.i64.wrap (IntKind.i64.wrap (y7+IntKind.i64.wrap (y3*y6))+y4.2.1)).tdiv (1000000000:Int)))),.v (.int .i64 (IntKind.i64.wrap (y4.2.2.1+(1:Int))))]) <|
 .rq ((0:Int)≤IntKind.i64.wrap (y1.2.1+(↑x1.n:Int))∧IntKind.i64.wrap (y1.2.1+(↑x1.n:Int))<(↑y4.1.1:Int)) <|
 .rq ((IntKind.i64.wrap (y1.2.1+(↑x1.n:Int))).toNat*(1:Nat)+[(Sh1.o (Sc.i IntKind.i64)).val y4.2.1].length≤y4.1.2.length) <|
 .nx 0 [.a 3 y4.1.1 (setl y4.1.2 ((IntKind.i64.wrap (y1.2.1+(↑x1.n:Int))).toNat*(1:Nat)) [(Sh1.o (Sc.i IntKind.i64)).val y4.2.1]),.v (.int .i64 (IntKind.i64.wrap (y1.2.1+(1:Int))))]) <|
 .fz y1.1.1 y1.1.2 3 fun b2 c2 =>
 .qc9 151 [.slice (some { block:=b2,off:=(0:Nat):Addr }) y1.1.1 (c2)] fun y3 =>
 .ret [Sc.val .l y3]
theorem fS_l02Mul x0 x1:qft aS_l02Mul 219 [Sc.val .l x0,Sc.val .l x1] (tS_l02Mul x0 x1) :=fitK (by kernel_rfl)
def aI_IsDigits:An:=⟨[(2,[.s 3],[.o (.o (.i .i64))])],[],[]⟩
def tI_IsDigits (x0:ByteArray):T :=
 .lp [.o (.o (.i .i64))] [.v (.int .i64 0)] fun y1 =>
 .br (decide (y1.1<(↑x0.size:Int))) (
  .rq ((0:Int)≤y1.1∧y1.1<(↑x0.size:Int)) <|
 .qc5 240 [.int .u8 (at0 x0 (Int.toNat y1.1))] fun y2 =>
  .bF y2 <|
 .nx 0 [.v (.int .i64 (IntKind.i64.wrap (y1.1+(1:Int))))]) <|
 .ret [.bool (!x0.toList == { data:={ toList:=[]:Array UInt8 }:ByteArray }.toList)]
theorem fI_IsDigits x0:qft aI_IsDigits 224 [.string x0] (tI_IsDigits x0) :=fitK (by kernel_rfl)
def tS_l04Add (x0:qy0) (x1:qy0):T :=
 .br (x0.1 == x1.1) (
  .rg <|
 .qc43 259 [Sc.val .l x0.2.1,Sc.val .l x1.2.1] fun y1 =>
  .qc31 218 [.bool x0.1,Sc.val .l y1] fun y2 =>
  .ret [qv0 y2]) <|
 .qc20 152 [Sc.val .l x0.2.1,Sc.val .l x1.2.1] fun y1 =>
 .br (decide (y1≥(0:Int))) (
  .rg <|
 .qc43 253 [Sc.val .l x0.2.1,Sc.val .l x1.2.1] fun y2 =>
  .qc31 218 [.bool x0.1,Sc.val .l y2] fun y3 =>
  .ret [qv0 y3]) <|
 .rg <|
 .qc43 253 [Sc.val .l x1.2.1,Sc.val .l x0.2.1] fun y2 =>
 .qc31 218 [.bool x1.1,Sc.val .l y2] fun y3 =>
 .ret [qv0 y3]
theorem fS_l04Add x0 x1:qft qa0 225 [qv0 x0,qv0 x1] (tS_l04Add x0 x1) :=fitK (by kernel_rfl)
def tS_l05Low (x0:Bool) (x1:SlV) (x2:SlV):T :=
 .qc9 151 [Sc.val .l x1] fun y1 =>
 .qc9 151 [Sc.val .l x2] fun y2 =>
 .br ((↑y2.n:Int) == (0:Int)) (
  .ret [qv1 ((false),nilS,nilS,()),.bool (false)]) <|
 .qc9 260 [Sc.val .l y1,Sc.val .l y2] fun y3 =>
 .qc35 216 [Sc.val .l y1,Sc.val .l y3] fun y4 =>
 .qc35 216 [Sc.val .l y2,Sc.val .l y3] fun y5 =>
 .br (decide ((↑y4.1.n:Int) > (18:Int))) (
  .ret [qv1 ((false),nilS,nilS,()),.bool (false)]) <|
 .br (decide ((↑y5.1.n:Int) > (18:Int))) (
  .ret [qv1 ((false),nilS,nilS,()),.bool (false)]) <|
 .qc31 218 [.bool x0,Sc.val .l y4.1] fun y6 =>
 .rd ({ a:=y5.1.1,n:=y5.1.n,c:=y5.1.c:SlV }) ((1:Nat)) fun y7 =>
 .rq (one y7=true∧((0:Nat)+y5.1.n)*(8:Nat)≤(140737488355328:Nat)∧(0:Nat)+y5.1.n≤(9223372036854775807:Nat)) <|
 .fz ((0:Nat)+y5.1.n) ([]++y7) 3 fun b8 c8 =>
 .ret [qv1 (y6.1,y6.2.1,(⟨(some { block:=b8,off:=(0:Nat):Addr }),((0:Nat)+y5.1.n),(c8)⟩:SlV),()),.bool (true)]
theorem fS_l05Low x0 x1 x2:qft qa0 226 [.bool x0,Sc.val .l x1,Sc.val .l x2] (tS_l05Low x0 x1 x2) :=fitK (by kernel_rfl)
def tS_l19Rat (x0:qy1):T :=
 .rg <|
 .es [] 3 fun b1 =>
 .ra ({ a:=x0.2.1.1,n:=x0.2.1.n,c:=x0.2.1.c:SlV }) ((1:Nat)) fun y2 =>
 .rq (one y2=true∧x0.2.1.n*(8:Nat)≤(140737488355328:Nat)∧x0.2.1.n≤(9223372036854775807:Nat)) <|
 .br (decide (x0.2.1.n=(0:Nat))) (
  .es [] 3 fun b3 =>
  .ra ({ a:=x0.2.2.1.1,n:=x0.2.2.1.n,c:=x0.2.2.1.c:SlV }) ((1:Nat)) fun y4 =>
  .rq (one y4=true∧x0.2.2.1.n*(8:Nat)≤(140737488355328:Nat)∧x0.2.2.1.n≤(9223372036854775807:Nat)) <|
 .br (decide (x0.2.2.1.n=(0:Nat))) (
   .ret [qv1 (x0.1,(⟨(some { block:=b1,off:=(0:Nat):Addr }),((0:Nat)),((0:Nat))⟩:SlV),(⟨(some { block:=b3,off:=(0:Nat):Addr }),((0:Nat)),((0:Nat))⟩:SlV),())]) <|
 .fz (x0.2.2.1.n) y4 3 fun b5 c5 =>
  .ret [qv1 (x0.1,(⟨(some { block:=b1,off:=(0:Nat):Addr }),((0:Nat)),((0:Nat))⟩:SlV),(⟨(some { block:=b5,off:=(0:Nat):Addr }),(x0.2.2.1.n),(c5)⟩:SlV),())]) <|
 .fz (x0.2.1.n) y2 3 fun b3 c3 =>
 .es [] 3 fun b4 =>
 .ra ({ a:=x0.2.2.1.1,n:=x0.2.2.1.n,c:=x0.2.2.1.c:SlV }) ((1:Nat)) fun y5 =>
 .rq (one y5=true∧x0.2.2.1.n*(8:Nat)≤(140737488355328:Nat)∧x0.2.2.1.n≤(9223372036854775807:Nat)) <|
 .br (decide (x0.2.2.1.n=(0:Nat))) (
  .ret [qv1 (x0.1,(⟨(some { block:=b3,off:=(0:Nat):Addr }),(x0.2.1.n),(c3)⟩:SlV),(⟨(some { block:=b4,off:=(0:Nat):Addr }),((0:Nat)),((0:Nat))⟩:SlV),())]) <|
 .fz (x0.2.2.1.n) y5 3 fun b6 c6 =>
 .ret [qv1 (x0.1,(⟨(some { block:=b3,off:=(0:Nat):Addr }),(x0.2.1.n),(c3)⟩:SlV),(⟨(some { block:=b6,off:=(0:Nat):Addr }),(x0.2.2.1.n),(c6)⟩:SlV),())]
theorem fS_l19Rat x0:qft qa0 227 [qv1 x0] (tS_l19Rat x0) :=fitK (by kernel_rfl)
def tS_l01Pick (x0:Addr) (x1:SlV):T :=
 .qc20 97 [.pointer (some x0),.int .i64 ((↑x1.n:Int))] fun y1 =>
 .el x1.1 (x1.n) y1 fun y2 =>
 .ql19 (y2.add (y1.toNat*(1:Nat))) fun y3 =>
 .ret [.int .i64 y3]
theorem fS_l01Pick x0 x1:qft qa0 228 [.pointer (some x0),Sc.val .l x1] (tS_l01Pick x0 x1) :=fitK (by kernel_rfl)
def aI_subTimes:An:=⟨[(3,[.s 0,.s 7,.s 13],[.o (.o (.l)),.o (.o (.i .i64)),.o (.o (.i .i64))])],[],[]⟩
def tI_subTimes (x0:SlV) (x1:SlV) (x2:Int):T :=
 .lp [.o (.o (.l)),.o (.o (.i .i64)),.o (.o (.i .i64))] [.v (Sc.val .l x0),.v (.int .i64 0),.v (.int .i64 0)] fun y1 =>
 .br (decide (y1.2.2.1<(↑x1.n:Int))) (
  .el x1.1 (x1.n) y1.2.2.1 fun y2 =>
  .ql19 (y2.add (Int.toNat y1.2.2.1*(1:Nat))) fun y3 =>
  .el y1.1.1 (y1.1.n) y1.2.2.1 fun y4 =>
  .ql19 (y4.add (Int.toNat y1.2.2.1*(1:Nat))) fun y5 =>
  .br (decide (IntKind.i64.wrap (IntKind.i64.wrap (y5-IntKind.i64.wrap (y3*x2))-y1.2.1)<(0:Int))) (
   .rq ((1000000000:Int)≠(0:Int)) <|
 .el y1.1.1 (y1.1.n) y1.2.2.1 fun y6 =>
   .st (y6.add (Int.toNat y1.2.2.1*(1:Nat))) [.int .i64 (IntKind.i64.wrap (IntKind.i64.wrap (IntKind.i64.wrap (y5-IntKind.i64.wrap (y3*x2))-y1.2.1)+IntKind.i64.wrap (IntKind.i64.wrap ((IntKind.i64.wrap (IntKind.i64.wrap (IntKind.i64.wrap ((0:Int)-IntKind.i64.wrap (IntKind.i64.wrap (y5-IntKind.i64.wrap (y3*x2))-y1.2.1))+(1000000000:Int))-(1:Int))).tdiv (1000000000:Int))*(1000000000:Int))))] <|
 .nx 0 [.v (Sc.val .l y1.1),.v (.int .i64 (IntKind.i64.wrap ((IntKind.i64.wrap (IntKind.i64.wrap (IntKind.i64.wrap ((0:Int)-IntKind.i64.wrap (IntKind.i64.wrap (y5-IntKind.i64.wrap (y3*x2))-y1.2.1))+(1000000000:Int))-(1:Int))).tdiv (1000000000:Int)))),.v (.int .i64 (IntKind.i64.wrap (y1.2.2.1+(1:Int))))]) <|
 .el y1.1.1 (y1.1.n) y1.2.2.1 fun y6 =>
  .st (y6.add (Int.toNat y1.2.2.1*(1:Nat))) [.int .i64 (IntKind.i64.wrap (IntKind.i64.wrap (y5-IntKind.i64.wrap (y3*x2))-y1.2.1))] <|
 .nx 0 [.v (Sc.val .l y1.1),.v (.int .i64 0),.v (.int .i64 (IntKind.i64.wrap (y1.2.2.1+(1:Int))))]) <|
 .el y1.1.1 (y1.1.n) ((↑x1.n:Int)) fun y2 =>
 .ql19 (y2.add ((↑x1.n:Int).toNat*(1:Nat))) fun y3 =>
 .el y1.1.1 (y1.1.n) ((↑x1.n:Int)) fun y4 =>
 .st (y4.add ((↑x1.n:Int).toNat*(1:Nat))) [.int .i64 (IntKind.i64.wrap (y3-y1.2.1))] <|
 .el y1.1.1 (y1.1.n) ((↑x1.n:Int)) fun y5 =>
 .ql19 (y5.add ((↑x1.n:Int).toNat*(1:Nat))) fun y6 =>
 .ret [.bool (decide (y6<(0:Int)))]
theorem fI_subTimes x0 x1 x2:qft aI_subTimes 233 [Sc.val .l x0,Sc.val .l x1,.int .i64 x2] (tI_subTimes x0 x1 x2) :=fitK (by kernel_rfl)
def aI_addBack:An:=⟨[(2,[.s 0,.s 4,.s 9],[.o (.o (.l)),.o (.o (.i .i64)),.o (.o (.i .i64))])],[],[]⟩
def tI_addBack (x0:SlV) (x1:SlV):T :=
 .lp [.o (.o (.l)),.o (.o (.i .i64)),.o (.o (.i .i64))] [.v (Sc.val .l x0),.v (.int .i64 0),.v (.int .i64 0)] fun y1 =>
 .br (decide (y1.2.2.1<(↑x1.n:Int))) (
  .el x1.1 (x1.n) y1.2.2.1 fun y2 =>
  .ql19 (y2.add (Int.toNat y1.2.2.1*(1:Nat))) fun y3 =>
  .el y1.1.1 (y1.1.n) y1.2.2.1 fun y4 =>
  .ql19 (y4.add (Int.toNat y1.2.2.1*(1:Nat))) fun y5 =>
  .rq ((1000000000:Int)≠(0:Int)) <|
 .el y1.1.1 (y1.1.n) y1.2.2.1 fun y6 =>
  .st (y6.add (Int.toNat y1.2.2.1*(1:Nat))) [.int .i64 ((IntKind.i64.wrap (y1.2.1+IntKind.i64.wrap (y5+y3))).tmod (1000000000:Int))] <|
 .rq ((1000000000:Int)≠(0:Int)) <|
 .nx 0 [.v (Sc.val .l y1.1),.v (.int .i64 (IntKind.i64.wrap ((IntKind.i64.wrap (y1.2.1+IntKind.i64.wrap (y5+y3))).tdiv (1000000000:Int)))),.v (.int .i64 (IntKind.i64.wrap (y1.2.2.1+(1:Int))))]) <|
 .el y1.1.1 (y1.1.n) ((↑x1.n:Int)) fun y2 =>
 .ql19 (y2.add ((↑x1.n:Int).toNat*(1:Nat))) fun y3 =>
 .el y1.1.1 (y1.1.n) ((↑x1.n:Int)) fun y4 =>
 .st (y4.add ((↑x1.n:Int).toNat*(1:Nat))) [.int .i64 (IntKind.i64.wrap (y3+y1.2.1))] <|
 .ret []
theorem fI_addBack x0 x1:qft aI_addBack 234 [Sc.val .l x0,Sc.val .l x1] (tI_addBack x0 x1) :=fitK (by kernel_rfl)
def tS_DecOk (x0:qy5):T :=
 .qc5 156 [qv0 (x0.1,x0.2.1,())] fun y1 =>
 .br y1 (
  .br (decide ((↑x0.2.1.n:Int)≤(6:Int))) (
   .qc5 215 [.int .i64 x0.2.2.1,.int .i64 0,.int .i64 30] fun y2 =>
   .ret [.bool y2]) <|
 .rF) <|
 .rF
theorem fS_DecOk x0:qft qa0 236 [qv2 x0] (tS_DecOk x0) :=fitK (by kernel_rfl)
def tS_IntSign (x0:qy0):T :=
 .qc20 217 [qv0 x0,qv0 ((false),nilS,())] fun y1 =>
 .ret [.int .i64 y1]
theorem fS_IntSign x0:qft qa0 237 [qv0 x0] (tS_IntSign x0) :=fitK (by kernel_rfl)
def tI_isLower (x0:Int):T :=
 .br (decide (x0≥(97:Int))) (
  .ret [.bool (decide (x0≤(122:Int)))]) <|
 .rF
theorem fI_isLower x0:qft qa0 239 [.int .u8 x0] (tI_isLower x0) :=fitK (by kernel_rfl)
def tI_isDigit (x0:Int):T :=
 .br (decide (x0≥(48:Int))) (
  .ret [.bool (decide (x0≤(57:Int)))]) <|
 .rF
theorem fI_isDigit x0:qft qa0 240 [.int .u8 x0] (tI_isDigit x0) :=fitK (by kernel_rfl)
def aS_AcctAt:An:=⟨[(2,[.s 10],[.o (.o (.i .i64))])],[],[]⟩
def tS_AcctAt (x0:qy3) (x1:ByteArray):T :=
 .lp [.o (.o (.i .i64))] [.v (.int .i64 0)] fun y1 =>
 .br (decide (y1.1<(↑x0.1.n:Int))) (
  .el x0.1.1 (x0.1.n) y1.1 fun y2 =>
  .ql14 (y2.add (Int.toNat y1.1*(4:Nat))) fun y3 =>
  .br (ByteArray.toList y3.1 == x1.toList) (
   .ret [.int .i64 y1.1]) <|
 .nx 0 [.v (.int .i64 (IntKind.i64.wrap (y1.1+(1:Int))))]) <|
 .rM
theorem fS_AcctAt x0 x1:qft aS_AcctAt 243 [qv4 x0,.string x1] (tS_AcctAt x0 x1) :=fitK (by kernel_rfl)
def aS_l17Copy:An:=⟨[(3,[.s 10,.c 3 0],[.o (.o (.i .i64)),.o (.o (.l))])],[],[]⟩
def tS_l17Copy (x0:qy3):T :=
 .lp [.o (.o (.i .i64)),.o (.o (.l))] [.v (.int .i64 0),.v (.slice none 0 0)] fun y1 =>
 .br (decide (y1.1<(↑x0.1.n:Int))) (
  .el x0.1.1 (x0.1.n) y1.1 fun y2 =>
  .ql14 (y2.add (Int.toNat y1.1*(4:Nat))) fun y3 =>
  .rg <|
 .qc48 275 [qv3 y3.2] fun y4 =>
  .rq ([Value.string y3.1,Value.string y4.1,Value.bool y4.2.1,Value.slice y4.2.2.1.1 y4.2.2.1.n y4.2.2.1.c].length=(1:Nat)*(4:Nat)) <|
 .rq (one [Value.string y3.1,Value.string y4.1,Value.bool y4.2.1,Value.slice y4.2.2.1.1 y4.2.2.1.n y4.2.2.1.c]=true) <|
 .ap ({ a:=y1.2.1.1,n:=y1.2.1.n,c:=y1.2.1.c:SlV }) 4 64 [.string y3.1,.string y4.1,.bool y4.2.1,Sc.val .l y4.2.2.1] ((1:Nat)) 109 fun y5 =>
  .nx 0 [.v (.int .i64 (IntKind.i64.wrap (y1.1+(1:Int)))),.v (Sc.val .l y5)]) <|
 .ret [qv4 y1.2]
theorem fS_l17Copy x0:qft aS_l17Copy 244 [qv4 x0] (tS_l17Copy x0) :=fitK (by kernel_rfl)
def tS_MoneyAdd (x0:qy2) (x1:qy2):T :=
 .qc5 276 [qv3 x0,qv3 x1] fun y1 =>
 .bn y1 (.ret [qv3 (({ data:={ toList:=[]:Array UInt8 }:ByteArray }),(false),nilS,()),.bool (false)]) <|
 .rg <|
 .qc39 277 [qv0 x0.2,qv0 x1.2] fun y2 =>
 .qc23 191 [.string x0.1,qv0 y2] fun y3 =>
 .ret [qv3 y3.1,.bool y3.2.1]
theorem fS_MoneyAdd x0 x1:qft qa0 245 [qv3 x0,qv3 x1] (tS_MoneyAdd x0 x1) :=fitK (by kernel_rfl)
def aS_l10Copy:An:=⟨[(3,[.s 12,.c 3 0,.c 3 1],[.o (.o (.i .i64)),.o (.o (.s)),.o (.o (.l))])],[],[]⟩
def tS_l10Copy (x0:qy7):T :=
 .lp [.o (.o (.i .i64)),.o (.o (.s)),.o (.o (.l))] [.v (.int .i64 0),.v (.string x0.1),.v (.slice none 0 0)] fun y1 =>
 .br (decide (y1.1<(↑x0.2.1.n:Int))) (
  .el x0.2.1.1 (x0.2.1.n) y1.1 fun y2 =>
  .ql13 (y2.add (Int.toNat y1.1*(5:Nat))) fun y3 =>
  .rg <|
 .qc47 247 [qv5 y3] fun y4 =>
  .rq ([Value.string y4.1,Value.string y4.2.1,Value.bool y4.2.2.1,Value.slice y4.2.2.2.1.1 y4.2.2.2.1.n y4.2.2.2.1.c,Value.int IntKind.i64 y4.2.2.2.2.1].length=(1:Nat)*(5:Nat)) <|
 .rq (one [Value.string y4.1,Value.string y4.2.1,Value.bool y4.2.2.1,Value.slice y4.2.2.2.1.1 y4.2.2.2.1.n y4.2.2.2.1.c,Value.int IntKind.i64 y4.2.2.2.2.1]=true) <|
 .ap ({ a:=y1.2.2.1.1,n:=y1.2.2.1.n,c:=y1.2.2.1.c:SlV }) 5 72 [.string y4.1,.string y4.2.1,.bool y4.2.2.1,Sc.val .l y4.2.2.2.1,.int .i64 y4.2.2.2.2.1] ((1:Nat)) 104 fun y5 =>
  .nx 0 [.v (.int .i64 (IntKind.i64.wrap (y1.1+(1:Int)))),.v (.string y1.2.1),.v (Sc.val .l y5)]) <|
 .ret [qv6 y1.2]
theorem fS_l10Copy x0:qft aS_l10Copy 246 [qv6 x0] (tS_l10Copy x0) :=fitK (by kernel_rfl)
def tS_l10Rate (x0:qy4):T :=
 .rg <|
 .qc39 218 [.bool x0.2.2.1,Sc.val .l x0.2.2.2.1] fun y1 =>
 .ret [qv5 (x0.1,x0.2.1,y1.1,y1.2.1,((x0.2.2.2.2.1):Int),())]
theorem fS_l10Rate x0:qft qa0 247 [qv5 x0] (tS_l10Rate x0) :=fitK (by kernel_rfl)
def tI_isScale (x0:Int):T :=
 .br (decide (x0≥(0:Int))) (
  .ret [.bool (decide (x0≤(30:Int)))]) <|
 .rF
theorem fI_isScale x0:qft qa0 248 [.int .i64 x0] (tI_isScale x0) :=fitK (by kernel_rfl)
def tI_IntText (x0:Int):T :=
 .qc1 281 [.int .i64 x0] fun y1 =>
 .ret [.string y1]
theorem fI_IntText x0:qft qa0 250 [.int .i64 x0] (tI_IntText x0) :=fitK (by kernel_rfl)
def aS_l03Small:An:=⟨[(4,[.s 6,.s 7,.s 8],[.a 3,.o (.o (.i .i64)),.o (.o (.i .i64))])],[],[]⟩
def tS_l03Small (x0:SlV) (x1:Int):T :=
 .rq ((0:Int)≤(↑x0.n:Int)∧(↑x0.n:Int)≤(↑x0.n:Int)∧(↑(8:Nat):Int)*(↑x0.n:Int)≤(281474976710656:Int)∧(↑x0.n:Int)≤(9223372036854775807:Int)) <|
 .lp [.a 3,.o (.o (.i .i64)),.o (.o (.i .i64))] [.a 3 ((↑x0.n:Int).toNat) ((madeCells { toList:=[Value.int IntKind.i64 (0:Int)]:Array Value } ((↑x0.n:Int).toNat*(1:Nat))).toList),.v (.int .i64 0),.v (.int .i64 (IntKind.i64.wrap ((↑x0.n:Int)-(1:Int))))] fun y1 =>
 .br (decide (y1.2.2.1≥(0:Int))) (
  .el x0.1 (x0.n) y1.2.2.1 fun y2 =>
  .ql19 (y2.add (Int.toNat y1.2.2.1*(1:Nat))) fun y3 =>
  .rq (x1≠(0:Int)) <|
 .rq ((0:Int)≤y1.2.2.1∧y1.2.2.1<(↑y1.1.1:Int)) <|
 .rq (Int.toNat y1.2.2.1*(1:Nat)+[Value.int IntKind.i64 (IntKind.i64.wrap ((IntKind.i64.wrap (IntKind.i64.wrap (y1.2.1*(1000000000:Int))+y3)).tdiv x1))].length≤y1.1.2.length) <|
 .rq (x1≠(0:Int)) <|
 .nx 0 [.a 3 y1.1.1 (setl y1.1.2 (Int.toNat y1.2.2.1*(1:Nat)) [Value.int IntKind.i64 (IntKind.i64.wrap ((IntKind.i64.wrap (IntKind.i64.wrap (y1.2.1*(1000000000:Int))+y3)).tdiv x1))]),.v (.int .i64 ((IntKind.i64.wrap (IntKind.i64.wrap (y1.2.1*(1000000000:Int))+y3)).tmod x1)),.v (.int .i64 (IntKind.i64.wrap (y1.2.2.1-(1:Int))))]) <|
 .fz y1.1.1 y1.1.2 3 fun b2 c2 =>
 .qc9 151 [.slice (some { block:=b2,off:=(0:Nat):Addr }) y1.1.1 (c2)] fun y3 =>
 .ret [Sc.val .l y3,.int .i64 y1.2.1]
theorem fS_l03Small x0 x1:qft aS_l03Small 251 [Sc.val .l x0,.int .i64 x1] (tS_l03Small x0 x1) :=fitK (by kernel_rfl)
def aS_l03Digit:An:=⟨[(3,[.s 5,.s 6],[.o (.o (.i .i64)),.o (.o (.i .i64))])],[],[]⟩
def tS_l03Digit (x0:SlV) (x1:SlV):T :=
 .lp [.o (.o (.i .i64)),.o (.o (.i .i64))] [.v (.int .i64 0),.v (.int .i64 999999999)] fun y1 =>
 .br (decide (y1.1<y1.2.1)) (
  .rq ((2:Int)≠(0:Int)) <|
 .qc9 176 [.int .i64 (IntKind.i64.wrap ((IntKind.i64.wrap (IntKind.i64.wrap (y1.1+y1.2.1)+(1:Int))).tdiv (2:Int)))] fun y2 =>
  .qc9 219 [Sc.val .l x1,Sc.val .l y2] fun y3 =>
  .qc20 152 [Sc.val .l y3,Sc.val .l x0] fun y4 =>
  .br (decide (y4≤(0:Int))) (
   .nx 0 [.v (.int .i64 (IntKind.i64.wrap ((IntKind.i64.wrap (IntKind.i64.wrap (y1.1+y1.2.1)+(1:Int))).tdiv (2:Int)))),.v (.int .i64 y1.2.1)]) <|
 .nx 0 [.v (.int .i64 y1.1),.v (.int .i64 (IntKind.i64.wrap (IntKind.i64.wrap ((IntKind.i64.wrap (IntKind.i64.wrap (y1.1+y1.2.1)+(1:Int))).tdiv (2:Int))-(1:Int))))]) <|
 .ret [.int .i64 y1.1]
theorem fS_l03Digit x0 x1:qft aS_l03Digit 252 [Sc.val .l x0,Sc.val .l x1] (tS_l03Digit x0 x1) :=fitK (by kernel_rfl)
end
end Go.Proofs.YtagkjnpggkmehaaGreatDoor
