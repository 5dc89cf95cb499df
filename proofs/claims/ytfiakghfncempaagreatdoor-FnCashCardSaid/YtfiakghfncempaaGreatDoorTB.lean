/-
  What each function of the seat comes to, as a tree; each tree is checked against the code.
-/
import Derived.Test.YtfiakghfncempaaGreatDoorTA
namespace Go.Proofs.YtfiakghfncempaaGreatDoor
open Sx
set_option maxRecDepth 100000
noncomputable section
def aS_BookOpen:An:=⟨[(5,[.s 9],[.o (.o (.i .i64))])],[],[]⟩
def tS_BookOpen (x0:qy3) (x1:ByteArray) (x2:ByteArray):T :=
 .qc18 124 [qv3 x0] fun y1 =>
 .bn y1 (.ret [qv3 (nilS,()),.bool (false)]) <|
 .qc5 133 [qv3 x0,.string x1] fun y2 =>
 .br (decide (y2≥(0:Int))) (
  .ret [qv3 (nilS,()),.bool (false)]) <|
 .qc23 188 [qv3 x0] fun y3 =>
 .lp [.o (.o (.i .i64))] [.v (.int .i64 0)] fun y4 =>
 .br (decide (y4.1<(↑y3.1.n:Int))) (
  .el y3.1.1 (y3.1.n) y4.1 fun y5 =>
  .ql42 ((y5.add (Int.toNat y4.1*(4:Nat))).add (0:Nat)) fun y6 =>
  .br (Op.bytesLess y6.toList x1.toList) (
   .nx 0 [.v (.int .i64 (IntKind.i64.wrap (y4.1+(1:Int))))]) <|
 .rq ((0:Int)≤(0:Int)∧(0:Int)≤y4.1∧y4.1≤(↑y3.1.c:Int)∧(↑y3.1.c:Int)≤(↑y3.1.c:Int)) <|
 .rd ({ a:=if (↑y3.1.c:Int).toNat=Int.toNat (0:Int) then y3.1.1 else Option.map (fun x=>x.add (Int.toNat (0:Int)*Go.Proofs.Tryz.prog.types[(100:Nat)].size)) y3.1.1,n:=Int.toNat y4.1-Int.toNat (0:Int),c:=(↑y3.1.c:Int).toNat-Int.toNat (0:Int):SlV }) ((4:Nat)) fun y7 =>
  .rq (one y7=true∧((0:Nat)+(Int.toNat y4.1-Int.toNat (0:Int)))*(64:Nat)≤(140737488355328:Nat)∧(0:Nat)+(Int.toNat y4.1-Int.toNat (0:Int))≤(9223372036854775807:Nat)) <|
 .rq ([Value.string x1,Value.string x2,Value.bool false,Value.slice none (0:Nat) (0:Nat)].length=(1:Nat)*(4:Nat)) <|
 .rq (one [Value.string x1,Value.string x2,Value.bool false,Value.slice none (0:Nat) (0:Nat)]=true∧((0:Nat)+(Int.toNat y4.1-Int.toNat (0:Int))+(1:Nat))*(64:Nat)≤(140737488355328:Nat)∧(0:Nat)+(Int.toNat y4.1-Int.toNat (0:Int))+(1:Nat)≤(9223372036854775807:Nat)) <|
 .rq ((0:Int)≤y4.1∧y4.1≤(↑y3.1.n:Int)∧(↑y3.1.n:Int)≤(↑y3.1.c:Int)∧(↑y3.1.c:Int)≤(↑y3.1.c:Int)) <|
 .rd ({ a:=if (↑y3.1.c:Int).toNat=Int.toNat y4.1 then y3.1.1 else Option.map (fun x=>x.add (Int.toNat y4.1*Go.Proofs.Tryz.prog.types[(100:Nat)].size)) y3.1.1,n:=(↑y3.1.n:Int).toNat-Int.toNat y4.1,c:=(↑y3.1.c:Int).toNat-Int.toNat y4.1:SlV }) ((4:Nat)) fun y8 =>
  .rq (one y8=true∧((0:Nat)+(Int.toNat y4.1-Int.toNat (0:Int))+(1:Nat)+((↑y3.1.n:Int).toNat-Int.toNat y4.1))*(64:Nat)≤(140737488355328:Nat)∧(0:Nat)+(Int.toNat y4.1-Int.toNat (0:Int))+(1:Nat)+((↑y3.1.n:Int).toNat-Int.toNat y4.1)≤(9223372036854775807:Nat)) <|
 .fz ((0:Nat)+(Int.toNat y4.1-Int.toNat (0:Int))+(1:Nat)+((↑y3.1.n:Int).toNat-Int.toNat y4.1)) ([]++y7++[Value.string x1,Value.string x2,Value.bool false,Value.slice none (0:Nat) (0:Nat)]++y8) 100 fun b9 c9 =>
  .qc18 124 [qv3 ((⟨(some { block:=b9,off:=(0:Nat):Addr }),((0:Nat)+(Int.toNat y4.1-Int.toNat (0:Int))+(1:Nat)+((↑y3.1.n:Int).toNat-Int.toNat y4.1)),(c9)⟩:SlV),())] fun y10 =>
  .bn y10 (.ret [qv3 (nilS,()),.bool (false)]) <|
 .ret [qv3 ((⟨(some { block:=b9,off:=(0:Nat):Addr }),((0:Nat)+(Int.toNat y4.1-Int.toNat (0:Int))+(1:Nat)+((↑y3.1.n:Int).toNat-Int.toNat y4.1)),(c9)⟩:SlV),()),.bool (true)]) <|
 .rq ((0:Int)≤(0:Int)∧(0:Int)≤y4.1∧y4.1≤(↑y3.1.c:Int)∧(↑y3.1.c:Int)≤(↑y3.1.c:Int)) <|
 .rd ({ a:=if (↑y3.1.c:Int).toNat=Int.toNat (0:Int) then y3.1.1 else Option.map (fun x=>x.add (Int.toNat (0:Int)*Go.Proofs.Tryz.prog.types[(100:Nat)].size)) y3.1.1,n:=Int.toNat y4.1-Int.toNat (0:Int),c:=(↑y3.1.c:Int).toNat-Int.toNat (0:Int):SlV }) ((4:Nat)) fun y5 =>
 .rq (one y5=true∧((0:Nat)+(Int.toNat y4.1-Int.toNat (0:Int)))*(64:Nat)≤(140737488355328:Nat)∧(0:Nat)+(Int.toNat y4.1-Int.toNat (0:Int))≤(9223372036854775807:Nat)) <|
 .rq ([Value.string x1,Value.string x2,Value.bool false,Value.slice none (0:Nat) (0:Nat)].length=(1:Nat)*(4:Nat)) <|
 .rq (one [Value.string x1,Value.string x2,Value.bool false,Value.slice none (0:Nat) (0:Nat)]=true∧((0:Nat)+(Int.toNat y4.1-Int.toNat (0:Int))+(1:Nat))*(64:Nat)≤(140737488355328:Nat)∧(0:Nat)+(Int.toNat y4.1-Int.toNat (0:Int))+(1:Nat)≤(9223372036854775807:Nat)) <|
 .rq ((0:Int)≤y4.1∧y4.1≤(↑y3.1.n:Int)∧(↑y3.1.n:Int)≤(↑y3.1.c:Int)∧(↑y3.1.c:Int)≤(↑y3.1.c:Int)) <|
 .rd ({ a:=if (↑y3.1.c:Int).toNat=Int.toNat y4.1 then y3.1.1 else Option.map (fun x=>x.add (Int.toNat y4.1*Go.Proofs.Tryz.prog.types[(100:Nat)].size)) y3.1.1,n:=(↑y3.1.n:Int).toNat-Int.toNat y4.1,c:=(↑y3.1.c:Int).toNat-Int.toNat y4.1:SlV }) ((4:Nat)) fun y6 =>
 .rq (one y6=true∧((0:Nat)+(Int.toNat y4.1-Int.toNat (0:Int))+(1:Nat)+((↑y3.1.n:Int).toNat-Int.toNat y4.1))*(64:Nat)≤(140737488355328:Nat)∧(0:Nat)+(Int.toNat y4.1-Int.toNat (0:Int))+(1:Nat)+((↑y3.1.n:Int).toNat-Int.toNat y4.1)≤(9223372036854775807:Nat)) <|
 .fz ((0:Nat)+(Int.toNat y4.1-Int.toNat (0:Int))+(1:Nat)+((↑y3.1.n:Int).toNat-Int.toNat y4.1)) ([]++y5++[Value.string x1,Value.string x2,Value.bool false,Value.slice none (0:Nat) (0:Nat)]++y6) 100 fun b7 c7 =>
 .qc18 124 [qv3 ((⟨(some { block:=b7,off:=(0:Nat):Addr }),((0:Nat)+(Int.toNat y4.1-Int.toNat (0:Int))+(1:Nat)+((↑y3.1.n:Int).toNat-Int.toNat y4.1)),(c7)⟩:SlV),())] fun y8 =>
 .bn y8 (.ret [qv3 (nilS,()),.bool (false)]) <|
 .ret [qv3 ((⟨(some { block:=b7,off:=(0:Nat):Addr }),((0:Nat)+(Int.toNat y4.1-Int.toNat (0:Int))+(1:Nat)+((↑y3.1.n:Int).toNat-Int.toNat y4.1)),(c7)⟩:SlV),()),.bool (true)]
theorem fS_BookOpen x0 x1 x2:qft aS_BookOpen 148 [qv3 x0,.string x1,.string x2] (tS_BookOpen x0 x1 x2) :=fitK (by kernel_rfl)
def tS_IntOf (x0:Int):T :=
 .br (x0 == (-9223372036854775808:Int)) (
  .fz ((3:Nat)) [.int .i64 854775808,.int .i64 223372036,.int .i64 9] 3 fun b1 c1 =>
  .qc21 187 [.bool (true),.slice (some { block:=b1,off:=(0:Nat):Addr }) ((3:Nat)) (c1)] fun y2 =>
  .ret [qv0 y2]) <|
 .br (decide (x0<(0:Int))) (
  .qc19 158 [.int .i64 (IntKind.i64.wrap ((0:Int)-x0))] fun y1 =>
  .qc21 187 [.bool (true),Sc.val .l y1] fun y2 =>
  .ret [qv0 y2]) <|
 .qc19 158 [.int .i64 x0] fun y1 =>
 .qc21 187 [.bool (false),Sc.val .l y1] fun y2 =>
 .ret [qv0 y2]
theorem fS_IntOf x0:qft qa0 149 [.int .i64 x0] (tS_IntOf x0) :=fitK (by kernel_rfl)
def aS_l10Draw:An:=⟨[(3,[.s 3,.s 4],[.o (.o (.s)),.o (.o (.s))])],[],[]⟩
def tS_l10Draw (x0:Addr):T :=
 .qc1 98 [.pointer (some x0)] fun y1 =>
 .qc1 98 [.pointer (some x0)] fun y2 =>
 .lp [.o (.o (.s)),.o (.o (.s))] [.v (.string y1),.v (.string y2)] fun y3 =>
 .br (ByteArray.toList y3.1 == ByteArray.toList y3.2.1) (
  .fz ((2:Nat)) [.string ({ data:={ toList:=[(67:UInt8),(72:UInt8),(70:UInt8)]:Array UInt8 }:ByteArray }),.string ({ data:={ toList:=[(69:UInt8),(85:UInt8),(82:UInt8)]:Array UInt8 }:ByteArray })] 9 fun b4 c4 =>
  .qc1 147 [.pointer (some x0),.slice (some { block:=b4,off:=(0:Nat):Addr }) ((2:Nat)) (c4)] fun y5 =>
  .nx 0 [.v (.string y5),.v (.string ({ data:={ toList:=[(85:UInt8),(83:UInt8),(68:UInt8)]:Array UInt8 }:ByteArray }))]) <|
 .qc5 46 [.pointer (some x0),.int .i64 3000] fun y4 =>
 .qc21 149 [.int .i64 (IntKind.i64.wrap ((1:Int)+y4))] fun y5 =>
 .rf <|
 .es [.int .i64 0,.int .i64 1,.int .i64 2,.int .i64 3,.int .i64 4] 3 fun b6 =>
 .cf 197 [.pointer (some x0),.slice (some { block:=b6,off:=(0:Nat):Addr }) ((5:Nat)) ((5:Nat))] (.v (.o (.i .i64))) fun y7 =>
 .ret [qv6 (y3.1,y3.2.1,y5.1,y5.2.1,((y7):Int),())]
theorem fS_l10Draw x0:qft aS_l10Draw 150 [.pointer (some x0)] (tS_l10Draw x0) :=fitK (by kernel_rfl)
def tS_RatePut (x0:qy5) (x1:qy6):T :=
 .qc18 126 [qv5 x0] fun y1 =>
 .bn y1 (.ret [qv5 (({ data:={ toList:=[]:Array UInt8 }:ByteArray }),nilS,()),.bool (false)]) <|
 .qc18 175 [qv6 x1] fun y2 =>
 .bn y2 (.ret [qv5 (({ data:={ toList:=[]:Array UInt8 }:ByteArray }),nilS,()),.bool (false)]) <|
 .qc24 198 [qv5 x0] fun y3 =>
 .qc5 176 [Sc.val .l x0.2.1,.string x1.1,.string x1.2.1] fun y4 =>
 .br (decide (y4≥(0:Int))) (
  .rg <|
 .qc43 199 [qv6 x1] fun y5 =>
  .el y3.2.1.1 (y3.2.1.n) y4 fun y6 =>
  .st (y6.add (y4.toNat*(5:Nat))) [.string y5.1,.string y5.2.1,.bool y5.2.2.1,Sc.val .l y5.2.2.2.1,.int .i64 y5.2.2.2.2.1] <|
 .qc18 126 [qv5 y3] fun y7 =>
  .bn y7 (.ret [qv5 (({ data:={ toList:=[]:Array UInt8 }:ByteArray }),nilS,()),.bool (false)]) <|
 .ret [qv5 y3,.bool (true)]) <|
 .rg <|
 .qc43 199 [qv6 x1] fun y5 =>
 .rq ([Value.string y5.1,Value.string y5.2.1,Value.bool y5.2.2.1,Value.slice y5.2.2.2.1.1 y5.2.2.2.1.n y5.2.2.2.1.c,Value.int IntKind.i64 y5.2.2.2.2.1].length=(1:Nat)*(5:Nat)) <|
 .rq (one [Value.string y5.1,Value.string y5.2.1,Value.bool y5.2.2.1,Value.slice y5.2.2.2.1.1 y5.2.2.2.1.n y5.2.2.2.1.c,Value.int IntKind.i64 y5.2.2.2.2.1]=true) <|
 .ap ({ a:=y3.2.1.1,n:=y3.2.1.n,c:=y3.2.1.c:SlV }) 5 72 [.string y5.1,.string y5.2.1,.bool y5.2.2.1,Sc.val .l y5.2.2.2.1,.int .i64 y5.2.2.2.2.1] ((1:Nat)) 204 fun y6 =>
 .qc18 126 [qv5 (y3.1,y6,())] fun y7 =>
 .bn y7 (.ret [qv5 (({ data:={ toList:=[]:Array UInt8 }:ByteArray }),nilS,()),.bool (false)]) <|
 .ret [qv5 (y3.1,y6,()),.bool (true)]
theorem fS_RatePut x0 x1:qft qa0 151 [qv5 x0,qv6 x1] (tS_RatePut x0 x1) :=fitK (by kernel_rfl)
def tS_RatAdd (x0:qy1) (x1:qy1):T :=
 .qc18 174 [qv1 x0] fun y1 =>
 .bn y1 (.ret [qv1 ((false),nilS,nilS,()),.bool (false)]) <|
 .qc18 174 [qv1 x1] fun y2 =>
 .bn y2 (.ret [qv1 ((false),nilS,nilS,()),.bool (false)]) <|
 .rg <|
 .qc6 200 [Sc.val .l x0.2.1,Sc.val .l x1.2.2.1] fun y3 =>
 .qc21 187 [.bool x0.1,Sc.val .l y3] fun y4 =>
 .rg <|
 .qc6 200 [Sc.val .l x1.2.1,Sc.val .l x0.2.2.1] fun y5 =>
 .qc21 187 [.bool x1.1,Sc.val .l y5] fun y6 =>
 .qc21 201 [qv0 y4,qv0 y6] fun y7 =>
 .rg <|
 .qc6 200 [Sc.val .l x0.2.2.1,Sc.val .l x1.2.2.1] fun y8 =>
 .qc10 202 [.bool y7.1,Sc.val .l y7.2.1,Sc.val .l y8] fun y9 =>
 .ret [qv1 y9.1,.bool y9.2.1]
theorem fS_RatAdd x0 x1:qft qa0 152 [qv1 x0,qv1 x1] (tS_RatAdd x0 x1) :=fitK (by kernel_rfl)
def aS_RestOf:An:=⟨[(2,[.s 9,.c 4 0,.c 4 1,.c 4 2],[.o (.o (.i .i64)),.o (.o (.b)),.o (.o (.l)),.o (.o (.l))])],[],[]⟩
def tS_RestOf (x0:SlV) (x1:ByteArray):T :=
 .lp [.o (.o (.i .i64)),.o (.o (.b)),.o (.o (.l)),.o (.o (.l))] [.v (.int .i64 0),.v (.bool (false)),.v (.slice none 0 0),.v (.slice none 0 0)] fun y1 =>
 .br (decide (y1.1<(↑x0.n:Int))) (
  .el x0.1 (x0.n) y1.1 fun y2 =>
  .ql20 (y2.add (Int.toNat y1.1*(4:Nat))) fun y3 =>
  .br (ByteArray.toList y3.1 == x1.toList) (
   .qc9 203 [qv1 y3.2] fun y4 =>
   .ret [qv1 y4]) <|
 .nx 0 [.v (.int .i64 (IntKind.i64.wrap (y1.1+(1:Int)))),.v (.bool y1.2.1),.v (Sc.val .l y1.2.2.1),.v (Sc.val .l y1.2.2.2.1)]) <|
 .qc9 161 [] fun y2 =>
 .ret [qv1 y2]
theorem fS_RestOf x0 x1:qft aS_RestOf 153 [Sc.val .l x0,.string x1] (tS_RestOf x0 x1) :=fitK (by kernel_rfl)
def tS_CurKnown (x0:ByteArray):T :=
 .qc44 204 [.string x0] fun y1 =>
 .ret [.bool (!ByteArray.toList y1.1 == { data:={ toList:=[]:Array UInt8 }:ByteArray }.toList)]
theorem fS_CurKnown x0:qft qa0 154 [.string x0] (tS_CurKnown x0) :=fitK (by kernel_rfl)
def aS_l19Copy:An:=⟨[(3,[.s 3,.s 9],[.o (.o (.l)),.o (.o (.i .i64))])],[],[]⟩
def tS_l19Copy (x0:SlV):T :=
 .fz ((0:Nat)) [] 116 fun b1 c1 =>
 .lp [.o (.o (.l)),.o (.o (.i .i64))] [.v (.slice (some { block:=b1,off:=(0:Nat):Addr }) ((0:Nat)) (c1)),.v (.int .i64 0)] fun y2 =>
 .br (decide (y2.2.1<(↑x0.n:Int))) (
  .el x0.1 (x0.n) y2.2.1 fun y3 =>
  .ql20 (y3.add (Int.toNat y2.2.1*(4:Nat))) fun y4 =>
  .rg <|
 .qc8 203 [qv1 y4.2] fun y5 =>
  .rq ([Value.string y4.1,Value.bool y5.1,Value.slice y5.2.1.1 y5.2.1.n y5.2.1.c,Value.slice y5.2.2.1.1 y5.2.2.1.n y5.2.2.1.c].length=(1:Nat)*(4:Nat)) <|
 .rq (one [Value.string y4.1,Value.bool y5.1,Value.slice y5.2.1.1 y5.2.1.n y5.2.1.c,Value.slice y5.2.2.1.1 y5.2.2.1.n y5.2.2.1.c]=true) <|
 .ap ({ a:=y2.1.1,n:=y2.1.n,c:=y2.1.c:SlV }) 4 72 [.string y4.1,.bool y5.1,Sc.val .l y5.2.1,Sc.val .l y5.2.2.1] ((1:Nat)) 116 fun y6 =>
  .nx 0 [.v (Sc.val .l y6),.v (.int .i64 (IntKind.i64.wrap (y2.2.1+(1:Int))))]) <|
 .ret [Sc.val .l y2.1]
theorem fS_l19Copy x0:qft aS_l19Copy 155 [Sc.val .l x0] (tS_l19Copy x0) :=fitK (by kernel_rfl)
def tS_RatSign (x0:qy1):T :=
 .rg <|
 .qc8 161 [] fun y1 =>
 .qc5 185 [qv1 x0,qv1 y1] fun y2 =>
 .ret [.int .i64 y2]
theorem fS_RatSign x0:qft qa0 156 [qv1 x0] (tS_RatSign x0) :=fitK (by kernel_rfl)
def tS_l04Draw (x0:Addr) (x1:Int):T :=
 .qc18 100 [.pointer (some x0),.int .i64 3] fun y1 =>
 .br y1 (
  .qc5 46 [.pointer (some x0),.int .i64 2001] fun y2 =>
  .qc21 149 [.int .i64 (IntKind.i64.wrap (y2-(1000:Int)))] fun y3 =>
  .ret [qv0 y3]) <|
 .qc18 100 [.pointer (some x0),.int .i64 2] fun y2 =>
 .qc19 159 [.pointer (some x0),.int .i64 x1] fun y3 =>
 .qc21 187 [.bool y2,Sc.val .l y3] fun y4 =>
 .ret [qv0 y4]
theorem fS_l04Draw x0 x1:qft qa0 157 [.pointer (some x0),.int .i64 x1] (tS_l04Draw x0 x1) :=fitK (by kernel_rfl)
def aS_NatOf:An:=⟨[(2,[.s 0,.s 3],[.o (.o (.i .i64)),.a 3])],[],[]⟩
def tS_NatOf (x0:Int):T :=
 .lp [.o (.o (.i .i64)),.a 3] [.v (.int .i64 x0),.a 3 ((0:Nat)) []] fun y1 =>
 .br (decide (y1.1 > (0:Int))) (
  .rq ((1000000000:Int)≠(0:Int)) <|
 .rq ([Value.int IntKind.i64 (Int.tmod y1.1 (1000000000:Int))].length=(1:Nat)*(1:Nat)) <|
 .rq (one [Value.int IntKind.i64 (Int.tmod y1.1 (1000000000:Int))]=true∧(y1.2.1.1+(1:Nat))*(8:Nat)≤(140737488355328:Nat)∧y1.2.1.1+(1:Nat)≤(9223372036854775807:Nat)) <|
 .rq ((1000000000:Int)≠(0:Int)) <|
 .nx 0 [.v (.int .i64 (IntKind.i64.wrap (Int.tdiv y1.1 (1000000000:Int)))),.a 3 (y1.2.1.1+(1:Nat)) (y1.2.1.2++[Value.int IntKind.i64 (Int.tmod y1.1 (1000000000:Int))])]) <|
 .fz y1.2.1.1 y1.2.1.2 3 fun b2 c2 =>
 .ret [.slice (some { block:=b2,off:=(0:Nat):Addr }) y1.2.1.1 (c2)]
theorem fS_NatOf x0:qft aS_NatOf 158 [.int .i64 x0] (tS_NatOf x0) :=fitK (by kernel_rfl)
def aS_l02Nat:An:=⟨[(3,[.s 5,.s 6],[.a 3,.o (.o (.i .i64))])],[],[]⟩
def tS_l02Nat (x0:Addr) (x1:Int):T :=
 .qc5 46 [.pointer (some x0),.int .i64 (IntKind.i64.wrap (x1+(1:Int)))] fun y1 =>
 .lp [.a 3,.o (.o (.i .i64))] [.a 3 ((0:Nat)) [],.v (.int .i64 y1)] fun y2 =>
 .br (decide (y2.2.1 > (0:Int))) (
  .qc5 46 [.pointer (some x0),.int .i64 1000000000] fun y3 =>
  .qc5 46 [.pointer (some x0),.int .i64 1000000000] fun y4 =>
  .fz ((7:Nat)) [.int .i64 0,.int .i64 1,.int .i64 2,.int .i64 999999999,.int .i64 500000000,.int .i64 y3,.int .i64 y4] 3 fun b5 c5 =>
  .qc5 197 [.pointer (some x0),.slice (some { block:=b5,off:=(0:Nat):Addr }) ((7:Nat)) (c5)] fun y6 =>
  .rq ([Value.int IntKind.i64 y6].length=(1:Nat)*(1:Nat)) <|
 .rq (one [Value.int IntKind.i64 y6]=true∧(y2.1.1+(1:Nat))*(8:Nat)≤(140737488355328:Nat)∧y2.1.1+(1:Nat)≤(9223372036854775807:Nat)) <|
 .nx 0 [.a 3 (y2.1.1+(1:Nat)) (y2.1.2++[Value.int IntKind.i64 y6]),.v (.int .i64 (IntKind.i64.wrap (y2.2.1-(1:Int))))]) <|
 .fz y2.1.1 y2.1.2 3 fun b3 c3 =>
 .qc19 205 [.slice (some { block:=b3,off:=(0:Nat):Addr }) y2.1.1 (c3)] fun y4 =>
 .ret [Sc.val .l y4]
theorem fS_l02Nat x0 x1:qft aS_l02Nat 159 [.pointer (some x0),.int .i64 x1] (tS_l02Nat x0 x1) :=fitK (by kernel_rfl)
def tS_RatMake (x0:qy0) (x1:qy0):T :=
 .qc18 177 [qv0 x0] fun y1 =>
 .bn y1 (.ret [qv1 ((false),nilS,nilS,()),.bool (false)]) <|
 .qc18 177 [qv0 x1] fun y2 =>
 .bn y2 (.ret [qv1 ((false),nilS,nilS,()),.bool (false)]) <|
 .qc10 202 [.bool (!x0.1 == x1.1),Sc.val .l x0.2.1,Sc.val .l x1.2.1] fun y3 =>
 .ret [qv1 y3.1,.bool y3.2.1]
theorem fS_RatMake x0 x1:qft qa0 160 [qv0 x0,qv0 x1] (tS_RatMake x0 x1) :=fitK (by kernel_rfl)
def tS_RatZero :T :=
 .fz ((1:Nat)) [.int .i64 1] 3 fun b1 c1 =>
 .ret [qv1 ((false),nilS,(⟨(some { block:=b1,off:=(0:Nat):Addr }),((1:Nat)),(c1)⟩:SlV),())]
theorem fS_RatZero :qft qa0 161 [] (tS_RatZero ) :=fitK (by kernel_rfl)
def aI_BookOk:An:=⟨[(4,[.s 12],[.o (.o (.i .i64))])],[],[]⟩
def tI_BookOk (x0:qy3):T :=
 .br (decide ((↑x0.1.n:Int) > (12:Int))) (
  .rF) <|
 .lp [.o (.o (.i .i64))] [.v (.int .i64 0)] fun y1 =>
 .br (decide (y1.1<(↑x0.1.n:Int))) (
  .el x0.1.1 (x0.1.n) y1.1 fun y2 =>
  .ql32 (y2.add (Int.toNat y1.1*(4:Nat))) fun y3 =>
  .rg <|
 .qc38 206 [.string y3.1] fun y4 =>
  .bF y4 <|
 .qc38 65 [qv2 y3.2] fun y5 =>
  .bF y5 <|
 .br (decide (y1.1 > (0:Int))) (
   .el x0.1.1 (x0.1.n) (IntKind.i64.wrap (y1.1-(1:Int))) fun y6 =>
   .ql39 ((y6.add ((IntKind.i64.wrap (y1.1-(1:Int))).toNat*(4:Nat))).add (0:Nat)) fun y7 =>
   .br (!Op.bytesLess y7.toList (ByteArray.toList y3.1)) (
    .rF) <|
 .nx 0 [.v (.int .i64 (IntKind.i64.wrap (y1.1+(1:Int))))]) <|
 .nx 0 [.v (.int .i64 (IntKind.i64.wrap (y1.1+(1:Int))))]) <|
 .rT
theorem fI_BookOk x0:qft aI_BookOk 162 [qv3 x0] (tI_BookOk x0) :=fitK (by kernel_rfl)
def aI_RestsOk:An:=⟨[(2,[.s 7],[.o (.o (.i .i64))])],[],[]⟩
def tI_RestsOk (x0:SlV):T :=
 .lp [.o (.o (.i .i64))] [.v (.int .i64 0)] fun y1 =>
 .br (decide (y1.1<(↑x0.n:Int))) (
  .el x0.1 (x0.n) y1.1 fun y2 =>
  .ql20 (y2.add (Int.toNat y1.1*(4:Nat))) fun y3 =>
  .rg <|
 .qc38 119 [.string y3.1] fun y4 =>
  .bF y4 <|
 .qc38 116 [qv1 y3.2] fun y5 =>
  .bF y5 <|
 .qc3 207 [qv1 y3.2] fun y6 =>
  .br (y6 == (0:Int)) (
   .rF) <|
 .br (decide (y1.1 > (0:Int))) (
   .el x0.1 (x0.n) (IntKind.i64.wrap (y1.1-(1:Int))) fun y7 =>
   .ql39 ((y7.add ((IntKind.i64.wrap (y1.1-(1:Int))).toNat*(4:Nat))).add (0:Nat)) fun y8 =>
   .br (!Op.bytesLess y8.toList (ByteArray.toList y3.1)) (
    .rF) <|
 .nx 0 [.v (.int .i64 (IntKind.i64.wrap (y1.1+(1:Int))))]) <|
 .nx 0 [.v (.int .i64 (IntKind.i64.wrap (y1.1+(1:Int))))]) <|
 .rT
theorem fI_RestsOk x0:qft aI_RestsOk 163 [Sc.val .l x0] (tI_RestsOk x0) :=fitK (by kernel_rfl)
def aI_RatesOk:An:=⟨[(5,[.s 21],[.o (.o (.i .i64))])],[],[]⟩
def tI_RatesOk (x0:qy5):T :=
 .qc18 119 [.string x0.1] fun y1 =>
 .bF y1 <|
 .br (decide ((↑x0.2.1.n:Int) > (12:Int))) (
  .rF) <|
 .mo (.mk 247) (.v (.o (.x))) fun y2 =>
 .lp [.o (.o (.i .i64))] [.v (.int .i64 0)] fun y3 =>
 .br (decide (y3.1<(↑x0.2.1.n:Int))) (
  .el x0.2.1.1 (x0.2.1.n) y3.1 fun y4 =>
  .ql40 (y4.add (Int.toNat y3.1*(5:Nat))) fun y5 =>
  .qc18 208 [qv6 y5] fun y6 =>
  .bF y6 <|
 .mo (.lk 247 (y2.1) (Sh1.val (.g [.s,.s]) (y5.1,y5.2.1,())) false) (.v (.o (.b))) fun y7 =>
  .br y7 (
   .rF) <|
 .mo (.up 247 (y2.1) (Sh1.val (.g [.s,.s]) (y5.1,y5.2.1,())) (.bool (true))) (.t []) fun _ =>
  .nx 0 [.v (.int .i64 (IntKind.i64.wrap (y3.1+(1:Int))))]) <|
 .rT
theorem fI_RatesOk x0:qft aI_RatesOk 164 [qv5 x0] (tI_RatesOk x0) :=fitK (by kernel_rfl)
def aI_bookCopy:An:=⟨[(3,[.s 15,.c 3 0],[.o (.o (.i .i64)),.o (.o (.l))])],[],[]⟩
def tI_bookCopy (x0:qy3):T :=
 .rq ((0:Int)≤(0:Int)∧(0:Int)≤IntKind.i64.wrap ((↑x0.1.n:Int)+(1:Int))∧(↑(64:Nat):Int)*IntKind.i64.wrap ((↑x0.1.n:Int)+(1:Int))≤(281474976710656:Int)∧IntKind.i64.wrap ((↑x0.1.n:Int)+(1:Int))≤(9223372036854775807:Int)) <|
 .fz (Int.toNat (0:Int)) [] 100 fun b1 c1 =>
 .lp [.o (.o (.i .i64)),.o (.o (.l))] [.v (.int .i64 0),.v (.slice (some { block:=b1,off:=(0:Nat):Addr }) (Int.toNat (0:Int)) (c1))] fun y2 =>
 .br (decide (y2.1<(↑x0.1.n:Int))) (
  .el x0.1.1 (x0.1.n) y2.1 fun y3 =>
  .ql32 (y3.add (Int.toNat y2.1*(4:Nat))) fun y4 =>
  .rg <|
 .qc45 44 [qv2 y4.2] fun y5 =>
  .rq ([Value.string y4.1,Value.string y5.1,Value.bool y5.2.1,Value.slice y5.2.2.1.1 y5.2.2.1.n y5.2.2.1.c].length=(1:Nat)*(4:Nat)) <|
 .rq (one [Value.string y4.1,Value.string y5.1,Value.bool y5.2.1,Value.slice y5.2.2.1.1 y5.2.2.1.n y5.2.2.1.c]=true) <|
 .ap ({ a:=y2.2.1.1,n:=y2.2.1.n,c:=y2.2.1.c:SlV }) 4 64 [.string y4.1,.string y5.1,.bool y5.2.1,Sc.val .l y5.2.2.1] ((1:Nat)) 100 fun y6 =>
  .nx 0 [.v (.int .i64 (IntKind.i64.wrap (y2.1+(1:Int)))),.v (Sc.val .l y6)]) <|
 .ret [qv3 y2.2]
theorem fI_bookCopy x0:qft aI_bookCopy 165 [qv3 x0] (tI_bookCopy x0) :=fitK (by kernel_rfl)
def aI_restsCopy:An:=⟨[(3,[.s 3,.s 9],[.o (.o (.l)),.o (.o (.i .i64))])],[],[]⟩
def tI_restsCopy (x0:SlV):T :=
 .fz ((0:Nat)) [] 116 fun b1 c1 =>
 .lp [.o (.o (.l)),.o (.o (.i .i64))] [.v (.slice (some { block:=b1,off:=(0:Nat):Addr }) ((0:Nat)) (c1)),.v (.int .i64 0)] fun y2 =>
 .br (decide (y2.2.1<(↑x0.n:Int))) (
  .el x0.1 (x0.n) y2.2.1 fun y3 =>
  .ql20 (y3.add (Int.toNat y2.2.1*(4:Nat))) fun y4 =>
  .rg <|
 .qc8 58 [qv1 y4.2] fun y5 =>
  .rq ([Value.string y4.1,Value.bool y5.1,Value.slice y5.2.1.1 y5.2.1.n y5.2.1.c,Value.slice y5.2.2.1.1 y5.2.2.1.n y5.2.2.1.c].length=(1:Nat)*(4:Nat)) <|
 .rq (one [Value.string y4.1,Value.bool y5.1,Value.slice y5.2.1.1 y5.2.1.n y5.2.1.c,Value.slice y5.2.2.1.1 y5.2.2.1.n y5.2.2.1.c]=true) <|
 .ap ({ a:=y2.1.1,n:=y2.1.n,c:=y2.1.c:SlV }) 4 72 [.string y4.1,.bool y5.1,Sc.val .l y5.2.1,Sc.val .l y5.2.2.1] ((1:Nat)) 116 fun y6 =>
  .nx 0 [.v (Sc.val .l y6),.v (.int .i64 (IntKind.i64.wrap (y2.2.1+(1:Int))))]) <|
 .ret [Sc.val .l y2.1]
theorem fI_restsCopy x0:qft aI_restsCopy 166 [Sc.val .l x0] (tI_restsCopy x0) :=fitK (by kernel_rfl)
def aI_ratesCopy:An:=⟨[(3,[.s 12,.c 3 0,.c 3 1],[.o (.o (.i .i64)),.o (.o (.s)),.o (.o (.l))])],[],[]⟩
def tI_ratesCopy (x0:qy5):T :=
 .lp [.o (.o (.i .i64)),.o (.o (.s)),.o (.o (.l))] [.v (.int .i64 0),.v (.string x0.1),.v (.slice none 0 0)] fun y1 =>
 .br (decide (y1.1<(↑x0.2.1.n:Int))) (
  .el x0.2.1.1 (x0.2.1.n) y1.1 fun y2 =>
  .ql40 (y2.add (Int.toNat y1.1*(5:Nat))) fun y3 =>
  .rg <|
 .qc43 209 [qv6 y3] fun y4 =>
  .rq ([Value.string y4.1,Value.string y4.2.1,Value.bool y4.2.2.1,Value.slice y4.2.2.2.1.1 y4.2.2.2.1.n y4.2.2.2.1.c,Value.int IntKind.i64 y4.2.2.2.2.1].length=(1:Nat)*(5:Nat)) <|
 .rq (one [Value.string y4.1,Value.string y4.2.1,Value.bool y4.2.2.1,Value.slice y4.2.2.2.1.1 y4.2.2.2.1.n y4.2.2.2.1.c,Value.int IntKind.i64 y4.2.2.2.2.1]=true) <|
 .ap ({ a:=y1.2.2.1.1,n:=y1.2.2.1.n,c:=y1.2.2.1.c:SlV }) 5 72 [.string y4.1,.string y4.2.1,.bool y4.2.2.1,Sc.val .l y4.2.2.2.1,.int .i64 y4.2.2.2.2.1] ((1:Nat)) 204 fun y5 =>
  .nx 0 [.v (.int .i64 (IntKind.i64.wrap (y1.1+(1:Int)))),.v (.string y1.2.1),.v (Sc.val .l y5)]) <|
 .ret [qv5 y1.2]
theorem fI_ratesCopy x0:qft aI_ratesCopy 167 [qv5 x0] (tI_ratesCopy x0) :=fitK (by kernel_rfl)
def aI_subTimes:An:=⟨[(3,[.s 0,.s 7,.s 13],[.o (.o (.l)),.o (.o (.i .i64)),.o (.o (.i .i64))])],[],[]⟩
def tI_subTimes (x0:SlV) (x1:SlV) (x2:Int):T :=
 .lp [.o (.o (.l)),.o (.o (.i .i64)),.o (.o (.i .i64))] [.v (Sc.val .l x0),.v (.int .i64 0),.v (.int .i64 0)] fun y1 =>
 .br (decide (y1.2.2.1<(↑x1.n:Int))) (
  .el x1.1 (x1.n) y1.2.2.1 fun y2 =>
  .ql13 (y2.add (Int.toNat y1.2.2.1*(1:Nat))) fun y3 =>
  .el y1.1.1 (y1.1.n) y1.2.2.1 fun y4 =>
  .ql13 (y4.add (Int.toNat y1.2.2.1*(1:Nat))) fun y5 =>
  .br (decide (IntKind.i64.wrap (IntKind.i64.wrap (y5-IntKind.i64.wrap (y3*x2))-y1.2.1)<(0:Int))) (
   .rq ((1000000000:Int)≠(0:Int)) <|
 .el y1.1.1 (y1.1.n) y1.2.2.1 fun y6 =>
   .st (y6.add (Int.toNat y1.2.2.1*(1:Nat))) [.int .i64 (IntKind.i64.wrap (IntKind.i64.wrap (IntKind.i64.wrap (y5-IntKind.i64.wrap (y3*x2))-y1.2.1)+IntKind.i64.wrap (IntKind.i64.wrap ((IntKind.i64.wrap (IntKind.i64.wrap (IntKind.i64.wrap ((0:Int)-IntKind.i64.wrap (IntKind.i64.wrap (y5-IntKind.i64.wrap (y3*x2))-y1.2.1))+(1000000000:Int))-(1:Int))).tdiv (1000000000:Int))*(1000000000:Int))))] <|
 .nx 0 [.v (Sc.val .l y1.1),.v (.int .i64 (IntKind.i64.wrap ((IntKind.i64.wrap (IntKind.i64.wrap (IntKind.i64.wrap ((0:Int)-IntKind.i64.wrap (IntKind.i64.wrap (y5-IntKind.i64.wrap (y3*x2))-y1.2.1))+(1000000000:Int))-(1:Int))).tdiv (1000000000:Int)))),.v (.int .i64 (IntKind.i64.wrap (y1.2.2.1+(1:Int))))]) <|
 .el y1.1.1 (y1.1.n) y1.2.2.1 fun y6 =>
  .st (y6.add (Int.toNat y1.2.2.1*(1:Nat))) [.int .i64 (IntKind.i64.wrap (IntKind.i64.wrap (y5-IntKind.i64.wrap (y3*x2))-y1.2.1))] <|
 .nx 0 [.v (Sc.val .l y1.1),.v (.int .i64 0),.v (.int .i64 (IntKind.i64.wrap (y1.2.2.1+(1:Int))))]) <|
 .el y1.1.1 (y1.1.n) ((↑x1.n:Int)) fun y2 =>
 .ql13 (y2.add ((↑x1.n:Int).toNat*(1:Nat))) fun y3 =>
 .el y1.1.1 (y1.1.n) ((↑x1.n:Int)) fun y4 =>
 .st (y4.add ((↑x1.n:Int).toNat*(1:Nat))) [.int .i64 (IntKind.i64.wrap (y3-y1.2.1))] <|
 .el y1.1.1 (y1.1.n) ((↑x1.n:Int)) fun y5 =>
 .ql13 (y5.add ((↑x1.n:Int).toNat*(1:Nat))) fun y6 =>
 .ret [.bool (decide (y6<(0:Int)))]
theorem fI_subTimes x0 x1 x2:qft aI_subTimes 168 [Sc.val .l x0,Sc.val .l x1,.int .i64 x2] (tI_subTimes x0 x1 x2) :=fitK (by kernel_rfl)
def aI_addBack:An:=⟨[(2,[.s 0,.s 4,.s 9],[.o (.o (.l)),.o (.o (.i .i64)),.o (.o (.i .i64))])],[],[]⟩
def tI_addBack (x0:SlV) (x1:SlV):T :=
 .lp [.o (.o (.l)),.o (.o (.i .i64)),.o (.o (.i .i64))] [.v (Sc.val .l x0),.v (.int .i64 0),.v (.int .i64 0)] fun y1 =>
 .br (decide (y1.2.2.1<(↑x1.n:Int))) (
  .el x1.1 (x1.n) y1.2.2.1 fun y2 =>
  .ql13 (y2.add (Int.toNat y1.2.2.1*(1:Nat))) fun y3 =>
  .el y1.1.1 (y1.1.n) y1.2.2.1 fun y4 =>
  .ql13 (y4.add (Int.toNat y1.2.2.1*(1:Nat))) fun y5 =>
  .rq ((1000000000:Int)≠(0:Int)) <|
 .el y1.1.1 (y1.1.n) y1.2.2.1 fun y6 =>
  .st (y6.add (Int.toNat y1.2.2.1*(1:Nat))) [.int .i64 ((IntKind.i64.wrap (y1.2.1+IntKind.i64.wrap (y5+y3))).tmod (1000000000:Int))] <|
 .rq ((1000000000:Int)≠(0:Int)) <|
 .nx 0 [.v (Sc.val .l y1.1),.v (.int .i64 (IntKind.i64.wrap ((IntKind.i64.wrap (y1.2.1+IntKind.i64.wrap (y5+y3))).tdiv (1000000000:Int)))),.v (.int .i64 (IntKind.i64.wrap (y1.2.2.1+(1:Int))))]) <|
 .el y1.1.1 (y1.1.n) ((↑x1.n:Int)) fun y2 =>
 .ql13 (y2.add ((↑x1.n:Int).toNat*(1:Nat))) fun y3 =>
 .el y1.1.1 (y1.1.n) ((↑x1.n:Int)) fun y4 =>
 .st (y4.add ((↑x1.n:Int).toNat*(1:Nat))) [.int .i64 (IntKind.i64.wrap (y3+y1.2.1))] <|
 .ret []
theorem fI_addBack x0 x1:qft aI_addBack 169 [Sc.val .l x0,Sc.val .l x1] (tI_addBack x0 x1) :=fitK (by kernel_rfl)
def aI_natGcd:An:=⟨[(1,[.s 0,.s 1],[.o (.o (.l)),.o (.o (.l))])],[],[]⟩
def tI_natGcd (x0:SlV) (x1:SlV):T :=
 .lp [.o (.o (.l)),.o (.o (.l))] [.v (Sc.val .l x0),.v (Sc.val .l x1)] fun y1 =>
 .br (decide ((↑y1.2.1.n:Int) > (0:Int))) (
  .qc7 49 [Sc.val .l y1.1,Sc.val .l y1.2.1] fun y2 =>
  .nx 0 [.v (Sc.val .l y1.2.1),.v (Sc.val .l y2.2.1)]) <|
 .qc19 63 [Sc.val .l y1.1] fun y2 =>
 .ret [Sc.val .l y2]
theorem fI_natGcd x0 x1:qft aI_natGcd 170 [Sc.val .l x0,Sc.val .l x1] (tI_natGcd x0 x1) :=fitK (by kernel_rfl)
def tS_RatOk (x0:qy1):T :=
 .qc18 177 [qv0 (x0.1,x0.2.1,())] fun y1 =>
 .bF y1 <|
 .qc18 211 [Sc.val .l x0.2.2.1] fun y2 =>
 .bF y2 <|
 .br ((↑x0.2.2.1.n:Int) == (0:Int)) (
  .rF) <|
 .br (decide ((↑x0.2.2.1.n:Int) > (18:Int))) (
  .rF) <|
 .br (decide ((↑x0.2.1.n:Int) > (18:Int))) (
  .rF) <|
 .qc19 213 [Sc.val .l x0.2.1,Sc.val .l x0.2.2.1] fun y3 =>
 .fz ((1:Nat)) [.int .i64 1] 3 fun b4 c4 =>
 .qc5 212 [Sc.val .l y3,.slice (some { block:=b4,off:=(0:Nat):Addr }) ((1:Nat)) (c4)] fun y5 =>
 .ret [.bool (y5 == (0:Int))]
theorem fS_RatOk x0:qft qa0 174 [qv1 x0] (tS_RatOk x0) :=fitK (by kernel_rfl)
def tS_RateOk (x0:qy6):T :=
 .qc18 154 [.string x0.1] fun y1 =>
 .br y1 (
  .qc18 154 [.string x0.2.1] fun y2 =>
  .br y2 (
   .br (!ByteArray.toList x0.1 == ByteArray.toList x0.2.1) (
    .qc18 214 [qv7 x0.2.2] fun y3 =>
    .br y3 (
     .qc5 215 [qv0 (x0.2.2.1,x0.2.2.2.1,())] fun y4 =>
     .br (decide (y4 > (0:Int))) (
      .ret [.bool (decide ((↑x0.2.2.2.1.n:Int)≤(2:Int)))]) <|
 .rF) <|
 .rF) <|
 .rF) <|
 .rF) <|
 .rF
theorem fS_RateOk x0:qft qa0 175 [qv6 x0] (tS_RateOk x0) :=fitK (by kernel_rfl)
def aS_l10At:An:=⟨[(2,[.s 11],[.o (.o (.i .i64))])],[],[]⟩
def tS_l10At (x0:SlV) (x1:ByteArray) (x2:ByteArray):T :=
 .lp [.o (.o (.i .i64))] [.v (.int .i64 0)] fun y1 =>
 .br (decide (y1.1<(↑x0.n:Int))) (
  .el x0.1 (x0.n) y1.1 fun y2 =>
  .ql40 (y2.add (Int.toNat y1.1*(5:Nat))) fun y3 =>
  .br (ByteArray.toList y3.1 == x1.toList) (
   .br (ByteArray.toList y3.2.1 == x2.toList) (
    .ret [.int .i64 y1.1]) <|
 .nx 0 [.v (.int .i64 (IntKind.i64.wrap (y1.1+(1:Int))))]) <|
 .nx 0 [.v (.int .i64 (IntKind.i64.wrap (y1.1+(1:Int))))]) <|
 .rM
theorem fS_l10At x0 x1 x2:qft aS_l10At 176 [Sc.val .l x0,.string x1,.string x2] (tS_l10At x0 x1 x2) :=fitK (by kernel_rfl)
def tS_IntOk (x0:qy0):T :=
 .qc18 211 [Sc.val .l x0.2.1] fun y1 =>
 .br y1 (
  .br (!x0.1) (
   .rT) <|
 .ret [.bool (decide ((↑x0.2.1.n:Int) > (0:Int)))]) <|
 .rF
theorem fS_IntOk x0:qft qa0 177 [qv0 x0] (tS_IntOk x0) :=fitK (by kernel_rfl)
def tS_RatCmp (x0:qy1) (x1:qy1):T :=
 .qc18 174 [qv1 x0] fun y1 =>
 .bn y1 (.ret [.int .i64 0]) <|
 .qc18 174 [qv1 x1] fun y2 =>
 .bn y2 (.ret [.int .i64 0]) <|
 .rg <|
 .qc6 200 [Sc.val .l x0.2.1,Sc.val .l x1.2.2.1] fun y3 =>
 .qc11 187 [.bool x0.1,Sc.val .l y3] fun y4 =>
 .qc6 200 [Sc.val .l x1.2.1,Sc.val .l x0.2.2.1] fun y5 =>
 .qc21 187 [.bool x1.1,Sc.val .l y5] fun y6 =>
 .qc5 221 [qv0 y4,qv0 y6] fun y7 =>
 .ret [.int .i64 y7]
theorem fS_RatCmp x0 x1:qft qa0 185 [qv1 x0,qv1 x1] (tS_RatCmp x0 x1) :=fitK (by kernel_rfl)
def tS_IntAdd (x0:qy0) (x1:qy0):T :=
 .qc18 177 [qv0 x0] fun y1 =>
 .bn y1 (.ret [qv0 ((false),nilS,())]) <|
 .qc18 177 [qv0 x1] fun y2 =>
 .bn y2 (.ret [qv0 ((false),nilS,())]) <|
 .qc21 201 [qv0 x0,qv0 x1] fun y3 =>
 .ret [qv0 y3]
theorem fS_IntAdd x0 x1:qft qa0 186 [qv0 x0,qv0 x1] (tS_IntAdd x0 x1) :=fitK (by kernel_rfl)
def tS_l04Make (x0:Bool) (x1:SlV):T :=
 .qc19 222 [Sc.val .l x1] fun y1 =>
 .br x0 (
  .rd ({ a:=y1.1,n:=y1.n,c:=y1.c:SlV }) ((1:Nat)) fun y2 =>
  .rq (one y2=true∧((0:Nat)+y1.n)*(8:Nat)≤(140737488355328:Nat)∧(0:Nat)+y1.n≤(9223372036854775807:Nat)) <|
 .fz ((0:Nat)+y1.n) ([]++y2) 3 fun b3 c3 =>
  .ret [qv0 ((decide ((↑y1.n:Int) > (0:Int))),(⟨(some { block:=b3,off:=(0:Nat):Addr }),((0:Nat)+y1.n),(c3)⟩:SlV),())]) <|
 .rd ({ a:=y1.1,n:=y1.n,c:=y1.c:SlV }) ((1:Nat)) fun y2 =>
 .rq (one y2=true∧((0:Nat)+y1.n)*(8:Nat)≤(140737488355328:Nat)∧(0:Nat)+y1.n≤(9223372036854775807:Nat)) <|
 .fz ((0:Nat)+y1.n) ([]++y2) 3 fun b3 c3 =>
 .ret [qv0 ((false),(⟨(some { block:=b3,off:=(0:Nat):Addr }),((0:Nat)+y1.n),(c3)⟩:SlV),())]
theorem fS_l04Make x0 x1:qft qa0 187 [.bool x0,Sc.val .l x1] (tS_l04Make x0 x1) :=fitK (by kernel_rfl)
def aS_l17Copy:An:=⟨[(3,[.s 10,.c 3 0],[.o (.o (.i .i64)),.o (.o (.l))])],[],[]⟩
def tS_l17Copy (x0:qy3):T :=
 .lp [.o (.o (.i .i64)),.o (.o (.l))] [.v (.int .i64 0),.v (.slice none 0 0)] fun y1 =>
 .br (decide (y1.1<(↑x0.1.n:Int))) (
  .el x0.1.1 (x0.1.n) y1.1 fun y2 =>
  .ql32 (y2.add (Int.toNat y1.1*(4:Nat))) fun y3 =>
  .rg <|
 .qc45 223 [qv2 y3.2] fun y4 =>
  .rq ([Value.string y3.1,Value.string y4.1,Value.bool y4.2.1,Value.slice y4.2.2.1.1 y4.2.2.1.n y4.2.2.1.c].length=(1:Nat)*(4:Nat)) <|
 .rq (one [Value.string y3.1,Value.string y4.1,Value.bool y4.2.1,Value.slice y4.2.2.1.1 y4.2.2.1.n y4.2.2.1.c]=true) <|
 .ap ({ a:=y1.2.1.1,n:=y1.2.1.n,c:=y1.2.1.c:SlV }) 4 64 [.string y3.1,.string y4.1,.bool y4.2.1,Sc.val .l y4.2.2.1] ((1:Nat)) 100 fun y5 =>
  .nx 0 [.v (.int .i64 (IntKind.i64.wrap (y1.1+(1:Int)))),.v (Sc.val .l y5)]) <|
 .ret [qv3 y1.2]
theorem fS_l17Copy x0:qft aS_l17Copy 188 [qv3 x0] (tS_l17Copy x0) :=fitK (by kernel_rfl)
def tS_MoneyAdd (x0:qy2) (x1:qy2):T :=
 .qc18 224 [qv2 x0,qv2 x1] fun y1 =>
 .bn y1 (.ret [qv2 (({ data:={ toList:=[]:Array UInt8 }:ByteArray }),(false),nilS,()),.bool (false)]) <|
 .rg <|
 .qc11 186 [qv0 x0.2,qv0 x1.2] fun y2 =>
 .qc2 225 [.string x0.1,qv0 y2] fun y3 =>
 .ret [qv2 y3.1,.bool y3.2.1]
theorem fS_MoneyAdd x0 x1:qft qa0 190 [qv2 x0,qv2 x1] (tS_MoneyAdd x0 x1) :=fitK (by kernel_rfl)
def tS_l01Pick (x0:Addr) (x1:SlV):T :=
 .qc5 46 [.pointer (some x0),.int .i64 ((↑x1.n:Int))] fun y1 =>
 .el x1.1 (x1.n) y1 fun y2 =>
 .ql13 (y2.add (y1.toNat*(1:Nat))) fun y3 =>
 .ret [.int .i64 y3]
theorem fS_l01Pick x0 x1:qft qa0 197 [.pointer (some x0),Sc.val .l x1] (tS_l01Pick x0 x1) :=fitK (by kernel_rfl)
def aS_l10Copy:An:=⟨[(3,[.s 12,.c 3 0,.c 3 1],[.o (.o (.i .i64)),.o (.o (.s)),.o (.o (.l))])],[],[]⟩
def tS_l10Copy (x0:qy5):T :=
 .lp [.o (.o (.i .i64)),.o (.o (.s)),.o (.o (.l))] [.v (.int .i64 0),.v (.string x0.1),.v (.slice none 0 0)] fun y1 =>
 .br (decide (y1.1<(↑x0.2.1.n:Int))) (
  .el x0.2.1.1 (x0.2.1.n) y1.1 fun y2 =>
  .ql40 (y2.add (Int.toNat y1.1*(5:Nat))) fun y3 =>
  .rg <|
 .qc43 199 [qv6 y3] fun y4 =>
  .rq ([Value.string y4.1,Value.string y4.2.1,Value.bool y4.2.2.1,Value.slice y4.2.2.2.1.1 y4.2.2.2.1.n y4.2.2.2.1.c,Value.int IntKind.i64 y4.2.2.2.2.1].length=(1:Nat)*(5:Nat)) <|
 .rq (one [Value.string y4.1,Value.string y4.2.1,Value.bool y4.2.2.1,Value.slice y4.2.2.2.1.1 y4.2.2.2.1.n y4.2.2.2.1.c,Value.int IntKind.i64 y4.2.2.2.2.1]=true) <|
 .ap ({ a:=y1.2.2.1.1,n:=y1.2.2.1.n,c:=y1.2.2.1.c:SlV }) 5 72 [.string y4.1,.string y4.2.1,.bool y4.2.2.1,Sc.val .l y4.2.2.2.1,.int .i64 y4.2.2.2.2.1] ((1:Nat)) 204 fun y5 =>
  .nx 0 [.v (.int .i64 (IntKind.i64.wrap (y1.1+(1:Int)))),.v (.string y1.2.1),.v (Sc.val .l y5)]) <|
 .ret [qv5 y1.2]
theorem fS_l10Copy x0:qft aS_l10Copy 198 [qv5 x0] (tS_l10Copy x0) :=fitK (by kernel_rfl)
def tS_l10Rate (x0:qy6):T :=
 .rg <|
 .qc11 187 [.bool x0.2.2.1,Sc.val .l x0.2.2.2.1] fun y1 =>
 .ret [qv6 (x0.1,x0.2.1,y1.1,y1.2.1,((x0.2.2.2.2.1):Int),())]
theorem fS_l10Rate x0:qft qa0 199 [qv6 x0] (tS_l10Rate x0) :=fitK (by kernel_rfl)
def aS_l02Mul:An:=⟨[(5,[.s 5,.s 28],[.a 3,.o (.o (.i .i64))]),(9,[.s 5,.s 8,.s 35],[.a 3,.o (.o (.i .i64)),.o (.o (.i .i64))])],[],[]⟩
def tS_l02Mul (x0:SlV) (x1:SlV):T :=
 .br ((↑x0.n:Int) == (0:Int)) (
  .ret [.slice none 0 0]) <|
 .br ((↑x1.n:Int) == (0:Int)) (
  .ret [.slice none 0 0]) <|
 .rq ((0:Int)≤IntKind.i64.wrap ((↑x0.n:Int)+(↑x1.n:Int))∧IntKind.i64.wrap ((↑x0.n:Int)+(↑x1.n:Int))≤IntKind.i64.wrap ((↑x0.n:Int)+(↑x1.n:Int))∧(↑(8:Nat):Int)*IntKind.i64.wrap ((↑x0.n:Int)+(↑x1.n:Int))≤(281474976710656:Int)∧IntKind.i64.wrap ((↑x0.n:Int)+(↑x1.n:Int))≤(9223372036854775807:Int)) <|
 .lp [.a 3,.o (.o (.i .i64))] [.a 3 ((IntKind.i64.wrap ((↑x0.n:Int)+(↑x1.n:Int))).toNat) ((madeCells { toList:=[Value.int IntKind.i64 (0:Int)]:Array Value } ((IntKind.i64.wrap ((↑x0.n:Int)+(↑x1.n:Int))).toNat*(1:Nat))).toList),.v (.int .i64 0)] fun y1 =>
 .br (decide (y1.2.1<(↑x0.n:Int))) (
  .el x0.1 (x0.n) y1.2.1 fun y2 =>
  .ql13 (y2.add (Int.toNat y1.2.1*(1:Nat))) fun y3 =>
  .lp [.a 3,.o (.o (.i .i64)),.o (.o (.i .i64))] [.a 3 y1.1.1 y1.1.2,.v (.int .i64 0),.v (.int .i64 0)] fun y4 =>
  .br (decide (y4.2.2.1<(↑x1.n:Int))) (
   .el x1.1 (x1.n) y4.2.2.1 fun y5 =>
   .ql13 (y5.add (Int.toNat y4.2.2.1*(1:Nat))) fun y6 =>
   .rq ((0:Int)≤IntKind.i64.wrap (y1.2.1+y4.2.2.1)∧IntKind.i64.wrap (y1.2.1+y4.2.2.1)<(↑y4.1.1:Int)) <|
 .xs y4.1.2 ((IntKind.i64.wrap (y1.2.1+y4.2.2.1)).toNat*(1:Nat)) (.o (.i .i64)) fun y7 =>
   .rq ((1000000000:Int)≠(0:Int)) <|
 .rq ((0:Int)≤IntKind.i64.wrap (y1.2.1+y4.2.2.1)∧IntKind.i64.wrap (y1.2.1+y4.2.2.1)<(↑y4.1.1:Int)) <|
 .rq ((IntKind.i64.wrap (y1.2.1+y4.2.2.1)).toNat*(1:Nat)+[Value.int IntKind.i64 ((IntKind.i64.wrap (IntKind.i64.wrap (y7+IntKind.i64.wrap (y3*y6))+y4.2.1)).tmod (1000000000:Int))].length≤y4.1.2.length) <|
 .rq ((1000000000:Int)≠(0:Int)) <|
 .nx 1 [.a 3 y4.1.1 (setl y4.1.2 ((IntKind.i64.wrap (y1.2.1+y4.2.2.1)).toNat*(1:Nat)) [Value.int IntKind.i64 ((IntKind.i64.wrap (IntKind.i64.wrap (y7+IntKind.i64.wrap (y3*y6))+y4.2.1)).tmod (1000000000:Int))]),.v (.int .i64 (IntKind.i64.wrap ((IntKind.i64.wrap (IntKind.i64.wrap (y7+IntKind.i64.wrap (y3*y6))+y4.2.1)).tdiv (1000000000:Int)))),.v (.int .i64 (IntKind.i64.wrap (y4.2.2.1+(1:Int))))]) <|
 .rq ((0:Int)≤IntKind.i64.wrap (y1.2.1+(↑x1.n:Int))∧IntKind.i64.wrap (y1.2.1+(↑x1.n:Int))<(↑y4.1.1:Int)) <|
 .rq ((IntKind.i64.wrap (y1.2.1+(↑x1.n:Int))).toNat*(1:Nat)+[(Sh1.o (Sc.i IntKind.i64)).val y4.2.1].length≤y4.1.2.length) <|
 .nx 0 [.a 3 y4.1.1 (setl y4.1.2 ((IntKind.i64.wrap (y1.2.1+(↑x1.n:Int))).toNat*(1:Nat)) [(Sh1.o (Sc.i IntKind.i64)).val y4.2.1]),.v (.int .i64 (IntKind.i64.wrap (y1.2.1+(1:Int))))]) <|
 .fz y1.1.1 y1.1.2 3 fun b2 c2 =>
 .qc19 205 [.slice (some { block:=b2,off:=(0:Nat):Addr }) y1.1.1 (c2)] fun y3 =>
 .ret [Sc.val .l y3]
theorem fS_l02Mul x0 x1:qft aS_l02Mul 200 [Sc.val .l x0,Sc.val .l x1] (tS_l02Mul x0 x1) :=fitK (by kernel_rfl)
def tS_l04Add (x0:qy0) (x1:qy0):T :=
 .br (x0.1 == x1.1) (
  .rg <|
 .qc6 228 [Sc.val .l x0.2.1,Sc.val .l x1.2.1] fun y1 =>
  .qc21 187 [.bool x0.1,Sc.val .l y1] fun y2 =>
  .ret [qv0 y2]) <|
 .qc5 212 [Sc.val .l x0.2.1,Sc.val .l x1.2.1] fun y1 =>
 .br (decide (y1≥(0:Int))) (
  .rg <|
 .qc6 229 [Sc.val .l x0.2.1,Sc.val .l x1.2.1] fun y2 =>
  .qc21 187 [.bool x0.1,Sc.val .l y2] fun y3 =>
  .ret [qv0 y3]) <|
 .rg <|
 .qc6 229 [Sc.val .l x1.2.1,Sc.val .l x0.2.1] fun y2 =>
 .qc21 187 [.bool x1.1,Sc.val .l y2] fun y3 =>
 .ret [qv0 y3]
theorem fS_l04Add x0 x1:qft qa0 201 [qv0 x0,qv0 x1] (tS_l04Add x0 x1) :=fitK (by kernel_rfl)
def tS_l05Low (x0:Bool) (x1:SlV) (x2:SlV):T :=
 .qc19 205 [Sc.val .l x1] fun y1 =>
 .qc19 205 [Sc.val .l x2] fun y2 =>
 .br ((↑y2.n:Int) == (0:Int)) (
  .ret [qv1 ((false),nilS,nilS,()),.bool (false)]) <|
 .qc19 230 [Sc.val .l y1,Sc.val .l y2] fun y3 =>
 .qc7 231 [Sc.val .l y1,Sc.val .l y3] fun y4 =>
 .qc7 231 [Sc.val .l y2,Sc.val .l y3] fun y5 =>
 .br (decide ((↑y4.1.n:Int) > (18:Int))) (
  .ret [qv1 ((false),nilS,nilS,()),.bool (false)]) <|
 .br (decide ((↑y5.1.n:Int) > (18:Int))) (
  .ret [qv1 ((false),nilS,nilS,()),.bool (false)]) <|
 .qc21 187 [.bool x0,Sc.val .l y4.1] fun y6 =>
 .rd ({ a:=y5.1.1,n:=y5.1.n,c:=y5.1.c:SlV }) ((1:Nat)) fun y7 =>
 .rq (one y7=true∧((0:Nat)+y5.1.n)*(8:Nat)≤(140737488355328:Nat)∧(0:Nat)+y5.1.n≤(9223372036854775807:Nat)) <|
 .fz ((0:Nat)+y5.1.n) ([]++y7) 3 fun b8 c8 =>
 .ret [qv1 (y6.1,y6.2.1,(⟨(some { block:=b8,off:=(0:Nat):Addr }),((0:Nat)+y5.1.n),(c8)⟩:SlV),()),.bool (true)]
theorem fS_l05Low x0 x1 x2:qft qa0 202 [.bool x0,Sc.val .l x1,Sc.val .l x2] (tS_l05Low x0 x1 x2) :=fitK (by kernel_rfl)
def tS_l19Rat (x0:qy1):T :=
 .rg <|
 .es [] 3 fun b1 =>
 .ra ({ a:=x0.2.1.1,n:=x0.2.1.n,c:=x0.2.1.c:SlV }) ((1:Nat)) fun y2 =>
 .rq (one y2=true∧x0.2.1.n*(8:Nat)≤(140737488355328:Nat)∧x0.2.1.n≤(9223372036854775807:Nat)) <|
 .br (decide (x0.2.1.n=(0:Nat))) (
  .es [] 3 fun b3 =>
  .ra ({ a:=x0.2.2.1.1,n:=x0.2.2.1.n,c:=x0.2.2.1.c:SlV }) ((1:Nat)) fun y4 =>
  .rq (one y4=true∧x0.2.2.1.n*(8:Nat)≤(140737488355328:Nat)∧x0.2.2.1.n≤(9223372036854775807:Nat)) <|
 .br (decide (x0.2.2.1.n=(0:Nat))) (
   .ret [qv1 (x0.1,(⟨(some { block:=b1,off:=(0:Nat):Addr }),((0:Nat)),((0:Nat))⟩:SlV),(⟨(some { block:=b3,off:=(0:Nat):Addr }),((0:Nat)),((0:Nat))⟩:SlV),())]) <|
 .fz (x0.2.2.1.n) y4 3 fun b5 c5 =>
  .ret [qv1 (x0.1,(⟨(some { block:=b1,off:=(0:Nat):Addr }),((0:Nat)),((0:Nat))⟩:SlV),(⟨(some { block:=b5,off:=(0:Nat):Addr }),(x0.2.2.1.n),(c5)⟩:SlV),())]) <|
 .fz (x0.2.1.n) y2 3 fun b3 c3 =>
 .es [] 3 fun b4 =>
 .ra ({ a:=x0.2.2.1.1,n:=x0.2.2.1.n,c:=x0.2.2.1.c:SlV }) ((1:Nat)) fun y5 =>
 .rq (one y5=true∧x0.2.2.1.n*(8:Nat)≤(140737488355328:Nat)∧x0.2.2.1.n≤(9223372036854775807:Nat)) <|
 .br (decide (x0.2.2.1.n=(0:Nat))) (
  .ret [qv1 (x0.1,(⟨(some { block:=b3,off:=(0:Nat):Addr }),(x0.2.1.n),(c3)⟩:SlV),(⟨(some { block:=b4,off:=(0:Nat):Addr }),((0:Nat)),((0:Nat))⟩:SlV),())]) <|
 .fz (x0.2.2.1.n) y5 3 fun b6 c6 =>
 .ret [qv1 (x0.1,(⟨(some { block:=b3,off:=(0:Nat):Addr }),(x0.2.1.n),(c3)⟩:SlV),(⟨(some { block:=b6,off:=(0:Nat):Addr }),(x0.2.2.1.n),(c6)⟩:SlV),())]
theorem fS_l19Rat x0:qft qa0 203 [qv1 x0] (tS_l19Rat x0) :=fitK (by kernel_rfl)
def aS_l08Find:An:=⟨[(2,[.s 7,.c 2 0,.c 2 1,.c 2 2,.c 2 3],[.o (.o (.i .i64)),.o (.o (.s)),.o (.o (.s)),.o (.o (.i .i64)),.o (.o (.i .i64))])],[],[]⟩
def tS_l08Find (x0:ByteArray):T :=
 .qc19 232 [] fun y1 =>
 .lp [.o (.o (.i .i64)),.o (.o (.s)),.o (.o (.s)),.o (.o (.i .i64)),.o (.o (.i .i64))] [.v (.int .i64 0),.v (.string ({ data:={ toList:=[]:Array UInt8 }:ByteArray })),.v (.string ({ data:={ toList:=[]:Array UInt8 }:ByteArray })),.v (.int .i64 0),.v (.int .i64 0)] fun y2 =>
 .br (decide (y2.1<(↑y1.n:Int))) (
  .el y1.1 (y1.n) y2.1 fun y3 =>
  .ql46 (y3.add (Int.toNat y2.1*(4:Nat))) fun y4 =>
  .br (ByteArray.toList y4.1 == x0.toList) (
   .ret [qv9 y4]) <|
 .nx 0 [.v (.int .i64 (IntKind.i64.wrap (y2.1+(1:Int)))),.v (.string y2.2.1),.v (.string y2.2.2.1),.v (.int .i64 y2.2.2.2.1),.v (.int .i64 y2.2.2.2.2.1)]) <|
 .ret [qv9 (({ data:={ toList:=[]:Array UInt8 }:ByteArray }),({ data:={ toList:=[]:Array UInt8 }:ByteArray }),(((0:Int)):Int),(((0:Int)):Int),())]
theorem fS_l08Find x0:qft aS_l08Find 204 [.string x0] (tS_l08Find x0) :=fitK (by kernel_rfl)
def aS_l02Trim:An:=⟨[(2,[.s 3],[.o (.o (.i .i64))])],[],[]⟩
def tS_l02Trim (x0:SlV):T :=
 .lp [.o (.o (.i .i64))] [.v (.int .i64 ((↑x0.n:Int)))] fun y1 =>
 .br (decide (y1.1 > (0:Int))) (
  .el x0.1 (x0.n) (IntKind.i64.wrap (y1.1-(1:Int))) fun y2 =>
  .ql13 (y2.add ((IntKind.i64.wrap (y1.1-(1:Int))).toNat*(1:Nat))) fun y3 =>
  .br (y3 == (0:Int)) (
   .nx 0 [.v (.int .i64 (IntKind.i64.wrap (y1.1-(1:Int))))]) <|
 .rq ((0:Int)≤(0:Int)∧(0:Int)≤y1.1∧y1.1≤(↑x0.c:Int)∧(↑x0.c:Int)≤(↑x0.c:Int)) <|
 .ret [.slice (if (↑x0.c:Int).toNat=Int.toNat (0:Int) then x0.1 else Option.map (fun x=>x.add (Int.toNat (0:Int)*Go.Proofs.Tryz.prog.types[(3:Nat)].size)) x0.1) (Int.toNat y1.1-Int.toNat (0:Int)) ((↑x0.c:Int).toNat-Int.toNat (0:Int))]) <|
 .rq ((0:Int)≤(0:Int)∧(0:Int)≤y1.1∧y1.1≤(↑x0.c:Int)∧(↑x0.c:Int)≤(↑x0.c:Int)) <|
 .ret [.slice (if (↑x0.c:Int).toNat=Int.toNat (0:Int) then x0.1 else Option.map (fun x=>x.add (Int.toNat (0:Int)*Go.Proofs.Tryz.prog.types[(3:Nat)].size)) x0.1) (Int.toNat y1.1-Int.toNat (0:Int)) ((↑x0.c:Int).toNat-Int.toNat (0:Int))]
theorem fS_l02Trim x0:qft aS_l02Trim 205 [Sc.val .l x0] (tS_l02Trim x0) :=fitK (by kernel_rfl)
def aI_IsWord:An:=⟨[(4,[.s 3],[.o (.o (.i .i64))])],[],[]⟩
def tI_IsWord (x0:ByteArray):T :=
 .br (decide ((↑x0.size:Int)<(1:Int))) (
  .rF) <|
 .br (decide ((↑x0.size:Int) > (12:Int))) (
  .rF) <|
 .rq ((0:Int)≤(0:Int)∧(0:Int)<(↑x0.size:Int)) <|
 .qc18 233 [.int .u8 (at0 x0 (Int.toNat (0:Int)))] fun y1 =>
 .bF y1 <|
 .lp [.o (.o (.i .i64))] [.v (.int .i64 1)] fun y2 =>
 .br (decide (y2.1<(↑x0.size:Int))) (
  .rq ((0:Int)≤y2.1∧y2.1<(↑x0.size:Int)) <|
 .qc18 233 [.int .u8 (at0 x0 (Int.toNat y2.1))] fun y3 =>
  .bn y3 (.rq ((0:Int)≤y2.1∧y2.1<(↑x0.size:Int)) <|
 .qc18 234 [.int .u8 (at0 x0 (Int.toNat y2.1))] fun y4 =>
   .bF y4 <|
 .nx 0 [.v (.int .i64 (IntKind.i64.wrap (y2.1+(1:Int))))]) <|
 .nx 0 [.v (.int .i64 (IntKind.i64.wrap (y2.1+(1:Int))))]) <|
 .rT
theorem fI_IsWord x0:qft aI_IsWord 206 [.string x0] (tI_IsWord x0) :=fitK (by kernel_rfl)
def tI_RatSign (x0:qy1):T :=
 .qc18 116 [qv1 x0] fun y1 =>
 .bn y1 (.ret [.int .i64 0]) <|
 .qc5 118 [qv0 (x0.1,x0.2.1,())] fun y2 =>
 .ret [.int .i64 y2]
theorem fI_RatSign x0:qft qa0 207 [qv1 x0] (tI_RatSign x0) :=fitK (by kernel_rfl)
def tI_RateOk (x0:qy6):T :=
 .qc18 119 [.string x0.1] fun y1 =>
 .br y1 (
  .qc18 119 [.string x0.2.1] fun y2 =>
  .br y2 (
   .br (!ByteArray.toList x0.1 == ByteArray.toList x0.2.1) (
    .qc18 235 [qv7 x0.2.2] fun y3 =>
    .br y3 (
     .qc5 118 [qv0 (x0.2.2.1,x0.2.2.2.1,())] fun y4 =>
     .br (decide (y4 > (0:Int))) (
      .ret [.bool (decide ((↑x0.2.2.2.1.n:Int)≤(2:Int)))]) <|
 .rF) <|
 .rF) <|
 .rF) <|
 .rF) <|
 .rF
theorem fI_RateOk x0:qft qa0 208 [qv6 x0] (tI_RateOk x0) :=fitK (by kernel_rfl)
def tI_rateCopy (x0:qy6):T :=
 .rg <|
 .qc47 236 [qv7 x0.2.2] fun y1 =>
 .ret [qv6 (x0.1,x0.2.1,y1.1,y1.2.1,((y1.2.2.1):Int),())]
theorem fI_rateCopy x0:qft qa0 209 [qv6 x0] (tI_rateCopy x0) :=fitK (by kernel_rfl)
def aS_NatOk:An:=⟨[(2,[.s 7],[.o (.o (.i .i64))])],[],[]⟩
def tS_NatOk (x0:SlV):T :=
 .lp [.o (.o (.i .i64))] [.v (.int .i64 0)] fun y1 =>
 .br (decide (y1.1<(↑x0.n:Int))) (
  .el x0.1 (x0.n) y1.1 fun y2 =>
  .ql13 (y2.add (Int.toNat y1.1*(1:Nat))) fun y3 =>
  .qc18 129 [.int .i64 y3,.int .i64 0,.int .i64 999999999] fun y4 =>
  .bF y4 <|
 .nx 0 [.v (.int .i64 (IntKind.i64.wrap (y1.1+(1:Int))))]) <|
 .br (decide ((↑x0.n:Int)≤(50:Int))) (
  .br ((↑x0.n:Int) == (0:Int)) (
   .rT) <|
 .el x0.1 (x0.n) (IntKind.i64.wrap ((↑x0.n:Int)-(1:Int))) fun y2 =>
  .ql13 (y2.add ((IntKind.i64.wrap ((↑x0.n:Int)-(1:Int))).toNat*(1:Nat))) fun y3 =>
  .ret [.bool (y3 != (0:Int))]) <|
 .rF
theorem fS_NatOk x0:qft aS_NatOk 211 [Sc.val .l x0] (tS_NatOk x0) :=fitK (by kernel_rfl)
def aS_l02Cmp:An:=⟨[(6,[.s 5],[.o (.o (.i .i64))])],[],[]⟩
def tS_l02Cmp (x0:SlV) (x1:SlV):T :=
 .br ((↑x0.n:Int) != (↑x1.n:Int)) (
  .br (decide ((↑x0.n:Int)<(↑x1.n:Int))) (
   .rM) <|
 .ret [.int .i64 1]) <|
 .lp [.o (.o (.i .i64))] [.v (.int .i64 (IntKind.i64.wrap ((↑x0.n:Int)-(1:Int))))] fun y1 =>
 .br (decide (y1.1≥(0:Int))) (
  .rg <|
 .el x0.1 (x0.n) y1.1 fun y2 =>
  .ql34 (y2.add (Int.toNat y1.1*(1:Nat))) fun y3 =>
  .el x1.1 (x1.n) y1.1 fun y4 =>
  .ql34 (y4.add (Int.toNat y1.1*(1:Nat))) fun y5 =>
  .br (decide (y3<y5)) (
   .rM) <|
 .rg <|
 .el x0.1 (x0.n) y1.1 fun y6 =>
  .ql34 (y6.add (Int.toNat y1.1*(1:Nat))) fun y7 =>
  .el x1.1 (x1.n) y1.1 fun y8 =>
  .ql34 (y8.add (Int.toNat y1.1*(1:Nat))) fun y9 =>
  .br (decide (y7 > y9)) (
   .ret [.int .i64 1]) <|
 .nx 0 [.v (.int .i64 (IntKind.i64.wrap (y1.1-(1:Int))))]) <|
 .ret [.int .i64 0]
theorem fS_l02Cmp x0 x1:qft aS_l02Cmp 212 [Sc.val .l x0,Sc.val .l x1] (tS_l02Cmp x0 x1) :=fitK (by kernel_rfl)
def aS_NatGcd:An:=⟨[(5,[.s 5,.s 6],[.o (.o (.l)),.o (.o (.l))])],[],[]⟩
def tS_NatGcd (x0:SlV) (x1:SlV):T :=
 .qc18 211 [Sc.val .l x0] fun y1 =>
 .bn y1 (.ret [.slice none 0 0]) <|
 .qc18 211 [Sc.val .l x1] fun y2 =>
 .bn y2 (.ret [.slice none 0 0]) <|
 .rd ({ a:=x0.1,n:=x0.n,c:=x0.c:SlV }) ((1:Nat)) fun y3 =>
 .rq (one y3=true∧((0:Nat)+x0.n)*(8:Nat)≤(140737488355328:Nat)∧(0:Nat)+x0.n≤(9223372036854775807:Nat)) <|
 .rd ({ a:=x1.1,n:=x1.n,c:=x1.c:SlV }) ((1:Nat)) fun y4 =>
 .rq (one y4=true∧((0:Nat)+x1.n)*(8:Nat)≤(140737488355328:Nat)∧(0:Nat)+x1.n≤(9223372036854775807:Nat)) <|
 .fz ((0:Nat)+x0.n) ([]++y3) 3 fun b5 c5 =>
 .fz ((0:Nat)+x1.n) ([]++y4) 3 fun b6 c6 =>
 .lp [.o (.o (.l)),.o (.o (.l))] [.v (.slice (some { block:=b5,off:=(0:Nat):Addr }) ((0:Nat)+x0.n) (c5)),.v (.slice (some { block:=b6,off:=(0:Nat):Addr }) ((0:Nat)+x1.n) (c6))] fun y7 =>
 .br (decide ((↑y7.2.1.n:Int) > (0:Int))) (
  .qc7 231 [Sc.val .l y7.1,Sc.val .l y7.2.1] fun y8 =>
  .nx 0 [.v (Sc.val .l y7.2.1),.v (Sc.val .l y8.2.1)]) <|
 .ret [Sc.val .l y7.1]
theorem fS_NatGcd x0 x1:qft aS_NatGcd 213 [Sc.val .l x0,Sc.val .l x1] (tS_NatGcd x0 x1) :=fitK (by kernel_rfl)
def tS_DecOk (x0:qy7):T :=
 .qc18 177 [qv0 (x0.1,x0.2.1,())] fun y1 =>
 .br y1 (
  .br (decide ((↑x0.2.1.n:Int)≤(6:Int))) (
   .qc18 129 [.int .i64 x0.2.2.1,.int .i64 0,.int .i64 30] fun y2 =>
   .ret [.bool y2]) <|
 .rF) <|
 .rF
theorem fS_DecOk x0:qft qa0 214 [qv7 x0] (tS_DecOk x0) :=fitK (by kernel_rfl)
def tS_IntSign (x0:qy0):T :=
 .qc5 221 [qv0 x0,qv0 ((false),nilS,())] fun y1 =>
 .ret [.int .i64 y1]
theorem fS_IntSign x0:qft qa0 215 [qv0 x0] (tS_IntSign x0) :=fitK (by kernel_rfl)
def tS_IntCmp (x0:qy0) (x1:qy0):T :=
 .qc18 177 [qv0 x0] fun y1 =>
 .bn y1 (.ret [.int .i64 0]) <|
 .qc18 177 [qv0 x1] fun y2 =>
 .bn y2 (.ret [.int .i64 0]) <|
 .br x0.1 (
  .br (!x1.1) (
   .rM) <|
 .br (!x0.1) (
   .br x1.1 (
    .ret [.int .i64 1]) <|
 .br x0.1 (
    .qc5 212 [Sc.val .l x1.2.1,Sc.val .l x0.2.1] fun y3 =>
    .ret [.int .i64 y3]) <|
 .qc5 212 [Sc.val .l x0.2.1,Sc.val .l x1.2.1] fun y3 =>
   .ret [.int .i64 y3]) <|
 .br x0.1 (
   .qc5 212 [Sc.val .l x1.2.1,Sc.val .l x0.2.1] fun y3 =>
   .ret [.int .i64 y3]) <|
 .qc5 212 [Sc.val .l x0.2.1,Sc.val .l x1.2.1] fun y3 =>
  .ret [.int .i64 y3]) <|
 .br (!x0.1) (
  .br x1.1 (
   .ret [.int .i64 1]) <|
 .br x0.1 (
   .qc5 212 [Sc.val .l x1.2.1,Sc.val .l x0.2.1] fun y3 =>
   .ret [.int .i64 y3]) <|
 .qc5 212 [Sc.val .l x0.2.1,Sc.val .l x1.2.1] fun y3 =>
  .ret [.int .i64 y3]) <|
 .br x0.1 (
  .qc5 212 [Sc.val .l x1.2.1,Sc.val .l x0.2.1] fun y3 =>
  .ret [.int .i64 y3]) <|
 .qc5 212 [Sc.val .l x0.2.1,Sc.val .l x1.2.1] fun y3 =>
 .ret [.int .i64 y3]
theorem fS_IntCmp x0 x1:qft qa0 221 [qv0 x0,qv0 x1] (tS_IntCmp x0 x1) :=fitK (by kernel_rfl)
def tS_l02Cap (x0:SlV):T :=
 .qc19 205 [Sc.val .l x0] fun y1 =>
 .br (decide ((↑y1.n:Int) > (50:Int))) (
  .ret [.slice none 0 0]) <|
 .ret [Sc.val .l y1]
theorem fS_l02Cap x0:qft qa0 222 [Sc.val .l x0] (tS_l02Cap x0) :=fitK (by kernel_rfl)
def tS_l17Money (x0:qy2):T :=
 .rg <|
 .es [] 3 fun b1 =>
 .ra ({ a:=x0.2.2.1.1,n:=x0.2.2.1.n,c:=x0.2.2.1.c:SlV }) ((1:Nat)) fun y2 =>
 .rq (one y2=true∧x0.2.2.1.n*(8:Nat)≤(140737488355328:Nat)∧x0.2.2.1.n≤(9223372036854775807:Nat)) <|
 .br (decide (x0.2.2.1.n=(0:Nat))) (
  .ret [qv2 (x0.1,x0.2.1,(⟨(some { block:=b1,off:=(0:Nat):Addr }),((0:Nat)),((0:Nat))⟩:SlV),())]) <|
 .fz (x0.2.2.1.n) y2 3 fun b3 c3 =>
 .ret [qv2 (x0.1,x0.2.1,(⟨(some { block:=b3,off:=(0:Nat):Addr }),(x0.2.2.1.n),(c3)⟩:SlV),())]
theorem fS_l17Money x0:qft qa0 223 [qv2 x0] (tS_l17Money x0) :=fitK (by kernel_rfl)
def tS_l09Both (x0:qy2) (x1:qy2):T :=
 .qc18 128 [qv2 x0] fun y1 =>
 .br y1 (
  .qc18 128 [qv2 x1] fun y2 =>
  .br y2 (
   .ret [.bool (ByteArray.toList x0.1 == ByteArray.toList x1.1)]) <|
 .rF) <|
 .rF
theorem fS_l09Both x0 x1:qft qa0 224 [qv2 x0,qv2 x1] (tS_l09Both x0 x1) :=fitK (by kernel_rfl)
def tS_l09Make (x0:ByteArray) (x1:qy0):T :=
 .qc18 128 [qv2 (x0,x1.1,x1.2.1,())] fun y1 =>
 .bn y1 (.ret [qv2 (({ data:={ toList:=[]:Array UInt8 }:ByteArray }),(false),nilS,()),.bool (false)]) <|
 .ret [qv2 (x0,x1.1,x1.2.1,()),.bool (true)]
theorem fS_l09Make x0 x1:qft qa0 225 [.string x0,qv0 x1] (tS_l09Make x0 x1) :=fitK (by kernel_rfl)
def aS_l02Add:An:=⟨[(4,[.s 5,.s 6,.s 7],[.a 3,.o (.o (.i .i64)),.o (.o (.i .i64))])],[],[]⟩
def tS_l02Add (x0:SlV) (x1:SlV):T :=
 .lp [.a 3,.o (.o (.i .i64)),.o (.o (.i .i64))] [.a 3 ((0:Nat)) [],.v (.int .i64 0),.v (.int .i64 0)] fun y1 =>
 .br (decide (y1.2.2.1<(↑x0.n:Int))) (
  .br (decide (y1.2.2.1<(↑x0.n:Int))) (
   .el x0.1 (x0.n) y1.2.2.1 fun y2 =>
   .ql13 (y2.add (Int.toNat y1.2.2.1*(1:Nat))) fun y3 =>
   .br (decide (y1.2.2.1<(↑x1.n:Int))) (
    .el x1.1 (x1.n) y1.2.2.1 fun y4 =>
    .ql13 (y4.add (Int.toNat y1.2.2.1*(1:Nat))) fun y5 =>
    .rq ((1000000000:Int)≠(0:Int)) <|
 .rq ([Value.int IntKind.i64 ((IntKind.i64.wrap (IntKind.i64.wrap (y1.2.1+y3)+y5)).tmod (1000000000:Int))].length=(1:Nat)*(1:Nat)) <|
 .rq (one [Value.int IntKind.i64 ((IntKind.i64.wrap (IntKind.i64.wrap (y1.2.1+y3)+y5)).tmod (1000000000:Int))]=true∧(y1.1.1+(1:Nat))*(8:Nat)≤(140737488355328:Nat)∧y1.1.1+(1:Nat)≤(9223372036854775807:Nat)) <|
 .rq ((1000000000:Int)≠(0:Int)) <|
 .nx 0 [.a 3 (y1.1.1+(1:Nat)) (y1.1.2++[Value.int IntKind.i64 ((IntKind.i64.wrap (IntKind.i64.wrap (y1.2.1+y3)+y5)).tmod (1000000000:Int))]),.v (.int .i64 (IntKind.i64.wrap ((IntKind.i64.wrap (IntKind.i64.wrap (y1.2.1+y3)+y5)).tdiv (1000000000:Int)))),.v (.int .i64 (IntKind.i64.wrap (y1.2.2.1+(1:Int))))]) <|
 .rq ((1000000000:Int)≠(0:Int)) <|
 .rq ([Value.int IntKind.i64 ((IntKind.i64.wrap (y1.2.1+y3)).tmod (1000000000:Int))].length=(1:Nat)*(1:Nat)) <|
 .rq (one [Value.int IntKind.i64 ((IntKind.i64.wrap (y1.2.1+y3)).tmod (1000000000:Int))]=true∧(y1.1.1+(1:Nat))*(8:Nat)≤(140737488355328:Nat)∧y1.1.1+(1:Nat)≤(9223372036854775807:Nat)) <|
 .rq ((1000000000:Int)≠(0:Int)) <|
 .nx 0 [.a 3 (y1.1.1+(1:Nat)) (y1.1.2++[Value.int IntKind.i64 ((IntKind.i64.wrap (y1.2.1+y3)).tmod (1000000000:Int))]),.v (.int .i64 (IntKind.i64.wrap ((IntKind.i64.wrap (y1.2.1+y3)).tdiv (1000000000:Int)))),.v (.int .i64 (IntKind.i64.wrap (y1.2.2.1+(1:Int))))]) <|
 .br (decide (y1.2.2.1<(↑x1.n:Int))) (
   .el x1.1 (x1.n) y1.2.2.1 fun y2 =>
   .ql13 (y2.add (Int.toNat y1.2.2.1*(1:Nat))) fun y3 =>
   .rq ((1000000000:Int)≠(0:Int)) <|
 .rq ([Value.int IntKind.i64 ((IntKind.i64.wrap (y1.2.1+y3)).tmod (1000000000:Int))].length=(1:Nat)*(1:Nat)) <|
 .rq (one [Value.int IntKind.i64 ((IntKind.i64.wrap (y1.2.1+y3)).tmod (1000000000:Int))]=true∧(y1.1.1+(1:Nat))*(8:Nat)≤(140737488355328:Nat)∧y1.1.1+(1:Nat)≤(9223372036854775807:Nat)) <|
 .rq ((1000000000:Int)≠(0:Int)) <|
 .nx 0 [.a 3 (y1.1.1+(1:Nat)) (y1.1.2++[Value.int IntKind.i64 ((IntKind.i64.wrap (y1.2.1+y3)).tmod (1000000000:Int))]),.v (.int .i64 (IntKind.i64.wrap ((IntKind.i64.wrap (y1.2.1+y3)).tdiv (1000000000:Int)))),.v (.int .i64 (IntKind.i64.wrap (y1.2.2.1+(1:Int))))]) <|
 .rq ((1000000000:Int)≠(0:Int)) <|
 .rq ([Value.int IntKind.i64 (Int.tmod y1.2.1 (1000000000:Int))].length=(1:Nat)*(1:Nat)) <|
 .rq (one [Value.int IntKind.i64 (Int.tmod y1.2.1 (1000000000:Int))]=true∧(y1.1.1+(1:Nat))*(8:Nat)≤(140737488355328:Nat)∧y1.1.1+(1:Nat)≤(9223372036854775807:Nat)) <|
 .rq ((1000000000:Int)≠(0:Int)) <|
 .nx 0 [.a 3 (y1.1.1+(1:Nat)) (y1.1.2++[Value.int IntKind.i64 (Int.tmod y1.2.1 (1000000000:Int))]),.v (.int .i64 (IntKind.i64.wrap (Int.tdiv y1.2.1 (1000000000:Int)))),.v (.int .i64 (IntKind.i64.wrap (y1.2.2.1+(1:Int))))]) <|
 .br (decide (y1.2.2.1<(↑x1.n:Int))) (
  .br (decide (y1.2.2.1<(↑x0.n:Int))) (
   .el x0.1 (x0.n) y1.2.2.1 fun y2 =>
   .ql13 (y2.add (Int.toNat y1.2.2.1*(1:Nat))) fun y3 =>
   .br (decide (y1.2.2.1<(↑x1.n:Int))) (
    .el x1.1 (x1.n) y1.2.2.1 fun y4 =>
    .ql13 (y4.add (Int.toNat y1.2.2.1*(1:Nat))) fun y5 =>
    .rq ((1000000000:Int)≠(0:Int)) <|
 .rq ([Value.int IntKind.i64 ((IntKind.i64.wrap (IntKind.i64.wrap (y1.2.1+y3)+y5)).tmod (1000000000:Int))].length=(1:Nat)*(1:Nat)) <|
 .rq (one [Value.int IntKind.i64 ((IntKind.i64.wrap (IntKind.i64.wrap (y1.2.1+y3)+y5)).tmod (1000000000:Int))]=true∧(y1.1.1+(1:Nat))*(8:Nat)≤(140737488355328:Nat)∧y1.1.1+(1:Nat)≤(9223372036854775807:Nat)) <|
 .rq ((1000000000:Int)≠(0:Int)) <|
 .nx 0 [.a 3 (y1.1.1+(1:Nat)) (y1.1.2++[Value.int IntKind.i64 ((IntKind.i64.wrap (IntKind.i64.wrap (y1.2.1+y3)+y5)).tmod (1000000000:Int))]),.v (.int .i64 (IntKind.i64.wrap ((IntKind.i64.wrap (IntKind.i64.wrap (y1.2.1+y3)+y5)).tdiv (1000000000:Int)))),.v (.int .i64 (IntKind.i64.wrap (y1.2.2.1+(1:Int))))]) <|
 .rq ((1000000000:Int)≠(0:Int)) <|
 .rq ([Value.int IntKind.i64 ((IntKind.i64.wrap (y1.2.1+y3)).tmod (1000000000:Int))].length=(1:Nat)*(1:Nat)) <|
 .rq (one [Value.int IntKind.i64 ((IntKind.i64.wrap (y1.2.1+y3)).tmod (1000000000:Int))]=true∧(y1.1.1+(1:Nat))*(8:Nat)≤(140737488355328:Nat)∧y1.1.1+(1:Nat)≤(9223372036854775807:Nat)) <|
 .rq ((1000000000:Int)≠(0:Int)) <|
 .nx 0 [.a 3 (y1.1.1+(1:Nat)) (y1.1.2++[Value.int IntKind.i64 ((IntKind.i64.wrap (y1.2.1+y3)).tmod (1000000000:Int))]),.v (.int .i64 (IntKind.i64.wrap ((IntKind.i64.wrap (y1.2.1+y3)).tdiv (1000000000:Int)))),.v (.int .i64 (IntKind.i64.wrap (y1.2.2.1+(1:Int))))]) <|
 .br (decide (y1.2.2.1<(↑x1.n:Int))) (
   .el x1.1 (x1.n) y1.2.2.1 fun y2 =>
   .ql13 (y2.add (Int.toNat y1.2.2.1*(1:Nat))) fun y3 =>
   .rq ((1000000000:Int)≠(0:Int)) <|
 .rq ([Value.int IntKind.i64 ((IntKind.i64.wrap (y1.2.1+y3)).tmod (1000000000:Int))].length=(1:Nat)*(1:Nat)) <|
 .rq (one [Value.int IntKind.i64 ((IntKind.i64.wrap (y1.2.1+y3)).tmod (1000000000:Int))]=true∧(y1.1.1+(1:Nat))*(8:Nat)≤(140737488355328:Nat)∧y1.1.1+(1:Nat)≤(9223372036854775807:Nat)) <|
 .rq ((1000000000:Int)≠(0:Int)) <|
 .nx 0 [.a 3 (y1.1.1+(1:Nat)) (y1.1.2++[Value.int IntKind.i64 ((IntKind.i64.wrap (y1.2.1+y3)).tmod (1000000000:Int))]),.v (.int .i64 (IntKind.i64.wrap ((IntKind.i64.wrap (y1.2.1+y3)).tdiv (1000000000:Int)))),.v (.int .i64 (IntKind.i64.wrap (y1.2.2.1+(1:Int))))]) <|
 .rq ((1000000000:Int)≠(0:Int)) <|
 .rq ([Value.int IntKind.i64 (Int.tmod y1.2.1 (1000000000:Int))].length=(1:Nat)*(1:Nat)) <|
 .rq (one [Value.int IntKind.i64 (Int.tmod y1.2.1 (1000000000:Int))]=true∧(y1.1.1+(1:Nat))*(8:Nat)≤(140737488355328:Nat)∧y1.1.1+(1:Nat)≤(9223372036854775807:Nat)) <|
 .rq ((1000000000:Int)≠(0:Int)) <|
 .nx 0 [.a 3 (y1.1.1+(1:Nat)) (y1.1.2++[Value.int IntKind.i64 (Int.tmod y1.2.1 (1000000000:Int))]),.v (.int .i64 (IntKind.i64.wrap (Int.tdiv y1.2.1 (1000000000:Int)))),.v (.int .i64 (IntKind.i64.wrap (y1.2.2.1+(1:Int))))]) <|
 .br (decide (y1.2.1 > (0:Int))) (
  .br (decide (y1.2.2.1<(↑x0.n:Int))) (
   .el x0.1 (x0.n) y1.2.2.1 fun y2 =>
   .ql13 (y2.add (Int.toNat y1.2.2.1*(1:Nat))) fun y3 =>
   .br (decide (y1.2.2.1<(↑x1.n:Int))) (
    .el x1.1 (x1.n) y1.2.2.1 fun y4 =>
    .ql13 (y4.add (Int.toNat y1.2.2.1*(1:Nat))) fun y5 =>
    .rq ((1000000000:Int)≠(0:Int)) <|
 .rq ([Value.int IntKind.i64 ((IntKind.i64.wrap (IntKind.i64.wrap (y1.2.1+y3)+y5)).tmod (1000000000:Int))].length=(1:Nat)*(1:Nat)) <|
 .rq (one [Value.int IntKind.i64 ((IntKind.i64.wrap (IntKind.i64.wrap (y1.2.1+y3)+y5)).tmod (1000000000:Int))]=true∧(y1.1.1+(1:Nat))*(8:Nat)≤(140737488355328:Nat)∧y1.1.1+(1:Nat)≤(9223372036854775807:Nat)) <|
 .rq ((1000000000:Int)≠(0:Int)) <|
 .nx 0 [.a 3 (y1.1.1+(1:Nat)) (y1.1.2++[Value.int IntKind.i64 ((IntKind.i64.wrap (IntKind.i64.wrap (y1.2.1+y3)+y5)).tmod (1000000000:Int))]),.v (.int .i64 (IntKind.i64.wrap ((IntKind.i64.wrap (IntKind.i64.wrap (y1.2.1+y3)+y5)).tdiv (1000000000:Int)))),.v (.int .i64 (IntKind.i64.wrap (y1.2.2.1+(1:Int))))]) <|
 .rq ((1000000000:Int)≠(0:Int)) <|
 .rq ([Value.int IntKind.i64 ((IntKind.i64.wrap (y1.2.1+y3)).tmod (1000000000:Int))].length=(1:Nat)*(1:Nat)) <|
 .rq (one [Value.int IntKind.i64 ((IntKind.i64.wrap (y1.2.1+y3)).tmod (1000000000:Int))]=true∧(y1.1.1+(1:Nat))*(8:Nat)≤(140737488355328:Nat)∧y1.1.1+(1:Nat)≤(9223372036854775807:Nat)) <|
 .rq ((1000000000:Int)≠(0:Int)) <|
 .nx 0 [.a 3 (y1.1.1+(1:Nat)) (y1.1.2++[Value.int IntKind.i64 ((IntKind.i64.wrap (y1.2.1+y3)).tmod (1000000000:Int))]),.v (.int .i64 (IntKind.i64.wrap ((IntKind.i64.wrap (y1.2.1+y3)).tdiv (1000000000:Int)))),.v (.int .i64 (IntKind.i64.wrap (y1.2.2.1+(1:Int))))]) <|
 .br (decide (y1.2.2.1<(↑x1.n:Int))) (
   .el x1.1 (x1.n) y1.2.2.1 fun y2 =>
   .ql13 (y2.add (Int.toNat y1.2.2.1*(1:Nat))) fun y3 =>
   .rq ((1000000000:Int)≠(0:Int)) <|
 .rq ([Value.int IntKind.i64 ((IntKind.i64.wrap (y1.2.1+y3)).tmod (1000000000:Int))].length=(1:Nat)*(1:Nat)) <|
 .rq (one [Value.int IntKind.i64 ((IntKind.i64.wrap (y1.2.1+y3)).tmod (1000000000:Int))]=true∧(y1.1.1+(1:Nat))*(8:Nat)≤(140737488355328:Nat)∧y1.1.1+(1:Nat)≤(9223372036854775807:Nat)) <|
 .rq ((1000000000:Int)≠(0:Int)) <|
 .nx 0 [.a 3 (y1.1.1+(1:Nat)) (y1.1.2++[Value.int IntKind.i64 ((IntKind.i64.wrap (y1.2.1+y3)).tmod (1000000000:Int))]),.v (.int .i64 (IntKind.i64.wrap ((IntKind.i64.wrap (y1.2.1+y3)).tdiv (1000000000:Int)))),.v (.int .i64 (IntKind.i64.wrap (y1.2.2.1+(1:Int))))]) <|
 .rq ((1000000000:Int)≠(0:Int)) <|
 .rq ([Value.int IntKind.i64 (Int.tmod y1.2.1 (1000000000:Int))].length=(1:Nat)*(1:Nat)) <|
 .rq (one [Value.int IntKind.i64 (Int.tmod y1.2.1 (1000000000:Int))]=true∧(y1.1.1+(1:Nat))*(8:Nat)≤(140737488355328:Nat)∧y1.1.1+(1:Nat)≤(9223372036854775807:Nat)) <|
 .rq ((1000000000:Int)≠(0:Int)) <|
 .nx 0 [.a 3 (y1.1.1+(1:Nat)) (y1.1.2++[Value.int IntKind.i64 (Int.tmod y1.2.1 (1000000000:Int))]),.v (.int .i64 (IntKind.i64.wrap (Int.tdiv y1.2.1 (1000000000:Int)))),.v (.int .i64 (IntKind.i64.wrap (y1.2.2.1+(1:Int))))]) <|
 .fz y1.1.1 y1.1.2 3 fun b2 c2 =>
 .ret [.slice (some { block:=b2,off:=(0:Nat):Addr }) y1.1.1 (c2)]
theorem fS_l02Add x0 x1:qft aS_l02Add 228 [Sc.val .l x0,Sc.val .l x1] (tS_l02Add x0 x1) :=fitK (by kernel_rfl)
def aS_l02Sub:An:=⟨[(4,[.s 5,.s 6,.s 12],[.a 3,.o (.o (.i .i64)),.o (.o (.i .i64))])],[],[]⟩
def tS_l02Sub (x0:SlV) (x1:SlV):T :=
 .lp [.a 3,.o (.o (.i .i64)),.o (.o (.i .i64))] [.a 3 ((0:Nat)) [],.v (.int .i64 0),.v (.int .i64 0)] fun y1 =>
 .br (decide (y1.2.2.1<(↑x0.n:Int))) (
  .el x0.1 (x0.n) y1.2.2.1 fun y2 =>
  .ql13 (y2.add (Int.toNat y1.2.2.1*(1:Nat))) fun y3 =>
  .br (decide (y1.2.2.1<(↑x1.n:Int))) (
   .el x1.1 (x1.n) y1.2.2.1 fun y4 =>
   .ql13 (y4.add (Int.toNat y1.2.2.1*(1:Nat))) fun y5 =>
   .br (decide (IntKind.i64.wrap (IntKind.i64.wrap (y3-y1.2.1)-y5)<(0:Int))) (
    .rq ([Value.int IntKind.i64 (IntKind.i64.wrap (IntKind.i64.wrap (IntKind.i64.wrap (y3-y1.2.1)-y5)+(1000000000:Int)))].length=(1:Nat)*(1:Nat)) <|
 .rq (one [Value.int IntKind.i64 (IntKind.i64.wrap (IntKind.i64.wrap (IntKind.i64.wrap (y3-y1.2.1)-y5)+(1000000000:Int)))]=true∧(y1.1.1+(1:Nat))*(8:Nat)≤(140737488355328:Nat)∧y1.1.1+(1:Nat)≤(9223372036854775807:Nat)) <|
 .nx 0 [.a 3 (y1.1.1+(1:Nat)) (y1.1.2++[Value.int IntKind.i64 (IntKind.i64.wrap (IntKind.i64.wrap (IntKind.i64.wrap (y3-y1.2.1)-y5)+(1000000000:Int)))]),.v (.int .i64 1),.v (.int .i64 (IntKind.i64.wrap (y1.2.2.1+(1:Int))))]) <|
 .rq ([Value.int IntKind.i64 (IntKind.i64.wrap (IntKind.i64.wrap (y3-y1.2.1)-y5))].length=(1:Nat)*(1:Nat)) <|
 .rq (one [Value.int IntKind.i64 (IntKind.i64.wrap (IntKind.i64.wrap (y3-y1.2.1)-y5))]=true∧(y1.1.1+(1:Nat))*(8:Nat)≤(140737488355328:Nat)∧y1.1.1+(1:Nat)≤(9223372036854775807:Nat)) <|
 .nx 0 [.a 3 (y1.1.1+(1:Nat)) (y1.1.2++[Value.int IntKind.i64 (IntKind.i64.wrap (IntKind.i64.wrap (y3-y1.2.1)-y5))]),.v (.int .i64 0),.v (.int .i64 (IntKind.i64.wrap (y1.2.2.1+(1:Int))))]) <|
 .br (decide (IntKind.i64.wrap (y3-y1.2.1)<(0:Int))) (
   .rq ([Value.int IntKind.i64 (IntKind.i64.wrap (IntKind.i64.wrap (y3-y1.2.1)+(1000000000:Int)))].length=(1:Nat)*(1:Nat)) <|
 .rq (one [Value.int IntKind.i64 (IntKind.i64.wrap (IntKind.i64.wrap (y3-y1.2.1)+(1000000000:Int)))]=true∧(y1.1.1+(1:Nat))*(8:Nat)≤(140737488355328:Nat)∧y1.1.1+(1:Nat)≤(9223372036854775807:Nat)) <|
 .nx 0 [.a 3 (y1.1.1+(1:Nat)) (y1.1.2++[Value.int IntKind.i64 (IntKind.i64.wrap (IntKind.i64.wrap (y3-y1.2.1)+(1000000000:Int)))]),.v (.int .i64 1),.v (.int .i64 (IntKind.i64.wrap (y1.2.2.1+(1:Int))))]) <|
 .rq ([Value.int IntKind.i64 (IntKind.i64.wrap (y3-y1.2.1))].length=(1:Nat)*(1:Nat)) <|
 .rq (one [Value.int IntKind.i64 (IntKind.i64.wrap (y3-y1.2.1))]=true∧(y1.1.1+(1:Nat))*(8:Nat)≤(140737488355328:Nat)∧y1.1.1+(1:Nat)≤(9223372036854775807:Nat)) <|
 .nx 0 [.a 3 (y1.1.1+(1:Nat)) (y1.1.2++[Value.int IntKind.i64 (IntKind.i64.wrap (y3-y1.2.1))]),.v (.int .i64 0),.v (.int .i64 (IntKind.i64.wrap (y1.2.2.1+(1:Int))))]) <|
 .fz y1.1.1 y1.1.2 3 fun b2 c2 =>
 .qc19 205 [.slice (some { block:=b2,off:=(0:Nat):Addr }) y1.1.1 (c2)] fun y3 =>
 .ret [Sc.val .l y3]
theorem fS_l02Sub x0 x1:qft aS_l02Sub 229 [Sc.val .l x0,Sc.val .l x1] (tS_l02Sub x0 x1) :=fitK (by kernel_rfl)
def aS_l05Gcd:An:=⟨[(3,[.s 5,.s 6],[.o (.o (.l)),.o (.o (.l))])],[],[]⟩
def tS_l05Gcd (x0:SlV) (x1:SlV):T :=
 .lp [.o (.o (.l)),.o (.o (.l))] [.v (Sc.val .l x0),.v (Sc.val .l x1)] fun y1 =>
 .br (decide ((↑y1.2.1.n:Int) > (0:Int))) (
  .qc7 231 [Sc.val .l y1.1,Sc.val .l y1.2.1] fun y2 =>
  .nx 0 [.v (Sc.val .l y1.2.1),.v (Sc.val .l y2.2.1)]) <|
 .ret [Sc.val .l y1.1]
theorem fS_l05Gcd x0 x1:qft aS_l05Gcd 230 [Sc.val .l x0,Sc.val .l x1] (tS_l05Gcd x0 x1) :=fitK (by kernel_rfl)
def aS_l03Div:An:=⟨[(7,[.s 8,.s 9,.s 10],[.a 3,.o (.o (.l)),.o (.o (.i .i64))])],[],[]⟩
def tS_l03Div (x0:SlV) (x1:SlV):T :=
 .br ((↑x1.n:Int) == (1:Int)) (
  .el x1.1 (x1.n) ((0:Int)) fun y1 =>
  .ql13 (y1.add (Int.toNat (0:Int)*(1:Nat))) fun y2 =>
  .qc28 240 [Sc.val .l x0,.int .i64 y2] fun y3 =>
  .qc19 158 [.int .i64 y3.2.1] fun y4 =>
  .ret [Sc.val .l y3.1,Sc.val .l y4]) <|
 .rq ((0:Int)≤(↑x0.n:Int)∧(↑x0.n:Int)≤(↑x0.n:Int)∧(↑(8:Nat):Int)*(↑x0.n:Int)≤(281474976710656:Int)∧(↑x0.n:Int)≤(9223372036854775807:Int)) <|
 .fz ((0:Nat)) [] 3 fun b1 c1 =>
 .lp [.a 3,.o (.o (.l)),.o (.o (.i .i64))] [.a 3 ((↑x0.n:Int).toNat) ((madeCells { toList:=[Value.int IntKind.i64 (0:Int)]:Array Value } ((↑x0.n:Int).toNat*(1:Nat))).toList),.v (.slice (some { block:=b1,off:=(0:Nat):Addr }) ((0:Nat)) (c1)),.v (.int .i64 (IntKind.i64.wrap ((↑x0.n:Int)-(1:Int))))] fun y2 =>
 .br (decide (y2.2.2.1≥(0:Int))) (
  .el x0.1 (x0.n) y2.2.2.1 fun y3 =>
  .ql13 (y3.add (Int.toNat y2.2.2.1*(1:Nat))) fun y4 =>
  .rd ({ a:=y2.2.1.1,n:=y2.2.1.n,c:=y2.2.1.c:SlV }) ((1:Nat)) fun y5 =>
  .rq (one y5=true∧((1:Nat)+y2.2.1.n)*(8:Nat)≤(140737488355328:Nat)∧(1:Nat)+y2.2.1.n≤(9223372036854775807:Nat)) <|
 .fz ((1:Nat)+y2.2.1.n) ([Value.int IntKind.i64 y4]++y5) 3 fun b6 c6 =>
  .qc19 205 [.slice (some { block:=b6,off:=(0:Nat):Addr }) ((1:Nat)+y2.2.1.n) (c6)] fun y7 =>
  .qc5 212 [Sc.val .l y7,Sc.val .l x1] fun y8 =>
  .br (decide (y8<(0:Int))) (
   .nx 0 [.a 3 y2.1.1 y2.1.2,.v (Sc.val .l y7),.v (.int .i64 (IntKind.i64.wrap (y2.2.2.1-(1:Int))))]) <|
 .qc5 241 [Sc.val .l y7,Sc.val .l x1] fun y9 =>
  .rq ((0:Int)≤y2.2.2.1∧y2.2.2.1<(↑y2.1.1:Int)) <|
 .rq (Int.toNat y2.2.2.1*(1:Nat)+[Value.int IntKind.i64 y9].length≤y2.1.2.length) <|
 .qc19 158 [.int .i64 y9] fun y10 =>
  .qc19 200 [Sc.val .l x1,Sc.val .l y10] fun y11 =>
  .qc19 229 [Sc.val .l y7,Sc.val .l y11] fun y12 =>
  .nx 0 [.a 3 y2.1.1 (setl y2.1.2 (Int.toNat y2.2.2.1*(1:Nat)) [Value.int IntKind.i64 y9]),.v (Sc.val .l y12),.v (.int .i64 (IntKind.i64.wrap (y2.2.2.1-(1:Int))))]) <|
 .fz y2.1.1 y2.1.2 3 fun b3 c3 =>
 .qc19 205 [.slice (some { block:=b3,off:=(0:Nat):Addr }) y2.1.1 (c3)] fun y4 =>
 .ret [Sc.val .l y4,Sc.val .l y2.2.1]
theorem fS_l03Div x0 x1:qft aS_l03Div 231 [Sc.val .l x0,Sc.val .l x1] (tS_l03Div x0 x1) :=fitK (by kernel_rfl)
def tS_l08Table :T :=
 .fz ((20:Nat)) [.string ({ data:={ toList:=[(65:UInt8),(85:UInt8),(68:UInt8)]:Array UInt8 }:ByteArray }),.string ({ data:={ toList:=[(48:UInt8),(51:UInt8),(54:UInt8)]:Array UInt8 }:ByteArray }),.int .i64 2,.int .i64 5,.string ({ data:={ toList:=[(66:UInt8),(72:UInt8),(68:UInt8)]:Array UInt8 }:ByteArray }),.string ({ data:={ toList:=[(48:UInt8),(52:UInt8),(56:UInt8)]:Array UInt8 }:ByteArray }),.int .i64 3,.int .i64 5,.string ({ data:={ toList:=[(67:UInt8),(65:UInt8),(68:UInt8)]:Array UInt8 }:ByteArray }),.string ({ data:={ toList:=[(49:UInt8),(50:UInt8),(52:UInt8)]:Array UInt8 }:ByteArray }),.int .i64 2,.int .i64 5,.string ({ data:={ toList:=[(67:UInt8),(72:UInt8),(70:UInt8)]:Array UInt8 }:ByteArray }),.string ({ data:={ toList:=[(55:UInt8),(53:UInt8),(54:UInt8)]:Array UInt8 }:ByteArray }),.int .i64 2,.int .i64 5,.string ({ data:={ toList:=[(67:UInt8),(76:UInt8),(70:UInt8)]:Array UInt8 }:ByteArray }),.string ({ data:={ toList:=[(57:UInt8),(57:UInt8),(48:UInt8)]:Array UInt8 }:ByteArray }),.int .i64 4,.int .i64 1,.string ({ data:={ toList:=[(67:UInt8),(90:UInt8),(75:UInt8)]:Array UInt8 }:ByteArray }),.string ({ data:={ toList:=[(50:UInt8),(48:UInt8),(51:UInt8)]:Array UInt8 }:ByteArray }),.int .i64 2,.int .i64 100,.string ({ data:={ toList:=[(68:UInt8),(75:UInt8),(75:UInt8)]:Array UInt8 }:ByteArray }),.string ({ data:={ toList:=[(50:UInt8),(48:UInt8),(56:UInt8)]:Array UInt8 }:ByteArray }),.int .i64 2,.int .i64 50,.string ({ data:={ toList:=[(69:UInt8),(85:UInt8),(82:UInt8)]:Array UInt8 }:ByteArray }),.string ({ data:={ toList:=[(57:UInt8),(55:UInt8),(56:UInt8)]:Array UInt8 }:ByteArray }),.int .i64 2,.int .i64 1,.string ({ data:={ toList:=[(71:UInt8),(66:UInt8),(80:UInt8)]:Array UInt8 }:ByteArray }),.string ({ data:={ toList:=[(56:UInt8),(50:UInt8),(54:UInt8)]:Array UInt8 }:ByteArray }),.int .i64 2,.int .i64 1,.string ({ data:={ toList:=[(72:UInt8),(85:UInt8),(70:UInt8)]:Array UInt8 }:ByteArray }),.string ({ data:={ toList:=[(51:UInt8),(52:UInt8),(56:UInt8)]:Array UInt8 }:ByteArray }),.int .i64 2,.int .i64 500,.string ({ data:={ toList:=[(73:UInt8),(83:UInt8),(75:UInt8)]:Array UInt8 }:ByteArray }),.string ({ data:={ toList:=[(51:UInt8),(53:UInt8),(50:UInt8)]:Array UInt8 }:ByteArray }),.int .i64 0,.int .i64 1,.string ({ data:={ toList:=[(74:UInt8),(80:UInt8),(89:UInt8)]:Array UInt8 }:ByteArray }),.string ({ data:={ toList:=[(51:UInt8),(57:UInt8),(50:UInt8)]:Array UInt8 }:ByteArray }),.int .i64 0,.int .i64 1,.string ({ data:={ toList:=[(75:UInt8),(82:UInt8),(87:UInt8)]:Array UInt8 }:ByteArray }),.string ({ data:={ toList:=[(52:UInt8),(49:UInt8),(48:UInt8)]:Array UInt8 }:ByteArray }),.int .i64 0,.int .i64 10,.string ({ data:={ toList:=[(75:UInt8),(87:UInt8),(68:UInt8)]:Array UInt8 }:ByteArray }),.string ({ data:={ toList:=[(52:UInt8),(49:UInt8),(52:UInt8)]:Array UInt8 }:ByteArray }),.int .i64 3,.int .i64 5,.string ({ data:={ toList:=[(78:UInt8),(79:UInt8),(75:UInt8)]:Array UInt8 }:ByteArray }),.string ({ data:={ toList:=[(53:UInt8),(55:UInt8),(56:UInt8)]:Array UInt8 }:ByteArray }),.int .i64 2,.int .i64 100,.string ({ data:={ toList:=[(78:UInt8),(90:UInt8),(68:UInt8)]:Array UInt8 }:ByteArray }),.string ({ data:={ toList:=[(53:UInt8),(53:UInt8),(52:UInt8)]:Array UInt8 }:ByteArray }),.int .i64 2,.int .i64 10,.string ({ data:={ toList:=[(80:UInt8),(76:UInt8),(78:UInt8)]:Array UInt8 }:ByteArray }),.string ({ data:={ toList:=[(57:UInt8),(56:UInt8),(53:UInt8)]:Array UInt8 }:ByteArray }),.int .i64 2,.int .i64 1,.string ({ data:={ toList:=[(83:UInt8),(69:UInt8),(75:UInt8)]:Array UInt8 }:ByteArray }),.string ({ data:={ toList:=[(55:UInt8),(53:UInt8),(50:UInt8)]:Array UInt8 }:ByteArray }),.int .i64 2,.int .i64 100,.string ({ data:={ toList:=[(84:UInt8),(78:UInt8),(68:UInt8)]:Array UInt8 }:ByteArray }),.string ({ data:={ toList:=[(55:UInt8),(56:UInt8),(56:UInt8)]:Array UInt8 }:ByteArray }),.int .i64 3,.int .i64 10,.string ({ data:={ toList:=[(85:UInt8),(83:UInt8),(68:UInt8)]:Array UInt8 }:ByteArray }),.string ({ data:={ toList:=[(56:UInt8),(52:UInt8),(48:UInt8)]:Array UInt8 }:ByteArray }),.int .i64 2,.int .i64 1] 245 fun b1 c1 =>
 .ret [.slice (some { block:=b1,off:=(0:Nat):Addr }) ((20:Nat)) (c1)]
theorem fS_l08Table :qft qa0 232 [] (tS_l08Table ) :=fitK (by kernel_rfl)
def tI_isLower (x0:Int):T :=
 .br (decide (x0≥(97:Int))) (
  .ret [.bool (decide (x0≤(122:Int)))]) <|
 .rF
theorem fI_isLower x0:qft qa0 233 [.int .u8 x0] (tI_isLower x0) :=fitK (by kernel_rfl)
def tI_isDigit (x0:Int):T :=
 .br (decide (x0≥(48:Int))) (
  .ret [.bool (decide (x0≤(57:Int)))]) <|
 .rF
theorem fI_isDigit x0:qft qa0 234 [.int .u8 x0] (tI_isDigit x0) :=fitK (by kernel_rfl)
def tI_DecOk (x0:qy7):T :=
 .qc18 62 [qv0 (x0.1,x0.2.1,())] fun y1 =>
 .br y1 (
  .br (decide ((↑x0.2.1.n:Int)≤(6:Int))) (
   .qc18 242 [.int .i64 x0.2.2.1] fun y2 =>
   .ret [.bool y2]) <|
 .rF) <|
 .rF
theorem fI_DecOk x0:qft qa0 235 [qv7 x0] (tI_DecOk x0) :=fitK (by kernel_rfl)
def tI_decCopy (x0:qy7):T :=
 .rg <|
 .qc11 66 [qv0 (x0.1,x0.2.1,())] fun y1 =>
 .ret [qv7 (y1.1,y1.2.1,((x0.2.2.1):Int),())]
theorem fI_decCopy x0:qft qa0 236 [qv7 x0] (tI_decCopy x0) :=fitK (by kernel_rfl)
def aS_l03Small:An:=⟨[(4,[.s 6,.s 7,.s 8],[.a 3,.o (.o (.i .i64)),.o (.o (.i .i64))])],[],[]⟩
def tS_l03Small (x0:SlV) (x1:Int):T :=
 .rq ((0:Int)≤(↑x0.n:Int)∧(↑x0.n:Int)≤(↑x0.n:Int)∧(↑(8:Nat):Int)*(↑x0.n:Int)≤(281474976710656:Int)∧(↑x0.n:Int)≤(9223372036854775807:Int)) <|
 .lp [.a 3,.o (.o (.i .i64)),.o (.o (.i .i64))] [.a 3 ((↑x0.n:Int).toNat) ((madeCells { toList:=[Value.int IntKind.i64 (0:Int)]:Array Value } ((↑x0.n:Int).toNat*(1:Nat))).toList),.v (.int .i64 0),.v (.int .i64 (IntKind.i64.wrap ((↑x0.n:Int)-(1:Int))))] fun y1 =>
 .br (decide (y1.2.2.1≥(0:Int))) (
  .el x0.1 (x0.n) y1.2.2.1 fun y2 =>
  .ql13 (y2.add (Int.toNat y1.2.2.1*(1:Nat))) fun y3 =>
  .rq (x1≠(0:Int)) <|
 .rq ((0:Int)≤y1.2.2.1∧y1.2.2.1<(↑y1.1.1:Int)) <|
 .rq (Int.toNat y1.2.2.1*(1:Nat)+[Value.int IntKind.i64 (IntKind.i64.wrap ((IntKind.i64.wrap (IntKind.i64.wrap (y1.2.1*(1000000000:Int))+y3)).tdiv x1))].length≤y1.1.2.length) <|
 .rq (x1≠(0:Int)) <|
 .nx 0 [.a 3 y1.1.1 (setl y1.1.2 (Int.toNat y1.2.2.1*(1:Nat)) [Value.int IntKind.i64 (IntKind.i64.wrap ((IntKind.i64.wrap (IntKind.i64.wrap (y1.2.1*(1000000000:Int))+y3)).tdiv x1))]),.v (.int .i64 ((IntKind.i64.wrap (IntKind.i64.wrap (y1.2.1*(1000000000:Int))+y3)).tmod x1)),.v (.int .i64 (IntKind.i64.wrap (y1.2.2.1-(1:Int))))]) <|
 .fz y1.1.1 y1.1.2 3 fun b2 c2 =>
 .qc19 205 [.slice (some { block:=b2,off:=(0:Nat):Addr }) y1.1.1 (c2)] fun y3 =>
 .ret [Sc.val .l y3,.int .i64 y1.2.1]
theorem fS_l03Small x0 x1:qft aS_l03Small 240 [Sc.val .l x0,.int .i64 x1] (tS_l03Small x0 x1) :=fitK (by kernel_rfl)
def aS_l03Digit:An:=⟨[(3,[.s 5,.s 6],[.o (.o (.i .i64)),.o (.o (.i .i64))])],[],[]⟩
def tS_l03Digit (x0:SlV) (x1:SlV):T :=
 .lp [.o (.o (.i .i64)),.o (.o (.i .i64))] [.v (.int .i64 0),.v (.int .i64 999999999)] fun y1 =>
 .br (decide (y1.1<y1.2.1)) (
  .rq ((2:Int)≠(0:Int)) <|
 .qc19 158 [.int .i64 (IntKind.i64.wrap ((IntKind.i64.wrap (IntKind.i64.wrap (y1.1+y1.2.1)+(1:Int))).tdiv (2:Int)))] fun y2 =>
  .qc19 200 [Sc.val .l x1,Sc.val .l y2] fun y3 =>
  .qc5 212 [Sc.val .l y3,Sc.val .l x0] fun y4 =>
  .br (decide (y4≤(0:Int))) (
   .nx 0 [.v (.int .i64 (IntKind.i64.wrap ((IntKind.i64.wrap (IntKind.i64.wrap (y1.1+y1.2.1)+(1:Int))).tdiv (2:Int)))),.v (.int .i64 y1.2.1)]) <|
 .nx 0 [.v (.int .i64 y1.1),.v (.int .i64 (IntKind.i64.wrap (IntKind.i64.wrap ((IntKind.i64.wrap (IntKind.i64.wrap (y1.1+y1.2.1)+(1:Int))).tdiv (2:Int))-(1:Int))))]) <|
 .ret [.int .i64 y1.1]
theorem fS_l03Digit x0 x1:qft aS_l03Digit 241 [Sc.val .l x0,Sc.val .l x1] (tS_l03Digit x0 x1) :=fitK (by kernel_rfl)
def tI_isScale (x0:Int):T :=
 .br (decide (x0≥(0:Int))) (
  .ret [.bool (decide (x0≤(30:Int)))]) <|
 .rF
theorem fI_isScale x0:qft qa0 242 [.int .i64 x0] (tI_isScale x0) :=fitK (by kernel_rfl)
def tI_opCash__run (x0:ByteArray × Int × PUnit) (x1:qy4):T :=
 .qc18 206 [.string x0.1] fun y1 =>
 .bn y1 (.ret [qv4 (nilS,nilS,({ data:={ toList:=[]:Array UInt8 }:ByteArray }),nilS,()),.int .i64 1]) <|
 .qc18 261 [.int .i64 x0.2.1] fun y2 =>
 .bn y2 (.ret [qv4 (nilS,nilS,({ data:={ toList:=[]:Array UInt8 }:ByteArray }),nilS,()),.int .i64 1]) <|
 .qc2 7 [qv3 (x1.1,()),.string x0.1] fun y3 =>
 .bn y3.2.1 (.ret [qv4 (nilS,nilS,({ data:={ toList:=[]:Array UInt8 }:ByteArray }),nilS,()),.int .i64 3]) <|
 .rg <|
 .qc3 10 [.string y3.1.1] fun y4 =>
 .qc48 262 [qv0 y3.1.2,.int .i64 y4,.int .i64 x0.2.1] fun y5 =>
 .qc2 52 [.string y3.1.1,qv0 y5.1] fun y6 =>
 .bn y5.2.1 (.ret [qv4 (nilS,nilS,({ data:={ toList:=[]:Array UInt8 }:ByteArray }),nilS,()),.int .i64 8]) <|
 .bn y6.2.1 (.ret [qv4 (nilS,nilS,({ data:={ toList:=[]:Array UInt8 }:ByteArray }),nilS,()),.int .i64 8]) <|
 .rg <|
 .qc3 43 [qv3 (x1.1,()),.string x0.1] fun y7 =>
 .el x1.1.1 (x1.1.n) y7 fun y8 =>
 .st ((y8.add (y7.toNat*(4:Nat))).add (1:Nat)) [.string y6.1.1,.bool y6.1.2.1,Sc.val .l y6.1.2.2.1] <|
 .rg <|
 .qc11 54 [qv0 y5.1] fun y9 =>
 .qc21 53 [qv0 y3.1.2,qv0 y9] fun y10 =>
 .qc10 263 [qv0 y10] fun y11 =>
 .bn y11.2.1 (.ret [qv4 (nilS,nilS,({ data:={ toList:=[]:Array UInt8 }:ByteArray }),nilS,()),.int .i64 8]) <|
 .qc4 264 [qv4 x1,.string y3.1.1,qv1 y11.1] fun y12 =>
 .ret [qv4 y12.1,.int .i64 y12.2.1]
theorem fI_opCash__run x0 x1:qft qa0 260 [qv8 x0,qv4 x1] (tI_opCash__run x0 x1) :=fitK (by kernel_rfl)
def tI_isMode (x0:Int):T :=
 .br (decide (x0≥(0:Int))) (
  .ret [.bool (decide (x0≤(6:Int)))]) <|
 .rF
theorem fI_isMode x0:qft qa0 261 [.int .i64 x0] (tI_isMode x0) :=fitK (by kernel_rfl)
def tI_RoundTo (x0:qy0) (x1:Int) (x2:Int):T :=
 .qc18 62 [qv0 x0] fun y1 =>
 .bn y1 (.ret [qv0 ((false),nilS,()),.bool (false)]) <|
 .br (decide ((↑x0.2.1.n:Int) > (18:Int))) (
  .ret [qv0 ((false),nilS,()),.bool (false)]) <|
 .br (decide (x1<(1:Int))) (
  .ret [qv0 ((false),nilS,()),.bool (false)]) <|
 .br (decide (x1 > (1000000:Int))) (
  .ret [qv0 ((false),nilS,()),.bool (false)]) <|
 .qc18 261 [.int .i64 x2] fun y2 =>
 .bn y2 (.ret [qv0 ((false),nilS,()),.bool (false)]) <|
 .qc19 12 [.int .i64 x1] fun y3 =>
 .qc21 265 [qv0 x0,Sc.val .l y3,.int .i64 x2] fun y4 =>
 .rg <|
 .qc6 110 [Sc.val .l y4.2.1,Sc.val .l y3] fun y5 =>
 .qc21 113 [.bool y4.1,Sc.val .l y5] fun y6 =>
 .ret [qv0 y6,.bool (true)]
theorem fI_RoundTo x0 x1 x2:qft qa0 262 [qv0 x0,.int .i64 x1,.int .i64 x2] (tI_RoundTo x0 x1 x2) :=fitK (by kernel_rfl)
def tI_RatInt (x0:qy0):T :=
 .rg <|
 .qc11 19 [.int .i64 1] fun y1 =>
 .qc10 266 [qv0 x0,qv0 y1] fun y2 =>
 .ret [qv1 y2.1,.bool y2.2.1]
theorem fI_RatInt x0:qft qa0 263 [qv0 x0] (tI_RatInt x0) :=fitK (by kernel_rfl)
def tI_keep (x0:qy4) (x1:ByteArray) (x2:qy1):T :=
 .qc25 267 [Sc.val .l x0.2.1,.string x1,qv1 x2] fun y1 =>
 .bn y1.2.1 (.ret [qv4 (nilS,nilS,({ data:={ toList:=[]:Array UInt8 }:ByteArray }),nilS,()),.int .i64 8]) <|
 .ret [qv4 (x0.1,y1.1,x0.2.2.1,x0.2.2.2.1,()),.int .i64 0]
theorem fI_keep x0 x1 x2:qft qa0 264 [qv4 x0,.string x1,qv1 x2] (tI_keep x0 x1 x2) :=fitK (by kernel_rfl)
def tI_roundQuotient (x0:qy0) (x1:SlV) (x2:Int):T :=
 .qc7 49 [Sc.val .l x0.2.1,Sc.val .l x1] fun y1 =>
 .rg <|
 .br (decide ((↑y1.2.1.n:Int) > (0:Int))) (
  .qc49 268 [] fun y2 =>
  .rq ((0:Int)≤x2∧x2<(↑(7:Nat):Int)) <|
 .xs [.string y2.1,(Value.func (Fn.func y2.2.1) { toList:=[]:Array Value } { toList:=[]:Array Value }),.string y2.2.2.1,(Value.func (Fn.func y2.2.2.2.1) { toList:=[]:Array Value } { toList:=[]:Array Value }),.string y2.2.2.2.2.1,(Value.func (Fn.func y2.2.2.2.2.2.1) { toList:=[]:Array Value } { toList:=[]:Array Value }),.string y2.2.2.2.2.2.2.1,(Value.func (Fn.func y2.2.2.2.2.2.2.2.1) { toList:=[]:Array Value } { toList:=[]:Array Value }),.string y2.2.2.2.2.2.2.2.2.1,(Value.func (Fn.func y2.2.2.2.2.2.2.2.2.2.1) { toList:=[]:Array Value } { toList:=[]:Array Value }),.string y2.2.2.2.2.2.2.2.2.2.2.1,(Value.func (Fn.func y2.2.2.2.2.2.2.2.2.2.2.2.1) { toList:=[]:Array Value } { toList:=[]:Array Value }),.string y2.2.2.2.2.2.2.2.2.2.2.2.2.1,(Value.func (Fn.func y2.2.2.2.2.2.2.2.2.2.2.2.2.2.1) { toList:=[]:Array Value } { toList:=[]:Array Value })] (x2.toNat*(2:Nat)) (.g [.s,.f]) fun y3 =>
  .qc6 114 [Sc.val .l y1.2.1,Sc.val .l y1.2.1] fun y4 =>
  .qc3 108 [Sc.val .l y4,Sc.val .l x1] fun y5 =>
  .qc38 269 [Sc.val .l y1.1] fun y6 =>
  .call false y3.2.1 [.bool x0.1,.int .i64 y5,.bool (!y6)] (.v (.o (.b))) fun y7 =>
  .br y7 (
   .fz ((1:Nat)) [.int .i64 1] 3 fun b8 c8 =>
   .qc19 114 [Sc.val .l y1.1,.slice (some { block:=b8,off:=(0:Nat):Addr }) ((1:Nat)) (c8)] fun y9 =>
   .qc21 113 [.bool x0.1,Sc.val .l y9] fun y10 =>
   .ret [qv0 y10]) <|
 .qc21 113 [.bool x0.1,Sc.val .l y1.1] fun y8 =>
  .ret [qv0 y8]) <|
 .qc21 113 [.bool x0.1,Sc.val .l y1.1] fun y2 =>
 .ret [qv0 y2]
theorem fI_roundQuotient x0 x1 x2:qft qa0 265 [qv0 x0,Sc.val .l x1,.int .i64 x2] (tI_roundQuotient x0 x1 x2) :=fitK (by kernel_rfl)
def tI_RatMake (x0:qy0) (x1:qy0):T :=
 .qc18 60 [qv0 x0,qv0 x1] fun y1 =>
 .bn y1 (.ret [qv1 ((false),nilS,nilS,()),.bool (false)]) <|
 .br ((↑x1.2.1.n:Int) == (0:Int)) (
  .ret [qv1 ((false),nilS,nilS,()),.bool (false)]) <|
 .rg <|
 .qc11 113 [.bool (!x0.1 == x1.1),Sc.val .l x0.2.1] fun y2 =>
 .qc10 117 [qv0 y2,Sc.val .l x1.2.1] fun y3 =>
 .ret [qv1 y3.1,.bool y3.2.1]
theorem fI_RatMake x0 x1:qft qa0 266 [qv0 x0,qv0 x1] (tI_RatMake x0 x1) :=fitK (by kernel_rfl)
def aI_RestAdd:An:=⟨[(8,[.s 47],[.o (.o (.i .i64))]),(17,[.s 13,.s 70],[.o (.o (.l)),.o (.o (.i .i64))])],[(15,[],[])],[]⟩
def tI_RestAdd (x0:SlV) (x1:ByteArray) (x2:qy1):T :=
 .qc18 163 [Sc.val .l x0] fun y1 =>
 .bn y1 (.ret [.slice none 0 0,.bool (false)]) <|
 .qc18 116 [qv1 x2] fun y2 =>
 .bn y2 (.ret [.slice none 0 0,.bool (false)]) <|
 .qc18 119 [.string x1] fun y3 =>
 .bn y3 (.ret [.slice none 0 0,.bool (false)]) <|
 .rg <|
 .qc8 16 [Sc.val .l x0,.string x1] fun y4 =>
 .qc10 56 [qv1 y4,qv1 x2] fun y5 =>
 .bn y5.2.1 (.ret [.slice none 0 0,.bool (false)]) <|
 .mo (.mk 291) (.v (.o (.x))) fun y6 =>
 .mo (.up 291 (y6.1) (.string x1) (qv1 y5.1)) (.t []) fun _ =>
 .lp [.o (.o (.i .i64))] [.v (.int .i64 0)] fun y8 =>
 .br (decide (y8.1<(↑x0.n:Int))) (
  .el x0.1 (x0.n) y8.1 fun y9 =>
  .ql20 (y9.add (Int.toNat y8.1*(4:Nat))) fun y10 =>
  .br (!ByteArray.toList y10.1 == x1.toList) (
   .rg <|
 .qc8 58 [qv1 y10.2] fun y11 =>
   .mo (.up 291 (y6.1) (.string y10.1) (qv1 y11)) (.t []) fun _ =>
   .nx 0 [.v (.int .i64 (IntKind.i64.wrap (y8.1+(1:Int))))]) <|
 .nx 0 [.v (.int .i64 (IntKind.i64.wrap (y8.1+(1:Int))))]) <|
 .jn [] (fun _ =>
  .qc19 270 [] fun y10 =>
  .fz ((0:Nat)) [] 116 fun b11 c11 =>
  .lp [.o (.o (.l)),.o (.o (.i .i64))] [.v (.slice (some { block:=b11,off:=(0:Nat):Addr }) ((0:Nat)) (c11)),.v (.int .i64 0)] fun y12 =>
  .br (decide (y12.2.1<(↑y10.n:Int))) (
   .el y10.1 (y10.n) y12.2.1 fun y13 =>
   .ql42 (y13.add (Int.toNat y12.2.1*(1:Nat))) fun y14 =>
   .mo (.lk 291 (y6.1) (.string y14) true) (.t [(.g [.b,.l,.l]),(.o (.b))]) fun y15 =>
   .br y15.2.1 (
    .rq ([Value.string y14,Value.bool y15.1.1,Value.slice y15.1.2.1.1 y15.1.2.1.n y15.1.2.1.c,Value.slice y15.1.2.2.1.1 y15.1.2.2.1.n y15.1.2.2.1.c].length=(1:Nat)*(4:Nat)) <|
 .rq (one [Value.string y14,Value.bool y15.1.1,Value.slice y15.1.2.1.1 y15.1.2.1.n y15.1.2.1.c,Value.slice y15.1.2.2.1.1 y15.1.2.2.1.n y15.1.2.2.1.c]=true) <|
 .ap ({ a:=y12.1.1,n:=y12.1.n,c:=y12.1.c:SlV }) 4 72 [.string y14,.bool y15.1.1,Sc.val .l y15.1.2.1,Sc.val .l y15.1.2.2.1] ((1:Nat)) 116 fun y16 =>
    .nx 2 [.v (Sc.val .l y16),.v (.int .i64 (IntKind.i64.wrap (y12.2.1+(1:Int))))]) <|
 .nx 2 [.v (Sc.val .l y12.1),.v (.int .i64 (IntKind.i64.wrap (y12.2.1+(1:Int))))]) <|
 .ret [Sc.val .l y12.1,.bool (true)]) <|
 .qc5 207 [qv1 y5.1] fun y9 =>
 .br (y9 == (0:Int)) (
  .mo (.del ({ toList:=[(291:Nat),(9:Nat)]:Array Nat }) 0 (y6.1) (.string x1)) (.t []) fun _ =>
  .nx 1 []) <|
 .nx 1 []
theorem fI_RestAdd x0 x1 x2:qft aI_RestAdd 267 [Sc.val .l x0,.string x1,qv1 x2] (tI_RestAdd x0 x1 x2) :=fitK (by kernel_rfl)
def tI_roundModes :T :=
 .ret [.agg #[.string ({ data:={ toList:=[(100:UInt8),(111:UInt8),(119:UInt8),(110:UInt8)]:Array UInt8 }:ByteArray }),(Value.func (Fn.func (271:Nat)) { toList:=[]:Array Value } { toList:=[]:Array Value }),.string ({ data:={ toList:=[(117:UInt8),(112:UInt8)]:Array UInt8 }:ByteArray }),(Value.func (Fn.func (272:Nat)) { toList:=[]:Array Value } { toList:=[]:Array Value }),.string ({ data:={ toList:=[(102:UInt8),(108:UInt8),(111:UInt8),(111:UInt8),(114:UInt8)]:Array UInt8 }:ByteArray }),(Value.func (Fn.func (273:Nat)) { toList:=[]:Array Value } { toList:=[]:Array Value }),.string ({ data:={ toList:=[(99:UInt8),(101:UInt8),(105:UInt8),(108:UInt8)]:Array UInt8 }:ByteArray }),(Value.func (Fn.func (274:Nat)) { toList:=[]:Array Value } { toList:=[]:Array Value }),.string ({ data:={ toList:=[(104:UInt8),(97:UInt8),(108:UInt8),(102:UInt8),(100:UInt8),(111:UInt8),(119:UInt8),(110:UInt8)]:Array UInt8 }:ByteArray }),(Value.func (Fn.func (275:Nat)) { toList:=[]:Array Value } { toList:=[]:Array Value }),.string ({ data:={ toList:=[(104:UInt8),(97:UInt8),(108:UInt8),(102:UInt8),(117:UInt8),(112:UInt8)]:Array UInt8 }:ByteArray }),(Value.func (Fn.func (276:Nat)) { toList:=[]:Array Value } { toList:=[]:Array Value }),.string ({ data:={ toList:=[(104:UInt8),(97:UInt8),(108:UInt8),(102:UInt8),(101:UInt8),(118:UInt8),(101:UInt8),(110:UInt8)]:Array UInt8 }:ByteArray }),(Value.func (Fn.func (277:Nat)) { toList:=[]:Array Value } { toList:=[]:Array Value })]]
theorem fI_roundModes :qft qa0 268 [] (tI_roundModes ) :=fitK (by kernel_rfl)
def tI_NatEven (x0:SlV):T :=
 .qc18 107 [Sc.val .l x0] fun y1 =>
 .br y1 (
  .br ((↑x0.n:Int) == (0:Int)) (
   .rT) <|
 .el x0.1 (x0.n) ((0:Int)) fun y2 =>
  .ql13 (y2.add (Int.toNat (0:Int)*(1:Nat))) fun y3 =>
  .rq ((2:Int)≠(0:Int)) <|
 .ret [.bool (y3.tmod (2:Int) == (0:Int))]) <|
 .rF
theorem fI_NatEven x0:qft qa0 269 [Sc.val .l x0] (tI_NatEven x0) :=fitK (by kernel_rfl)
def aI_Curs:An:=⟨[(3,[.s 1,.s 6],[.a 9,.o (.o (.i .i64))])],[],[]⟩
def tI_Curs :T :=
 .ql27 ({ block:=(0:Nat),off:=(0:Nat):Addr }) fun y1 =>
 .lp [.a 9,.o (.o (.i .i64))] [.a 9 ((0:Nat)) [],.v (.int .i64 0)] fun y2 =>
 .br (decide (y2.2.1<(20:Int))) (
  .rq ((0:Int)≤y2.2.1∧y2.2.1<(↑(20:Nat):Int)) <|
 .xs [.string y1.1,.string y1.2.1,.int .i64 y1.2.2.1,.int .i64 y1.2.2.2.1,.string y1.2.2.2.2.1,.string y1.2.2.2.2.2.1,.int .i64 y1.2.2.2.2.2.2.1,.int .i64 y1.2.2.2.2.2.2.2.1,.string y1.2.2.2.2.2.2.2.2.1,.string y1.2.2.2.2.2.2.2.2.2.1,.int .i64 y1.2.2.2.2.2.2.2.2.2.2.1,.int .i64 y1.2.2.2.2.2.2.2.2.2.2.2.1,.string y1.2.2.2.2.2.2.2.2.2.2.2.2.1,.string y1.2.2.2.2.2.2.2.2.2.2.2.2.2.1,.int .i64 y1.2.2.2.2.2.2.2.2.2.2.2.2.2.2.1,.int .i64 y1.2.2.2.2.2.2.2.2.2.2.2.2.2.2.2.1,.string y1.2.2.2.2.2.2.2.2.2.2.2.2.2.2.2.2.1,.string y1.2.2.2.2.2.2.2.2.2.2.2.2.2.2.2.2.2.1,.int .i64 y1.2.2.2.2.2.2.2.2.2.2.2.2.2.2.2.2.2.2.1,.int .i64 y1.2.2.2.2.2.2.2.2.2.2.2.2.2.2.2.2.2.2.2.1,.string y1.2.2.2.2.2.2.2.2.2.2.2.2.2.2.2.2.2.2.2.2.1,.string y1.2.2.2.2.2.2.2.2.2.2.2.2.2.2.2.2.2.2.2.2.2.1,.int .i64 y1.2.2.2.2.2.2.2.2.2.2.2.2.2.2.2.2.2.2.2.2.2.2.1,.int .i64 y1.2.2.2.2.2.2.2.2.2.2.2.2.2.2.2.2.2.2.2.2.2.2.2.1,.string y1.2.2.2.2.2.2.2.2.2.2.2.2.2.2.2.2.2.2.2.2.2.2.2.2.1,.string y1.2.2.2.2.2.2.2.2.2.2.2.2.2.2.2.2.2.2.2.2.2.2.2.2.2.1,.int .i64 y1.2.2.2.2.2.2.2.2.2.2.2.2.2.2.2.2.2.2.2.2.2.2.2.2.2.2.1,.int .i64 y1.2.2.2.2.2.2.2.2.2.2.2.2.2.2.2.2.2.2.2.2.2.2.2.2.2.2.2.1,.string y1.2.2.2.2.2.2.2.2.2.2.2.2.2.2.2.2.2.2.2.2.2.2.2.2.2.2.2.2.1,.string y1.2.2.2.2.2.2.2.2.2.2.2.2.2.2.2.2.2.2.2.2.2.2.2.2.2.2.2.2.2.1,.int .i64 y1.2.2.2.2.2.2.2.2.2.2.2.2.2.2.2.2.2.2.2.2.2.2.2.2.2.2.2.2.2.2.1,.int .i64 y1.2.2.2.2.2.2.2.2.2.2.2.2.2.2.2.2.2.2.2.2.2.2.2.2.2.2.2.2.2.2.2.1,.string y1.2.2.2.2.2.2.2.2.2.2.2.2.2.2.2.2.2.2.2.2.2.2.2.2.2.2.2.2.2.2.2.2.1,.string y1.2.2.2.2.2.2.2.2.2.2.2.2.2.2.2.2.2.2.2.2.2.2.2.2.2.2.2.2.2.2.2.2.2.1,.int .i64 y1.2.2.2.2.2.2.2.2.2.2.2.2.2.2.2.2.2.2.2.2.2.2.2.2.2.2.2.2.2.2.2.2.2.2.1,.int .i64 y1.2.2.2.2.2.2.2.2.2.2.2.2.2.2.2.2.2.2.2.2.2.2.2.2.2.2.2.2.2.2.2.2.2.2.2.1,.string y1.2.2.2.2.2.2.2.2.2.2.2.2.2.2.2.2.2.2.2.2.2.2.2.2.2.2.2.2.2.2.2.2.2.2.2.2.1,.string y1.2.2.2.2.2.2.2.2.2.2.2.2.2.2.2.2.2.2.2.2.2.2.2.2.2.2.2.2.2.2.2.2.2.2.2.2.2.1,.int .i64 y1.2.2.2.2.2.2.2.2.2.2.2.2.2.2.2.2.2.2.2.2.2.2.2.2.2.2.2.2.2.2.2.2.2.2.2.2.2.2.1,.int .i64 y1.2.2.2.2.2.2.2.2.2.2.2.2.2.2.2.2.2.2.2.2.2.2.2.2.2.2.2.2.2.2.2.2.2.2.2.2.2.2.2.1,.string y1.2.2.2.2.2.2.2.2.2.2.2.2.2.2.2.2.2.2.2.2.2.2.2.2.2.2.2.2.2.2.2.2.2.2.2.2.2.2.2.2.1,.string y1.2.2.2.2.2.2.2.2.2.2.2.2.2.2.2.2.2.2.2.2.2.2.2.2.2.2.2.2.2.2.2.2.2.2.2.2.2.2.2.2.2.1,.int .i64 y1.2.2.2.2.2.2.2.2.2.2.2.2.2.2.2.2.2.2.2.2.2.2.2.2.2.2.2.2.2.2.2.2.2.2.2.2.2.2.2.2.2.2.1,.int .i64 y1.2.2.2.2.2.2.2.2.2.2.2.2.2.2.2.2.2.2.2.2.2.2.2.2.2.2.2.2.2.2.2.2.2.2.2.2.2.2.2.2.2.2.2.1,.string y1.2.2.2.2.2.2.2.2.2.2.2.2.2.2.2.2.2.2.2.2.2.2.2.2.2.2.2.2.2.2.2.2.2.2.2.2.2.2.2.2.2.2.2.2.1,.string y1.2.2.2.2.2.2.2.2.2.2.2.2.2.2.2.2.2.2.2.2.2.2.2.2.2.2.2.2.2.2.2.2.2.2.2.2.2.2.2.2.2.2.2.2.2.1,.int .i64 y1.2.2.2.2.2.2.2.2.2.2.2.2.2.2.2.2.2.2.2.2.2.2.2.2.2.2.2.2.2.2.2.2.2.2.2.2.2.2.2.2.2.2.2.2.2.2.1,.int .i64 y1.2.2.2.2.2.2.2.2.2.2.2.2.2.2.2.2.2.2.2.2.2.2.2.2.2.2.2.2.2.2.2.2.2.2.2.2.2.2.2.2.2.2.2.2.2.2.2.1,.string y1.2.2.2.2.2.2.2.2.2.2.2.2.2.2.2.2.2.2.2.2.2.2.2.2.2.2.2.2.2.2.2.2.2.2.2.2.2.2.2.2.2.2.2.2.2.2.2.2.1,.string y1.2.2.2.2.2.2.2.2.2.2.2.2.2.2.2.2.2.2.2.2.2.2.2.2.2.2.2.2.2.2.2.2.2.2.2.2.2.2.2.2.2.2.2.2.2.2.2.2.2.1,.int .i64 y1.2.2.2.2.2.2.2.2.2.2.2.2.2.2.2.2.2.2.2.2.2.2.2.2.2.2.2.2.2.2.2.2.2.2.2.2.2.2.2.2.2.2.2.2.2.2.2.2.2.2.1,.int .i64 y1.2.2.2.2.2.2.2.2.2.2.2.2.2.2.2.2.2.2.2.2.2.2.2.2.2.2.2.2.2.2.2.2.2.2.2.2.2.2.2.2.2.2.2.2.2.2.2.2.2.2.2.1,.string y1.2.2.2.2.2.2.2.2.2.2.2.2.2.2.2.2.2.2.2.2.2.2.2.2.2.2.2.2.2.2.2.2.2.2.2.2.2.2.2.2.2.2.2.2.2.2.2.2.2.2.2.2.1,.string y1.2.2.2.2.2.2.2.2.2.2.2.2.2.2.2.2.2.2.2.2.2.2.2.2.2.2.2.2.2.2.2.2.2.2.2.2.2.2.2.2.2.2.2.2.2.2.2.2.2.2.2.2.2.1,.int .i64 y1.2.2.2.2.2.2.2.2.2.2.2.2.2.2.2.2.2.2.2.2.2.2.2.2.2.2.2.2.2.2.2.2.2.2.2.2.2.2.2.2.2.2.2.2.2.2.2.2.2.2.2.2.2.2.1,.int .i64 y1.2.2.2.2.2.2.2.2.2.2.2.2.2.2.2.2.2.2.2.2.2.2.2.2.2.2.2.2.2.2.2.2.2.2.2.2.2.2.2.2.2.2.2.2.2.2.2.2.2.2.2.2.2.2.2.1,.string y1.2.2.2.2.2.2.2.2.2.2.2.2.2.2.2.2.2.2.2.2.2.2.2.2.2.2.2.2.2.2.2.2.2.2.2.2.2.2.2.2.2.2.2.2.2.2.2.2.2.2.2.2.2.2.2.2.1,.string y1.2.2.2.2.2.2.2.2.2.2.2.2.2.2.2.2.2.2.2.2.2.2.2.2.2.2.2.2.2.2.2.2.2.2.2.2.2.2.2.2.2.2.2.2.2.2.2.2.2.2.2.2.2.2.2.2.2.1,.int .i64 y1.2.2.2.2.2.2.2.2.2.2.2.2.2.2.2.2.2.2.2.2.2.2.2.2.2.2.2.2.2.2.2.2.2.2.2.2.2.2.2.2.2.2.2.2.2.2.2.2.2.2.2.2.2.2.2.2.2.2.1,.int .i64 y1.2.2.2.2.2.2.2.2.2.2.2.2.2.2.2.2.2.2.2.2.2.2.2.2.2.2.2.2.2.2.2.2.2.2.2.2.2.2.2.2.2.2.2.2.2.2.2.2.2.2.2.2.2.2.2.2.2.2.2.1,.string y1.2.2.2.2.2.2.2.2.2.2.2.2.2.2.2.2.2.2.2.2.2.2.2.2.2.2.2.2.2.2.2.2.2.2.2.2.2.2.2.2.2.2.2.2.2.2.2.2.2.2.2.2.2.2.2.2.2.2.2.2.1,.string y1.2.2.2.2.2.2.2.2.2.2.2.2.2.2.2.2.2.2.2.2.2.2.2.2.2.2.2.2.2.2.2.2.2.2.2.2.2.2.2.2.2.2.2.2.2.2.2.2.2.2.2.2.2.2.2.2.2.2.2.2.2.1,.int .i64 y1.2.2.2.2.2.2.2.2.2.2.2.2.2.2.2.2.2.2.2.2.2.2.2.2.2.2.2.2.2.2.2.2.2.2.2.2.2.2.2.2.2.2.2.2.2.2.2.2.2.2.2.2.2.2.2.2.2.2.2.2.2.2.1,.int .i64 y1.2.2.2.2.2.2.2.2.2.2.2.2.2.2.2.2.2.2.2.2.2.2.2.2.2.2.2.2.2.2.2.2.2.2.2.2.2.2.2.2.2.2.2.2.2.2.2.2.2.2.2.2.2.2.2.2.2.2.2.2.2.2.2.1,.string y1.2.2.2.2.2.2.2.2.2.2.2.2.2.2.2.2.2.2.2.2.2.2.2.2.2.2.2.2.2.2.2.2.2.2.2.2.2.2.2.2.2.2.2.2.2.2.2.2.2.2.2.2.2.2.2.2.2.2.2.2.2.2.2.2.1,.string y1.2.2.2.2.2.2.2.2.2.2.2.2.2.2.2.2.2.2.2.2.2.2.2.2.2.2.2.2.2.2.2.2.2.2.2.2.2.2.2.2.2.2.2.2.2.2.2.2.2.2.2.2.2.2.2.2.2.2.2.2.2.2.2.2.2.1,.int .i64 y1.2.2.2.2.2.2.2.2.2.2.2.2.2.2.2.2.2.2.2.2.2.2.2.2.2.2.2.2.2.2.2.2.2.2.2.2.2.2.2.2.2.2.2.2.2.2.2.2.2.2.2.2.2.2.2.2.2.2.2.2.2.2.2.2.2.2.1,.int .i64 y1.2.2.2.2.2.2.2.2.2.2.2.2.2.2.2.2.2.2.2.2.2.2.2.2.2.2.2.2.2.2.2.2.2.2.2.2.2.2.2.2.2.2.2.2.2.2.2.2.2.2.2.2.2.2.2.2.2.2.2.2.2.2.2.2.2.2.2.1,.string y1.2.2.2.2.2.2.2.2.2.2.2.2.2.2.2.2.2.2.2.2.2.2.2.2.2.2.2.2.2.2.2.2.2.2.2.2.2.2.2.2.2.2.2.2.2.2.2.2.2.2.2.2.2.2.2.2.2.2.2.2.2.2.2.2.2.2.2.2.1,.string y1.2.2.2.2.2.2.2.2.2.2.2.2.2.2.2.2.2.2.2.2.2.2.2.2.2.2.2.2.2.2.2.2.2.2.2.2.2.2.2.2.2.2.2.2.2.2.2.2.2.2.2.2.2.2.2.2.2.2.2.2.2.2.2.2.2.2.2.2.2.1,.int .i64 y1.2.2.2.2.2.2.2.2.2.2.2.2.2.2.2.2.2.2.2.2.2.2.2.2.2.2.2.2.2.2.2.2.2.2.2.2.2.2.2.2.2.2.2.2.2.2.2.2.2.2.2.2.2.2.2.2.2.2.2.2.2.2.2.2.2.2.2.2.2.2.1,.int .i64 y1.2.2.2.2.2.2.2.2.2.2.2.2.2.2.2.2.2.2.2.2.2.2.2.2.2.2.2.2.2.2.2.2.2.2.2.2.2.2.2.2.2.2.2.2.2.2.2.2.2.2.2.2.2.2.2.2.2.2.2.2.2.2.2.2.2.2.2.2.2.2.2.1,.string y1.2.2.2.2.2.2.2.2.2.2.2.2.2.2.2.2.2.2.2.2.2.2.2.2.2.2.2.2.2.2.2.2.2.2.2.2.2.2.2.2.2.2.2.2.2.2.2.2.2.2.2.2.2.2.2.2.2.2.2.2.2.2.2.2.2.2.2.2.2.2.2.2.1,.string y1.2.2.2.2.2.2.2.2.2.2.2.2.2.2.2.2.2.2.2.2.2.2.2.2.2.2.2.2.2.2.2.2.2.2.2.2.2.2.2.2.2.2.2.2.2.2.2.2.2.2.2.2.2.2.2.2.2.2.2.2.2.2.2.2.2.2.2.2.2.2.2.2.2.1,.int .i64 y1.2.2.2.2.2.2.2.2.2.2.2.2.2.2.2.2.2.2.2.2.2.2.2.2.2.2.2.2.2.2.2.2.2.2.2.2.2.2.2.2.2.2.2.2.2.2.2.2.2.2.2.2.2.2.2.2.2.2.2.2.2.2.2.2.2.2.2.2.2.2.2.2.2.2.1,.int .i64 y1.2.2.2.2.2.2.2.2.2.2.2.2.2.2.2.2.2.2.2.2.2.2.2.2.2.2.2.2.2.2.2.2.2.2.2.2.2.2.2.2.2.2.2.2.2.2.2.2.2.2.2.2.2.2.2.2.2.2.2.2.2.2.2.2.2.2.2.2.2.2.2.2.2.2.2.1,.string y1.2.2.2.2.2.2.2.2.2.2.2.2.2.2.2.2.2.2.2.2.2.2.2.2.2.2.2.2.2.2.2.2.2.2.2.2.2.2.2.2.2.2.2.2.2.2.2.2.2.2.2.2.2.2.2.2.2.2.2.2.2.2.2.2.2.2.2.2.2.2.2.2.2.2.2.2.1,.string y1.2.2.2.2.2.2.2.2.2.2.2.2.2.2.2.2.2.2.2.2.2.2.2.2.2.2.2.2.2.2.2.2.2.2.2.2.2.2.2.2.2.2.2.2.2.2.2.2.2.2.2.2.2.2.2.2.2.2.2.2.2.2.2.2.2.2.2.2.2.2.2.2.2.2.2.2.2.1,.int .i64 y1.2.2.2.2.2.2.2.2.2.2.2.2.2.2.2.2.2.2.2.2.2.2.2.2.2.2.2.2.2.2.2.2.2.2.2.2.2.2.2.2.2.2.2.2.2.2.2.2.2.2.2.2.2.2.2.2.2.2.2.2.2.2.2.2.2.2.2.2.2.2.2.2.2.2.2.2.2.2.1,.int .i64 y1.2.2.2.2.2.2.2.2.2.2.2.2.2.2.2.2.2.2.2.2.2.2.2.2.2.2.2.2.2.2.2.2.2.2.2.2.2.2.2.2.2.2.2.2.2.2.2.2.2.2.2.2.2.2.2.2.2.2.2.2.2.2.2.2.2.2.2.2.2.2.2.2.2.2.2.2.2.2.2.1] (Int.toNat y2.2.1*(4:Nat)) (.g [.s,.s,.i .i64,.i .i64]) fun y3 =>
  .rq ([Value.string y3.1].length=(1:Nat)*(1:Nat)) <|
 .rq (one [Value.string y3.1]=true∧(y2.1.1+(1:Nat))*(16:Nat)≤(140737488355328:Nat)∧y2.1.1+(1:Nat)≤(9223372036854775807:Nat)) <|
 .nx 0 [.a 9 (y2.1.1+(1:Nat)) (y2.1.2++[Value.string y3.1]),.v (.int .i64 (IntKind.i64.wrap (y2.2.1+(1:Int))))]) <|
 .fz y2.1.1 y2.1.2 9 fun b3 c3 =>
 .qc37 278 [.slice (some { block:=b3,off:=(0:Nat):Addr }) y2.1.1 (c3)] fun _ =>
 .ret [.slice (some { block:=b3,off:=(0:Nat):Addr }) y2.1.1 (c3)]
theorem fI_Curs :qft aI_Curs 270 [] (tI_Curs ) :=fitK (by kernel_rfl)
def tI_roundModes_1 (_x0:Bool) (_x1:Int) (_x2:Bool):T :=
 .rF
theorem fI_roundModes_1 x0 x1 x2:qft qa0 271 [.bool x0,.int .i64 x1,.bool x2] (tI_roundModes_1 x0 x1 x2) :=fitK (by kernel_rfl)
def tI_roundModes_2 (_x0:Bool) (_x1:Int) (_x2:Bool):T :=
 .rT
theorem fI_roundModes_2 x0 x1 x2:qft qa0 272 [.bool x0,.int .i64 x1,.bool x2] (tI_roundModes_2 x0 x1 x2) :=fitK (by kernel_rfl)
def tI_roundModes_3 (x0:Bool) (_x1:Int) (_x2:Bool):T :=
 .ret [.bool x0]
theorem fI_roundModes_3 x0 x1 x2:qft qa0 273 [.bool x0,.int .i64 x1,.bool x2] (tI_roundModes_3 x0 x1 x2) :=fitK (by kernel_rfl)
def tI_roundModes_4 (x0:Bool) (_x1:Int) (_x2:Bool):T :=
 .ret [.bool (!x0)]
theorem fI_roundModes_4 x0 x1 x2:qft qa0 274 [.bool x0,.int .i64 x1,.bool x2] (tI_roundModes_4 x0 x1 x2) :=fitK (by kernel_rfl)
def tI_roundModes_5 (_x0:Bool) (x1:Int) (_x2:Bool):T :=
 .ret [.bool (decide (x1 > (0:Int)))]
theorem fI_roundModes_5 x0 x1 x2:qft qa0 275 [.bool x0,.int .i64 x1,.bool x2] (tI_roundModes_5 x0 x1 x2) :=fitK (by kernel_rfl)
def tI_roundModes_6 (_x0:Bool) (x1:Int) (_x2:Bool):T :=
 .ret [.bool (decide (x1≥(0:Int)))]
theorem fI_roundModes_6 x0 x1 x2:qft qa0 276 [.bool x0,.int .i64 x1,.bool x2] (tI_roundModes_6 x0 x1 x2) :=fitK (by kernel_rfl)
def tI_roundModes_7 (_x0:Bool) (x1:Int) (x2:Bool):T :=
 .br (decide (x1 > (0:Int))) (
  .rT) <|
 .br (x1 == (0:Int)) (
  .ret [.bool x2]) <|
 .rF
theorem fI_roundModes_7 x0 x1 x2:qft qa0 277 [.bool x0,.int .i64 x1,.bool x2] (tI_roundModes_7 x0 x1 x2) :=fitK (by kernel_rfl)
end
end Go.Proofs.YtfiakghfncempaaGreatDoor
