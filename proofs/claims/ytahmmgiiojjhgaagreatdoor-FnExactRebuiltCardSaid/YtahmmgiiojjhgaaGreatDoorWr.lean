/-
  Memory that is written.
-/
import Derived.Test.YtahmmgiiojjhgaaGreatDoorTA
import Derived.Test.YtahmmgiiojjhgaaGreatDoorRep
namespace Go.Proofs.YtahmmgiiojjhgaaGreatDoor
open Go.Proofs.Tryz (prog)
open Go.IntKind
open Sx
set_option maxRecDepth 100000
noncomputable section
def Ya:An:=⟨[(3,[.s 4],[.oI])],[],[(2000003,[.s 1])]⟩
def IP (x0:qy8):T :=
 .jl 112 [.int .i64 x0.1] fun y1 =>
 .es [.int .i64 x0.1,.string x0.2.1,.string x0.2.2.1,.string x0.2.2.2.1,.string x0.2.2.2.2.1,.string x0.2.2.2.2.2.1,.bool x0.2.2.2.2.2.2.1,qL x0.2.2.2.2.2.2.2.1,.int .i64 x0.2.2.2.2.2.2.2.2.1,qL x0.2.2.2.2.2.2.2.2.2.1,qL x0.2.2.2.2.2.2.2.2.2.2.1,.bool x0.2.2.2.2.2.2.2.2.2.2.2.1,qL x0.2.2.2.2.2.2.2.2.2.2.2.2.1,.int .i64 x0.2.2.2.2.2.2.2.2.2.2.2.2.2.1,.string x0.2.2.2.2.2.2.2.2.2.2.2.2.2.2.1,.string x0.2.2.2.2.2.2.2.2.2.2.2.2.2.2.2.1,.bool x0.2.2.2.2.2.2.2.2.2.2.2.2.2.2.2.2.1,qL x0.2.2.2.2.2.2.2.2.2.2.2.2.2.2.2.2.2.1,.int .i64 x0.2.2.2.2.2.2.2.2.2.2.2.2.2.2.2.2.2.2.1] 91 fun b2 =>
 .lp [.oI] [.vI 0] fun y3 =>
 .bd (y3.1<=(8:Int)) (
  .bN 179 [qL y1,.int .i64 y3.1] fun y4 =>
  .br y4 (
   .bN 180 [.pointer (qA b2),.int .i64 y3.1] fun y5 =>
   .bF y5 <|
 .nx 0 [.vI (i64.wrap (y3.1+(1:Int)))]) <|
 .bN 178 [.pointer (qA b2),.int .i64 y3.1] fun y5 =>
  .bF y5 <|
 .nx 0 [.vI (i64.wrap (y3.1+(1:Int)))]) <|
 .ret [.bool (decide ((↑y1.n:Int) > (0:Int)))]
theorem Yb x0:aP Ya 110 [l8 x0] (IP x0) :=aq
def Db (x0:Int):T :=
 .fz 10 [.string ba,.string ⟨⟨[111,112,101,110]⟩⟩,.string ⟨⟨[112,117,116]⟩⟩,.string ⟨⟨[116,97,107,101]⟩⟩,.string ⟨⟨[109,111,118,101]⟩⟩,.string ⟨⟨[115,119,97,112]⟩⟩,.string ⟨⟨[100,101,97,108]⟩⟩,.string ⟨⟨[116,97,120]⟩⟩,.string ⟨⟨[99,97,115,104]⟩⟩,.string ⟨⟨[114,97,116,101]⟩⟩] 9 fun b1 c1 =>
 .cM 176 [.int .i64 x0,.slice (qA b1) 10 c1] fun y2 =>
 .ret [.string y2]
theorem TC x0:aP bX 111 [.int .i64 x0] (Db x0) :=aq
def xp (x0:Int):T :=
 .br (x0 == (1:Int)) (
  .fz 2 [.int .i64 0,.int .i64 3] 3 fun b1 c1 =>
  .ret [.slice (qA b1) 2 c1]) <|
 .br (x0 == (2:Int)) (
  .fz 2 [.int .i64 0,.int .i64 4] 3 fun b1 c1 =>
  .ret [.slice (qA b1) 2 c1]) <|
 .br (x0 == (3:Int)) (
  .fz 2 [.int .i64 0,.int .i64 4] 3 fun b1 c1 =>
  .ret [.slice (qA b1) 2 c1]) <|
 .br (x0 == (4:Int)) (
  .fz 3 [.int .i64 0,.int .i64 1,.int .i64 4] 3 fun b1 c1 =>
  .ret [.slice (qA b1) 3 c1]) <|
 .br (x0 == (5:Int)) (
  .fz 4 [.int .i64 0,.int .i64 1,.int .i64 4,.int .i64 7] 3 fun b1 c1 =>
  .ret [.slice (qA b1) 4 c1]) <|
 .br (x0 == (6:Int)) (
  .fz 3 [.int .i64 0,.int .i64 4,.int .i64 5] 3 fun b1 c1 =>
  .ret [.slice (qA b1) 3 c1]) <|
 .br (x0 == (7:Int)) (
  .fz 6 [.int .i64 0,.int .i64 1,.int .i64 2,.int .i64 4,.int .i64 6,.int .i64 7] 3 fun b1 c1 =>
  .ret [.slice (qA b1) 6 c1]) <|
 .br (x0 == (8:Int)) (
  .fz 2 [.int .i64 0,.int .i64 7] 3 fun b1 c1 =>
  .ret [.slice (qA b1) 2 c1]) <|
 .br (x0 == (9:Int)) (
  .fz 1 [.int .i64 8] 3 fun b1 c1 =>
  .ret [.slice (qA b1) 1 c1]) <|
 .ret [.slice none 0 0]
theorem IQ x0:aP bX 112 [.int .i64 x0] (xp x0) :=aq
def iQ (x0:Addr) (x1:Int):T :=
 .br (x1 == (0:Int)) (
  .iy (x0.add (1:Nat)) fun y1 =>
  .ret [.string y1]) <|
 .br (x1 == (1:Int)) (
  .iy (x0.add (2:Nat)) fun y1 =>
  .ret [.string y1]) <|
 .br (x1 == (2:Int)) (
  .iy (x0.add (3:Nat)) fun y1 =>
  .ret [.string y1]) <|
 .br (x1 == (3:Int)) (
  .iy (x0.add (4:Nat)) fun y1 =>
  .ret [.string y1]) <|
 .br (x1 == (4:Int)) (
  .ql52 (x0.add (5:Nat)) fun y1 =>
  .cM 181 [ct y1] fun y2 =>
  .ret [.string y2]) <|
 .br (x1 == (5:Int)) (
  .rf <|
 .Ci (x0.add (9:Nat)) fun y1 =>
  .Ci (x0.add (10:Nat)) fun y2 =>
  .cM 182 [qL y1,qL y2] fun y3 =>
  .ret [.string y3]) <|
 .br (x1 == (6:Int)) (
  .ql54 (x0.add (11:Nat)) fun y1 =>
  .cM 183 [cA y1] fun y2 =>
  .ret [.string y2]) <|
 .br (x1 == (7:Int)) (
  .dy (x0.add (8:Nat)) fun y1 =>
  .cM 184 [.int .i64 y1] fun y2 =>
  .ret [.string y2]) <|
 .zA (x0.add (14:Nat)) fun y1 =>
 .cM 185 [fV y1] fun y2 =>
 .ret [.string y2]
theorem kE x0 x1:aP bX 113 [.pointer (some x0),.int .i64 x1] (iQ x0 x1) :=aq
def Rl (x0:ar) (x1:ByteArray):T :=
 .cM 186 [qL x0,.string x1] fun y1 =>
 .ret [.string y1]
theorem fI_Join x0 x1:aP bX 114 [qL x0,.string x1] (Rl x0 x1) :=aq
def Dc (x0:yv):T :=
 .rg <|
 .Rj 188 [qL x0.2.1] fun y1 =>
 .kg 187 [.bool (!x0.1),qL y1] fun y2 =>
 .ret [cV y2]
theorem TD x0:aP bX 115 [cV x0] (Dc x0) :=aq
def Dd (x0:qy9) (x1:qy9):T :=
 .br (!ByteArray.toList x0.1 == ByteArray.toList x1.1) (
  .rF) <|
 .bN 189 [ct x0.2,ct x1.2] fun y1 =>
 .bF y1 <|
 .rT
theorem TE x0 x1:aP bX 116 [WO x0,WO x1] (Dd x0 x1) :=aq
def IS (x0:WQ) (x1:WQ):T :=
 .bN 190 [cV (x0.1,x0.2.1,()),cV (x1.1,x1.2.1,())] fun y1 =>
 .bF y1 <|
 .bN 191 [qL x0.2.2.1,qL x1.2.2.1] fun y2 =>
 .bF y2 <|
 .rT
theorem Yc x0 x1:aP bX 117 [lS x0,lS x1] (IS x0 x1) :=aq
def De (x0:MS) (x1:MS):T :=
 .br (!ByteArray.toList x0.1 == ByteArray.toList x1.1) (
  .rF) <|
 .br (!ByteArray.toList x0.2.1 == ByteArray.toList x1.2.1) (
  .rF) <|
 .bN 192 [cA x0.2.2,cA x1.2.2] fun y1 =>
 .bF y1 <|
 .rT
theorem TF x0 x1:aP bX 118 [fV x0,fV x1] (De x0 x1) :=aq
def z6 (x0:vr) (x1:Int):T :=
 .bd (i64.wrap (x1-(↑(ByteArray.size x0.1):Int))<(0:Int)) (
  .rM) <|
 .eR 120 [cV x0.2,.int .i64 (i64.wrap (x1-(↑(ByteArray.size x0.1):Int)))] fun y1 =>
 .bd (y1<(0:Int)) (
  .rM) <|
 .ret [.int .i64 y1]
theorem N8 x0 x1:aP bX 119 [ct x0,.int .i64 x1] (z6 x0 x1) :=aq
def xq (x0:yv) (x1:Int):T :=
 .eR 121 [qL x0.2.1,.int .i64 x1] fun y1 =>
 .bd (y1<(0:Int)) (
  .rM) <|
 .ret [.int .i64 y1]
theorem IT x0 x1:aP bX 120 [cV x0,.int .i64 x1] (xq x0 x1) :=aq
def Df (x0:ar) (x1:Int):T :=
 .bd (i64.wrap (x1-(↑x0.n:Int))<(0:Int)) (
  .rM) <|
 .ret [.int .i64 (i64.wrap (x1-(↑x0.n:Int)))]
theorem TG x0 x1:aP bX 121 [qL x0,.int .i64 x1] (Df x0 x1) :=aq
def IU (x0:SU) (x1:Int):T :=
 .eR 120 [cV (x0.1,x0.2.1,()),.int .i64 x1] fun y1 =>
 .bd (y1<(0:Int)) (
  .rM) <|
 .ret [.int .i64 y1]
theorem Yd x0 x1:aP bX 122 [cA x0,.int .i64 x1] (IU x0 x1) :=aq
def xr :T :=
 .fz 20 [.string ⟨⟨[65,85,68]⟩⟩,.string ⟨⟨[48,51,54]⟩⟩,.int .i64 2,.int .i64 5,.string ⟨⟨[66,72,68]⟩⟩,.string ⟨⟨[48,52,56]⟩⟩,.int .i64 3,.int .i64 5,.string ⟨⟨[67,65,68]⟩⟩,.string ⟨⟨[49,50,52]⟩⟩,.int .i64 2,.int .i64 5,.string ⟨⟨[67,72,70]⟩⟩,.string ⟨⟨[55,53,54]⟩⟩,.int .i64 2,.int .i64 5,.string ⟨⟨[67,76,70]⟩⟩,.string ⟨⟨[57,57,48]⟩⟩,.int .i64 4,.int .i64 1,.string ⟨⟨[67,90,75]⟩⟩,.string ⟨⟨[50,48,51]⟩⟩,.int .i64 2,.int .i64 100,.string ⟨⟨[68,75,75]⟩⟩,.string ⟨⟨[50,48,56]⟩⟩,.int .i64 2,.int .i64 50,.string ⟨⟨[69,85,82]⟩⟩,.string ⟨⟨[57,55,56]⟩⟩,.int .i64 2,.int .i64 1,.string ⟨⟨[71,66,80]⟩⟩,.string ⟨⟨[56,50,54]⟩⟩,.int .i64 2,.int .i64 1,.string ⟨⟨[72,85,70]⟩⟩,.string ⟨⟨[51,52,56]⟩⟩,.int .i64 2,.int .i64 500,.string ⟨⟨[73,83,75]⟩⟩,.string ⟨⟨[51,53,50]⟩⟩,.int .i64 0,.int .i64 1,.string ⟨⟨[74,80,89]⟩⟩,.string ⟨⟨[51,57,50]⟩⟩,.int .i64 0,.int .i64 1,.string ⟨⟨[75,82,87]⟩⟩,.string ⟨⟨[52,49,48]⟩⟩,.int .i64 0,.int .i64 10,.string ⟨⟨[75,87,68]⟩⟩,.string ⟨⟨[52,49,52]⟩⟩,.int .i64 3,.int .i64 5,.string ⟨⟨[78,79,75]⟩⟩,.string ⟨⟨[53,55,56]⟩⟩,.int .i64 2,.int .i64 100,.string ⟨⟨[78,90,68]⟩⟩,.string ⟨⟨[53,53,52]⟩⟩,.int .i64 2,.int .i64 10,.string ⟨⟨[80,76,78]⟩⟩,.string ⟨⟨[57,56,53]⟩⟩,.int .i64 2,.int .i64 1,.string ⟨⟨[83,69,75]⟩⟩,.string ⟨⟨[55,53,50]⟩⟩,.int .i64 2,.int .i64 100,.string ⟨⟨[84,78,68]⟩⟩,.string ⟨⟨[55,56,56]⟩⟩,.int .i64 3,.int .i64 10,.string ⟨⟨[85,83,68]⟩⟩,.string ⟨⟨[56,52,48]⟩⟩,.int .i64 2,.int .i64 1] 122 fun b1 c1 =>
 .ret [.slice (qA b1) 20 c1]
theorem IV :aP bX 123 [] (xr ) :=aq
def TH:An:=⟨[(2,[.s 11],[.oI])],[],[]⟩
def Dh (x0:ByteArray) (x1:Int) (x2:Int) (x3:Int) (x4:Int):T :=
 .lp [.oI] [.vI 0] fun y1 =>
 .bd (y1.1<(↑x0.size:Int)) (
  .rI y1.1 (↑x0.size:Int) <|
 .bd (de x0 (Int.toNat y1.1)<x1) (
   .rI y1.1 (↑x0.size:Int) <|
 .bd (de x0 (Int.toNat y1.1)<x3) (
    .rF) <|
 .rI y1.1 (↑x0.size:Int) <|
 .bd (de x0 (Int.toNat y1.1) > x4) (
    .rF) <|
 .nx 0 [.vI (i64.wrap (y1.1+(1:Int)))]) <|
 .rI y1.1 (↑x0.size:Int) <|
 .bd (de x0 (Int.toNat y1.1) > x2) (
   .rI y1.1 (↑x0.size:Int) <|
 .bd (de x0 (Int.toNat y1.1)<x3) (
    .rF) <|
 .rI y1.1 (↑x0.size:Int) <|
 .bd (de x0 (Int.toNat y1.1) > x4) (
    .rF) <|
 .nx 0 [.vI (i64.wrap (y1.1+(1:Int)))]) <|
 .nx 0 [.vI (i64.wrap (y1.1+(1:Int)))]) <|
 .ret [.bool (decide ((↑x0.size:Int) > (0:Int)))]
theorem TI x0 x1 x2 x3 x4:aP TH 124 [.string x0,.int .u8 x1,.int .u8 x2,.int .u8 x3,.int .u8 x4] (Dh x0 x1 x2 x3 x4) :=aq
def IW (x0:yv):T :=
 .bN 126 [qL x0.2.1] fun y1 =>
 .br y1 (
  .br (!x0.1) (
   .rT) <|
 .ret [.bool (decide ((↑x0.2.1.n:Int) > (0:Int)))]) <|
 .rF
theorem Ye x0:aP bX 125 [cV x0] (IW x0) :=aq
def Yf:An:=⟨[(2,[.s 7],[.oI])],[],[]⟩
def IX (x0:ar):T :=
 .lp [.oI] [.vI 0] fun y1 =>
 .bd (y1.1<(↑x0.n:Int)) (
  .el x0.1 (x0.n) y1.1 fun y2 =>
  .dy (y2.add (Int.toNat y1.1*(1:Nat))) fun y3 =>
  .bN 143 [.int .i64 y3,.int .i64 0,.int .i64 999999999] fun y4 =>
  .bF y4 <|
 .nx 0 [.vI (i64.wrap (y1.1+(1:Int)))]) <|
 .bd ((↑x0.n:Int)<=(50:Int)) (
  .br ((↑x0.n:Int) == (0:Int)) (
   .rT) <|
 .el x0.1 (x0.n) (i64.wrap ((↑x0.n:Int)-(1:Int))) fun y2 =>
  .dy (y2.add ((i64.wrap ((↑x0.n:Int)-(1:Int))).toNat*(1:Nat))) fun y3 =>
  .ret [.bool (y3 != (0:Int))]) <|
 .rF
theorem Yg x0:aP Yf 126 [qL x0] (IX x0) :=aq
def TJ:An:=⟨[(6,[.s 5],[.oI])],[],[]⟩
def Di (x0:ar) (x1:ar):T :=
 .br ((↑x0.n:Int) != (↑x1.n:Int)) (
  .bd ((↑x0.n:Int)<(↑x1.n:Int)) (
   .rM) <|
 .ret [.int .i64 1]) <|
 .lp [.oI] [.vI (i64.wrap ((↑x0.n:Int)-(1:Int)))] fun y1 =>
 .bd (y1.1>=(0:Int)) (
  .rg <|
 .el x0.1 (x0.n) y1.1 fun y2 =>
  .o7 (y2.add (Int.toNat y1.1*(1:Nat))) fun y3 =>
  .el x1.1 (x1.n) y1.1 fun y4 =>
  .o7 (y4.add (Int.toNat y1.1*(1:Nat))) fun y5 =>
  .bd (y3<y5) (
   .rM) <|
 .rg <|
 .el x0.1 (x0.n) y1.1 fun y6 =>
  .o7 (y6.add (Int.toNat y1.1*(1:Nat))) fun y7 =>
  .el x1.1 (x1.n) y1.1 fun y8 =>
  .o7 (y8.add (Int.toNat y1.1*(1:Nat))) fun y9 =>
  .bd (y7 > y9) (
   .ret [.int .i64 1]) <|
 .nx 0 [.vI (i64.wrap (y1.1-(1:Int)))]) <|
 .ret [.int .i64 0]
theorem TK x0 x1:aP TJ 127 [qL x0,qL x1] (Di x0 x1) :=aq
def TL:An:=⟨[(5,[.s 5,.s 6],[.oL,.oL])],[],[]⟩
def Dj (x0:ar) (x1:ar):T :=
 .bN 126 [qL x0] fun y1 =>
 .bn y1 (.ret [.slice none 0 0]) <|
 .bN 126 [qL x1] fun y2 =>
 .bn y2 (.ret [.slice none 0 0]) <|
 .rd ({ a:=x0.1,n:=x0.n,c:=x0.c:ar }) ((1:Nat)) fun y3 =>
 .rq (one y3=true/\((0:Nat)+x0.n)*(8:Nat)<=(140737488355328:Nat)/\(0:Nat)+x0.n<=(9223372036854775807:Nat)) <|
 .rd ({ a:=x1.1,n:=x1.n,c:=x1.c:ar }) ((1:Nat)) fun y4 =>
 .rq (one y4=true/\((0:Nat)+x1.n)*(8:Nat)<=(140737488355328:Nat)/\(0:Nat)+x1.n<=(9223372036854775807:Nat)) <|
 .fz ((0:Nat)+x0.n) ([]++y3) 3 fun b5 c5 =>
 .fz ((0:Nat)+x1.n) ([]++y4) 3 fun b6 c6 =>
 .lp [.oL,.oL] [.v (.slice (qA b5) ((0:Nat)+x0.n) (c5)),.v (.slice (qA b6) ((0:Nat)+x1.n) (c6))] fun y7 =>
 .bd ((↑y7.2.1.n:Int) > (0:Int)) (
  .qc56 193 [qL y7.1,qL y7.2.1] fun y8 =>
  .nx 0 [.vL y7.2.1,.vL y8.2.1]) <|
 .ret [qL y7.1]
theorem TM x0 x1:aP TL 128 [qL x0,qL x1] (Dj x0 x1) :=aq
def Dk (x0:WQ) (x1:WQ):T :=
 .bN 74 [lS x0] fun y1 =>
 .bn y1 (.ret [.int .i64 0]) <|
 .bN 74 [lS x1] fun y2 =>
 .bn y2 (.ret [.int .i64 0]) <|
 .rg <|
 .Rj 194 [qL x0.2.1,qL x1.2.2.1] fun y3 =>
 .Ih 158 [.bool x0.1,qL y3] fun y4 =>
 .Rj 194 [qL x1.2.1,qL x0.2.2.1] fun y5 =>
 .kg 158 [.bool x1.1,qL y5] fun y6 =>
 .eR 93 [cV y4,cV y6] fun y7 =>
 .ret [.int .i64 y7]
theorem TN x0 x1:aP bX 129 [lS x0,lS x1] (Dk x0 x1) :=aq
def z7 :T :=
 .fz 1 [.int .i64 1] 3 fun b1 c1 =>
 .ret [lS ((false),ai,(⟨(some { block:=b1,off:=(0:Nat):Addr }),((1:Nat)),(c1)⟩:ar),())]
theorem N9 :aP bX 130 [] (z7 ) :=aq
def IY (x0:SU):T :=
 .bN 125 [cV (x0.1,x0.2.1,())] fun y1 =>
 .br y1 (
  .bd ((↑x0.2.1.n:Int)<=(6:Int)) (
   .bN 143 [.int .i64 x0.2.2.1,.int .i64 0,.int .i64 30] fun y2 =>
   .ret [.bool y2]) <|
 .rF) <|
 .rF
theorem Yh x0:aP bX 131 [cA x0] (IY x0) :=aq
def xw (x0:vr):T :=
 .rg <|
 .es [] 3 fun b1 =>
 .ra ({ a:=x0.2.2.1.1,n:=x0.2.2.1.n,c:=x0.2.2.1.c:ar }) ((1:Nat)) fun y2 =>
 .rq (one y2=true/\x0.2.2.1.n*(8:Nat)<=(140737488355328:Nat)/\x0.2.2.1.n<=(9223372036854775807:Nat)) <|
 .bd (x0.2.2.1.n=(0:Nat)) (
  .ret [ct (x0.1,x0.2.1,(⟨(some { block:=b1,off:=(0:Nat):Addr }),((0:Nat)),((0:Nat))⟩:ar),())]) <|
 .fz (x0.2.2.1.n) y2 3 fun b3 c3 =>
 .ret [ct (x0.1,x0.2.1,(⟨(some { block:=b3,off:=(0:Nat):Addr }),(x0.2.2.1.n),(c3)⟩:ar),())]
theorem IZ x0:aP bX 132 [ct x0] (xw x0) :=aq
def TO (x0:WQ):T :=
 .rg <|
 .es [] 3 fun b1 =>
 .ra ({ a:=x0.2.1.1,n:=x0.2.1.n,c:=x0.2.1.c:ar }) ((1:Nat)) fun y2 =>
 .rq (one y2=true/\x0.2.1.n*(8:Nat)<=(140737488355328:Nat)/\x0.2.1.n<=(9223372036854775807:Nat)) <|
 .bd (x0.2.1.n=(0:Nat)) (
  .es [] 3 fun b3 =>
  .ra ({ a:=x0.2.2.1.1,n:=x0.2.2.1.n,c:=x0.2.2.1.c:ar }) ((1:Nat)) fun y4 =>
  .rq (one y4=true/\x0.2.2.1.n*(8:Nat)<=(140737488355328:Nat)/\x0.2.2.1.n<=(9223372036854775807:Nat)) <|
 .bd (x0.2.2.1.n=(0:Nat)) (
   .ret [lS (x0.1,(⟨(some { block:=b1,off:=(0:Nat):Addr }),((0:Nat)),((0:Nat))⟩:ar),(⟨(some { block:=b3,off:=(0:Nat):Addr }),((0:Nat)),((0:Nat))⟩:ar),())]) <|
 .fz (x0.2.2.1.n) y4 3 fun b5 c5 =>
  .ret [lS (x0.1,(⟨(some { block:=b1,off:=(0:Nat):Addr }),((0:Nat)),((0:Nat))⟩:ar),(⟨(some { block:=b5,off:=(0:Nat):Addr }),(x0.2.2.1.n),(c5)⟩:ar),())]) <|
 .fz (x0.2.1.n) y2 3 fun b3 c3 =>
 .es [] 3 fun b4 =>
 .ra ({ a:=x0.2.2.1.1,n:=x0.2.2.1.n,c:=x0.2.2.1.c:ar }) ((1:Nat)) fun y5 =>
 .rq (one y5=true/\x0.2.2.1.n*(8:Nat)<=(140737488355328:Nat)/\x0.2.2.1.n<=(9223372036854775807:Nat)) <|
 .bd (x0.2.2.1.n=(0:Nat)) (
  .ret [lS (x0.1,(⟨(some { block:=b3,off:=(0:Nat):Addr }),(x0.2.1.n),(c3)⟩:ar),(⟨(some { block:=b4,off:=(0:Nat):Addr }),((0:Nat)),((0:Nat))⟩:ar),())]) <|
 .fz (x0.2.2.1.n) y5 3 fun b6 c6 =>
 .ret [lS (x0.1,(⟨(some { block:=b3,off:=(0:Nat):Addr }),(x0.2.1.n),(c3)⟩:ar),(⟨(some { block:=b6,off:=(0:Nat):Addr }),(x0.2.2.1.n),(c6)⟩:ar),())]
theorem TP x0:aP bX 133 [lS x0] (TO x0) :=aq
noncomputable def z8 (x0:ar):T :=
 .br ((↑x0.n:Int) == (0:Int)) (
  .ret [.string ba,qL x0]) <|
 .rg <|
 .el x0.1 (x0.n) ((0:Int)) fun y1 =>
 .mQ (y1.add (Int.toNat (0:Int)*(1:Nat))) fun y2 =>
 .rq ((0:Int)<=(1:Int)/\(1:Int)<=(↑x0.n:Int)/\(↑x0.n:Int)<=(↑x0.c:Int)/\(↑x0.c:Int)<=(↑x0.c:Int)) <|
 .ret [.string y2,.slice (if (↑x0.c:Int).toNat=Int.toNat (1:Int) then x0.1 else Option.map (fun x=>x.add (Int.toNat (1:Int)*Go.Proofs.Tryz.prog.types[(9:Nat)].size)) x0.1) ((↑x0.n:Int).toNat-Int.toNat (1:Int)) ((↑x0.c:Int).toNat-Int.toNat (1:Int))]
theorem N' x0:aP bX 134 [qL x0] (z8 x0) :=aq
def Yi (x0:ByteArray):T :=
 .jl 139 [.string x0,.string ⟨⟨[32]⟩⟩] fun y1 =>
 .ret [qL y1]
theorem fS_Cut x0:aP bX 135 [.string x0] (Yi x0) :=aq
def TQ:An:=⟨[(2,[.s 3],[.oI])],[],[]⟩
def Dl (x0:ByteArray):T :=
 .lp [.oI] [.vI 1] fun y1 =>
 .bd (y1.1<=(9:Int)) (
  .cM 86 [.int .i64 y1.1] fun y2 =>
  .br (y2.toList == x0.toList) (
   .ret [.int .i64 y1.1]) <|
 .nx 0 [.vI (i64.wrap (y1.1+(1:Int)))]) <|
 .ret [.int .i64 0]
theorem TR x0:aP TQ 136 [.string x0] (Dl x0) :=aq
def xx (x0:ByteArray):T :=
 .jl 135 [.string x0] fun y1 =>
 .br ((↑y1.n:Int) != (3:Int)) (
  .ret [fV (ba,ba,(false),ai,(((0:Int)):Int),()),.bool (false)]) <|
 .el y1.1 (y1.n) ((2:Int)) fun y2 =>
 .iy (y2.add (Int.toNat (2:Int)*(1:Nat))) fun y3 =>
 .Ch 195 [.string y3] fun y4 =>
 .rg <|
 .el y1.1 (y1.n) ((0:Int)) fun y5 =>
 .mQ (y5.add (Int.toNat (0:Int)*(1:Nat))) fun y6 =>
 .el y1.1 (y1.n) ((1:Int)) fun y7 =>
 .mQ (y7.add (Int.toNat (1:Int)*(1:Nat))) fun y8 =>
 .bn y4.2.1 (.ret [fV (ba,ba,(false),ai,(((0:Int)):Int),()),.bool (false)]) <|
 .bN 76 [fV (y6,y8,y4.1.1,y4.1.2.1,((y4.1.2.2.1):Int),())] fun y9 =>
 .bn y9 (.ret [fV (ba,ba,(false),ai,(((0:Int)):Int),()),.bool (false)]) <|
 .cM 87 [fV (y6,y8,y4.1.1,y4.1.2.1,((y4.1.2.2.1):Int),())] fun dM =>
 .br (!dM.toList == x0.toList) (
  .ret [fV (ba,ba,(false),ai,(((0:Int)):Int),()),.bool (false)]) <|
 .ret [fV (y6,y8,y4.1.1,y4.1.2.1,((y4.1.2.2.1):Int),()),.bool (true)]
theorem I0 x0:aP bX 137 [.string x0] (xx x0) :=aq
def tU (x0:ByteArray):T :=
 .jl 135 [.string x0] fun y1 =>
 .br ((↑y1.n:Int) != (2:Int)) (
  .ret [ct (ba,(false),ai,()),.bool (false)]) <|
 .el y1.1 (y1.n) ((1:Int)) fun y2 =>
 .iy (y2.add (Int.toNat (1:Int)*(1:Nat))) fun y3 =>
 .Ch 195 [.string y3] fun y4 =>
 .rg <|
 .el y1.1 (y1.n) ((0:Int)) fun y5 =>
 .mQ (y5.add (Int.toNat (0:Int)*(1:Nat))) fun y6 =>
 .Ii 196 [.string y6,cV (y4.1.1,y4.1.2.1,())] fun y7 =>
 .bn y4.2.1 (.ret [ct (ba,(false),ai,()),.bool (false)]) <|
 .bn y7.2.1 (.ret [ct (ba,(false),ai,()),.bool (false)]) <|
 .cM 88 [ct y7.1] fun y8 =>
 .br (!y8.toList == x0.toList) (
  .ret [ct (ba,(false),ai,()),.bool (false)]) <|
 .ret [ct y7.1,.bool (true)]
theorem FD x0:aP bX 138 [.string x0] (tU x0) :=aq
def Yj:An:=⟨[(4,[.s 5,.s 6,.s 7],[.a 9,.oI,.oI]),(7,[.s 5,.s 6,.s 8],[.a 9,.oI,.oI])],[],[]⟩
def I1 (x0:ByteArray) (x1:ByteArray):T :=
 .lp [.a 9,.oI,.oI] [.a 9 ((0:Nat)) [],.vI 0,.vI 0] fun y1 =>
 .bd (y1.2.2.1<(↑x0.size:Int)) (
  .lp [.a 9,.oI,.oI] [.a 9 y1.1.1 y1.1.2,.vI y1.2.1,.vI 0] fun y2 =>
  .bd (y2.2.2.1<(↑x1.size:Int)) (
   .rg <|
 .rI y1.2.2.1 (↑x0.size:Int) <|
 .rI y2.2.2.1 (↑x1.size:Int) <|
 .br (de x0 (Int.toNat y1.2.2.1) == de x1 (Int.toNat y2.2.2.1)) (
    .rq ((0:Int)<=y2.2.1/\y2.2.1<=y1.2.2.1/\y1.2.2.1<=(↑x0.size:Int)) <|
 .rL [Value.string (x0.extract (Int.toNat y2.2.1) (Int.toNat y1.2.2.1))] 1 1 <|
 .rO [Value.string (x0.extract (Int.toNat y2.2.1) (Int.toNat y1.2.2.1))] (y2.1.1+(1:Nat)) 16 <|
 .nx 0 [.a 9 (y2.1.1+(1:Nat)) (y2.1.2++[Value.string (x0.extract (Int.toNat y2.2.1) (Int.toNat y1.2.2.1))]),.vI (i64.wrap (y1.2.2.1+(1:Int))),.vI (i64.wrap (y1.2.2.1+(1:Int)))]) <|
 .nx 1 [.a 9 y2.1.1 y2.1.2,.vI y2.2.1,.vI (i64.wrap (y2.2.2.1+(1:Int)))]) <|
 .nx 0 [.a 9 y2.1.1 y2.1.2,.vI y2.2.1,.vI (i64.wrap (y1.2.2.1+(1:Int)))]) <|
 .rq ((0:Int)<=y1.2.1/\y1.2.1<=(↑x0.size:Int)/\(↑x0.size:Int)<=(↑x0.size:Int)) <|
 .rL [Value.string (x0.extract (Int.toNat y1.2.1) (↑x0.size:Int).toNat)] 1 1 <|
 .rO [Value.string (x0.extract (Int.toNat y1.2.1) (↑x0.size:Int).toNat)] (y1.1.1+(1:Nat)) 16 <|
 .fz (y1.1.1+(1:Nat)) (y1.1.2++[Value.string (x0.extract (Int.toNat y1.2.1) (↑x0.size:Int).toNat)]) 9 fun b2 c2 =>
 .ret [.slice (qA b2) (y1.1.1+(1:Nat)) (c2)]
theorem Yk x0 x1:aP Yj 139 [.string x0,.string x1] (I1 x0 x1) :=aq
def I2 (x0:Int) (x1:Int) (x2:Int):T :=
 .bd (x0>=x1) (
  .ret [.bool (decide (x0<=x2))]) <|
 .rF
theorem Yl x0 x1 x2:aP bX 143 [.int .i64 x0,.int .i64 x1,.int .i64 x2] (I2 x0 x1 x2) :=aq
def tS_Do (x0:nn) (x1:qy8):T :=
 .bN 84 [l8 x1] fun y1 =>
 .bn y1 (.ret [aU (ai,ai,ba,ai,()),.int .i64 1]) <|
 .br (x1.1 == (1:Int)) (
  .nq 198 [aU x0,.string x1.2.1,.string x1.2.2.2.2.1] fun y2 =>
  .ret [aU y2.1,.int .i64 y2.2.1]) <|
 .br (x1.1 == (2:Int)) (
  .nq 199 [aU x0,.string x1.2.1,ct (x1.2.2.2.2.2.1,x1.2.2.2.2.2.2.1,x1.2.2.2.2.2.2.2.1,())] fun y2 =>
  .ret [aU y2.1,.int .i64 y2.2.1]) <|
 .br (x1.1 == (3:Int)) (
  .nq 200 [aU x0,.string x1.2.1,ct (x1.2.2.2.2.2.1,x1.2.2.2.2.2.2.1,x1.2.2.2.2.2.2.2.1,())] fun y2 =>
  .ret [aU y2.1,.int .i64 y2.2.1]) <|
 .br (x1.1 == (4:Int)) (
  .nq 201 [aU x0,.string x1.2.1,.string x1.2.2.1,ct (x1.2.2.2.2.2.1,x1.2.2.2.2.2.2.1,x1.2.2.2.2.2.2.2.1,())] fun y2 =>
  .ret [aU y2.1,.int .i64 y2.2.1]) <|
 .br (x1.1 == (5:Int)) (
  .nq 202 [aU x0,.string x1.2.1,.string x1.2.2.1,ct (x1.2.2.2.2.2.1,x1.2.2.2.2.2.2.1,x1.2.2.2.2.2.2.2.1,()),.int .i64 x1.2.2.2.2.2.2.2.2.1] fun y2 =>
  .ret [aU y2.1,.int .i64 y2.2.1]) <|
 .br (x1.1 == (6:Int)) (
  .nq 203 [aU x0,.string x1.2.1,qL x1.2.2.2.2.2.2.2.2.2.1,qL x1.2.2.2.2.2.2.2.2.2.2.1,ct (x1.2.2.2.2.2.1,x1.2.2.2.2.2.2.1,x1.2.2.2.2.2.2.2.1,())] fun y2 =>
  .ret [aU y2.1,.int .i64 y2.2.1]) <|
 .br (x1.1 == (7:Int)) (
  .nq 204 [aU x0,.string x1.2.1,.string x1.2.2.1,.string x1.2.2.2.1,ct (x1.2.2.2.2.2.1,x1.2.2.2.2.2.2.1,x1.2.2.2.2.2.2.2.1,()),cA (x1.2.2.2.2.2.2.2.2.2.2.2.1,x1.2.2.2.2.2.2.2.2.2.2.2.2.1,((x1.2.2.2.2.2.2.2.2.2.2.2.2.2.1):Int),()),.int .i64 x1.2.2.2.2.2.2.2.2.1] fun y2 =>
  .ret [aU y2.1,.int .i64 y2.2.1]) <|
 .br (x1.1 == (8:Int)) (
  .nq 205 [aU x0,.string x1.2.1,.int .i64 x1.2.2.2.2.2.2.2.2.1] fun y2 =>
  .ret [aU y2.1,.int .i64 y2.2.1]) <|
 .nq 206 [aU x0,fV x1.2.2.2.2.2.2.2.2.2.2.2.2.2.2] fun y2 =>
 .ret [aU y2.1,.int .i64 y2.2.1]
theorem fS_Do x0 x1:aP bX 144 [aU x0,l8 x1] (tS_Do x0 x1) :=aq
def I3 (x0:Int):T :=
 .bN 143 [.int .i64 x0,.int .i64 1,.int .i64 9] fun y1 =>
 .ret [.bool y1]
theorem Ym x0:aP bX 145 [.int .i64 x0] (I3 x0) :=aq
def Dm (x0:ByteArray):T :=
 .bN 124 [.string x0,.int .u8 ((65:Int)),.int .u8 ((90:Int)),.int .u8 ((65:Int)),.int .u8 ((90:Int))] fun y1 =>
 .br y1 (
  .ret [.bool ((↑x0.size:Int) == (3:Int))]) <|
 .rF
theorem TS x0:aP bX 146 [.string x0] (Dm x0) :=aq
def xy (x0:vr):T :=
 .bN 73 [ct x0] fun y1 =>
 .br y1 (
  .ret [.bool (!x0.2.1)]) <|
 .rF
theorem I4 x0:aP bX 147 [ct x0] (xy x0) :=aq
def Aa (x0:SU):T :=
 .bN 131 [cA x0] fun y1 =>
 .bn y1 (.ret [.string ba]) <|
 .rg <|
 .qO 210 [qL x0.2.1] fun y2 =>
 .cM 209 [.string y2,.int .i64 (i64.wrap (x0.2.2.1+(1:Int)))] fun y3 =>
 .bd (x0.2.2.1 > (0:Int)) (
  .rg <|
 .rq ((0:Int)<=(0:Int)/\(0:Int)<=i64.wrap ((↑y3.size:Int)-x0.2.2.1)/\i64.wrap ((↑y3.size:Int)-x0.2.2.1)<=(↑y3.size:Int)) <|
 .rN ((y3.extract (Int.toNat (0:Int)) (i64.wrap ((↑y3.size:Int)-x0.2.2.1)).toNat).size+(⟨⟨[46]⟩⟩:ByteArray).size) <|
 .rq ((0:Int)<=i64.wrap ((↑y3.size:Int)-x0.2.2.1)/\i64.wrap ((↑y3.size:Int)-x0.2.2.1)<=(↑y3.size:Int)/\(↑y3.size:Int)<=(↑y3.size:Int)) <|
 .rN ((y3.extract (Int.toNat (0:Int)) (i64.wrap ((↑y3.size:Int)-x0.2.2.1)).toNat++(⟨⟨[46]⟩⟩:ByteArray)).size+(y3.extract (i64.wrap ((↑y3.size:Int)-x0.2.2.1)).toNat (↑y3.size:Int).toNat).size) <|
 .br x0.1 (
   .rN ((⟨⟨[45]⟩⟩:ByteArray).size+(y3.extract (Int.toNat (0:Int)) (i64.wrap ((↑y3.size:Int)-x0.2.2.1)).toNat++(⟨⟨[46]⟩⟩:ByteArray)++y3.extract (i64.wrap ((↑y3.size:Int)-x0.2.2.1)).toNat (↑y3.size:Int).toNat).size) <|
 .ret [.string ((⟨⟨[45]⟩⟩:ByteArray)++(y3.extract (Int.toNat (0:Int)) (i64.wrap ((↑y3.size:Int)-x0.2.2.1)).toNat++(⟨⟨[46]⟩⟩:ByteArray)++y3.extract (i64.wrap ((↑y3.size:Int)-x0.2.2.1)).toNat (↑y3.size:Int).toNat))]) <|
 .ret [.string (y3.extract (Int.toNat (0:Int)) (i64.wrap ((↑y3.size:Int)-x0.2.2.1)).toNat++(⟨⟨[46]⟩⟩:ByteArray)++y3.extract (i64.wrap ((↑y3.size:Int)-x0.2.2.1)).toNat (↑y3.size:Int).toNat)]) <|
 .br x0.1 (
  .rN ((⟨⟨[45]⟩⟩:ByteArray).size+y3.size) <|
 .ret [.string ((⟨⟨[45]⟩⟩:ByteArray)++y3)]) <|
 .ret [.string y3]
theorem Oa x0:aP bX 151 [cA x0] (Aa x0) :=aq
def Ab (x0:SU):T :=
 .br (x0.2.2.1 == (0:Int)) (
  .br (!x0.1) (
   .ret [.bool ((↑x0.2.1.n:Int) == (0:Int))]) <|
 .rF) <|
 .rF
theorem Ob x0:aP bX 153 [cA x0] (Ab x0) :=aq
def tV (x0:ByteArray):T :=
 .qc23 71 [.string x0] fun y1 =>
 .ret [.int .i64 y1.2.2.1]
theorem FE x0:aP bX 154 [.string x0] (tV x0) :=aq
def Oc:An:=⟨[(6,[.s 0,.s 3],[.oI,.oS])],[],[]⟩
def Ac (x0:Int):T :=
 .bd (x0<(0:Int)) (
  .rZ (10:Int) <|
 .br (i64.wrap (x0.tdiv (10:Int)) == (0:Int)) (
   .fz 1 [.int .u8 (IntKind.u8.wrap (i64.wrap ((48:Int)-x0)))] 5 fun b1 c1 =>
   .rd ({ a:=some { block:=b1,off:=(0:Nat):Addr },n:=(1:Nat),c:=c1:ar }) ((1:Nat)) fun y2 =>
   .rq (bytesOf y2≠none) <|
 .rN ((⟨⟨[45]⟩⟩:ByteArray).size+(hJ y2).size) <|
 .ret [.string ((⟨⟨[45]⟩⟩:ByteArray)++hJ y2)]) <|
 .no) <|
 .lp [.oI,.oS] [.vI x0,.vS ba] fun y1 =>
 .bd (y1.1 > (9:Int)) (
  .rZ (10:Int) <|
 .fz 1 [.int .u8 (IntKind.u8.wrap (i64.wrap ((48:Int)+Int.tmod y1.1 (10:Int))))] 5 fun b2 c2 =>
  .rd ({ a:=some { block:=b2,off:=(0:Nat):Addr },n:=(1:Nat),c:=c2:ar }) ((1:Nat)) fun y3 =>
  .rq (bytesOf y3≠none) <|
 .rN ((hJ y3).size+ByteArray.size y1.2.1) <|
 .rZ (10:Int) <|
 .nx 0 [.vI (i64.wrap (Int.tdiv y1.1 (10:Int))),.vS (hJ y3++y1.2.1)]) <|
 .fz 1 [.int .u8 (IntKind.u8.wrap (i64.wrap ((48:Int)+y1.1)))] 5 fun b2 c2 =>
 .rd ({ a:=some { block:=b2,off:=(0:Nat):Addr },n:=(1:Nat),c:=c2:ar }) ((1:Nat)) fun y3 =>
 .rq (bytesOf y3≠none) <|
 .rN ((hJ y3).size+ByteArray.size y1.2.1) <|
 .ret [.string (hJ y3++y1.2.1)]
theorem Od x0:aP Oc 155 [.int .i64 x0] (Ac x0) :=aq
def rQ (x0:Bool) (x1:ar):T :=
 .jl 215 [qL x1] fun y1 =>
 .br x0 (
  .rd ({ a:=y1.1,n:=y1.n,c:=y1.c:ar }) ((1:Nat)) fun y2 =>
  .rq (one y2=true/\((0:Nat)+y1.n)*(8:Nat)<=(140737488355328:Nat)/\(0:Nat)+y1.n<=(9223372036854775807:Nat)) <|
 .fz ((0:Nat)+y1.n) ([]++y2) 3 fun b3 c3 =>
  .ret [cV ((decide ((↑y1.n:Int) > (0:Int))),(⟨(some { block:=b3,off:=(0:Nat):Addr }),((0:Nat)+y1.n),(c3)⟩:ar),())]) <|
 .rd ({ a:=y1.1,n:=y1.n,c:=y1.c:ar }) ((1:Nat)) fun y2 =>
 .rq (one y2=true/\((0:Nat)+y1.n)*(8:Nat)<=(140737488355328:Nat)/\(0:Nat)+y1.n<=(9223372036854775807:Nat)) <|
 .fz ((0:Nat)+y1.n) ([]++y2) 3 fun b3 c3 =>
 .ret [cV ((false),(⟨(some { block:=b3,off:=(0:Nat):Addr }),((0:Nat)+y1.n),(c3)⟩:ar),())]
theorem Ad x0 x1:aP bX 158 [.bool x0,qL x1] (rQ x0 x1) :=aq
def Ae (x0:vr):T :=
 .kg 160 [cV x0.2] fun y1 =>
 .ret [ct (x0.1,y1.1,y1.2.1,())]
theorem Oe x0:aP bX 159 [ct x0] (Ae x0) :=aq
def xz (x0:yv):T :=
 .jl 161 [qL x0.2.1] fun y1 =>
 .ret [cV (x0.1,y1,())]
theorem I5 x0:aP bX 160 [cV x0] (xz x0) :=aq
def TT:An:=⟨[(3,[.s 3,.s 4],[.a 3,.oI])],[],[]⟩
def TU (x0:ar):T :=
 .rq ((0:Int)<=(↑x0.n:Int)/\(↑x0.n:Int)<=(↑x0.n:Int)/\(↑(8:Nat):Int)*(↑x0.n:Int)<=(281474976710656:Int)/\(↑x0.n:Int)<=(9223372036854775807:Int)) <|
 .lp [.a 3,.oI] [.a 3 ((↑x0.n:Int).toNat) ((madeCells { toList:=[Value.int IntKind.i64 (0:Int)]:Array Value } ((↑x0.n:Int).toNat*(1:Nat))).toList),.vI 0] fun y1 =>
 .bd (y1.2.1<(↑x0.n:Int)) (
  .el x0.1 (x0.n) y1.2.1 fun y2 =>
  .dy (y2.add (Int.toNat y1.2.1*(1:Nat))) fun y3 =>
  .rI y1.2.1 (↑y1.1.1:Int) <|
 .rq (Int.toNat y1.2.1*(1:Nat)+[(dx.o (Sc.i IntKind.i64)).val y3].length<=y1.1.2.length) <|
 .nx 0 [.a 3 y1.1.1 (aX y1.1.2 (Int.toNat y1.2.1*(1:Nat)) [(dx.o (Sc.i IntKind.i64)).val y3]),.vI (i64.wrap (y1.2.1+(1:Int)))]) <|
 .fz y1.1.1 y1.1.2 3 fun b2 c2 =>
 .ret [.slice (qA b2) y1.1.1 (c2)]
theorem TV x0:aP TT 161 [qL x0] (TU x0) :=aq
def I6 (x0:SU):T :=
 .kg 160 [cV (x0.1,x0.2.1,())] fun y1 =>
 .ret [cA (y1.1,y1.2.1,((x0.2.2.1):Int),())]
theorem Yn x0:aP bX 162 [cA x0] (I6 x0) :=aq
def Af (x0:Int):T :=
 .bd (x0>=(97:Int)) (
  .ret [.bool (decide (x0<=(122:Int)))]) <|
 .rF
theorem Oh x0:aP bX 163 [.int .u8 x0] (Af x0) :=aq
def Ag (x0:Int):T :=
 .bd (x0>=(48:Int)) (
  .ret [.bool (decide (x0<=(57:Int)))]) <|
 .rF
theorem Oi x0:aP bX 164 [.int .u8 x0] (Ag x0) :=aq
def I7 (x0:yv):T :=
 .bN 166 [qL x0.2.1] fun y1 =>
 .br y1 (
  .br (!x0.1) (
   .rT) <|
 .ret [.bool (decide ((↑x0.2.1.n:Int) > (0:Int)))]) <|
 .rF
theorem Yo x0:aP bX 165 [cV x0] (I7 x0) :=aq
def Yp:An:=⟨[(4,[.s 24],[.oI])],[],[]⟩
def I8 (x0:ar):T :=
 .bd ((↑x0.n:Int) > (50:Int)) (
  .rF) <|
 .bd ((↑x0.n:Int) > (0:Int)) (
  .el x0.1 (x0.n) (i64.wrap ((↑x0.n:Int)-(1:Int))) fun y1 =>
  .dy (y1.add ((i64.wrap ((↑x0.n:Int)-(1:Int))).toNat*(1:Nat))) fun y2 =>
  .br (y2 == (0:Int)) (
   .rF) <|
 .lp [.oI] [.vI 0] fun y3 =>
  .bd (y3.1<(↑x0.n:Int)) (
   .el x0.1 (x0.n) y3.1 fun y4 =>
   .dy (y4.add (Int.toNat y3.1*(1:Nat))) fun y5 =>
   .bd (y5<(0:Int)) (
    .rF) <|
 .bd (y5>=(1000000000:Int)) (
    .rF) <|
 .nx 0 [.vI (i64.wrap (y3.1+(1:Int)))]) <|
 .rT) <|
 .lp [.oI] [.vI 0] fun y1 =>
 .bd (y1.1<(↑x0.n:Int)) (
  .el x0.1 (x0.n) y1.1 fun y2 =>
  .dy (y2.add (Int.toNat y1.1*(1:Nat))) fun y3 =>
  .bd (y3<(0:Int)) (
   .rF) <|
 .bd (y3>=(1000000000:Int)) (
   .rF) <|
 .nx 0 [.vI (i64.wrap (y1.1+(1:Int)))]) <|
 .rT
theorem Yq x0:aP Yp 166 [qL x0] (I8 x0) :=aq
def TW:An:=⟨[(1,[.s 0,.s 1],[.oL,.oL])],[],[]⟩
def Dn (x0:ar) (x1:ar):T :=
 .lp [.oL,.oL] [.vL x0,.vL x1] fun y1 =>
 .bd ((↑y1.2.1.n:Int) > (0:Int)) (
  .qc56 216 [qL y1.1,qL y1.2.1] fun y2 =>
  .nx 0 [.vL y1.2.1,.vL y2.2.1]) <|
 .jl 188 [qL y1.1] fun y2 =>
 .ret [qL y2]
theorem TX x0 x1:aP TW 167 [qL x0,qL x1] (Dn x0 x1) :=aq
def I9 (x0:SU):T :=
 .bN 165 [cV (x0.1,x0.2.1,())] fun y1 =>
 .br y1 (
  .bd ((↑x0.2.1.n:Int)<=(6:Int)) (
   .bN 217 [.int .i64 x0.2.2.1] fun y2 =>
   .ret [.bool y2]) <|
 .rF) <|
 .rF
theorem Yr x0:aP bX 168 [cA x0] (I9 x0) :=aq
def FF:An:=⟨[],[],[(3,[.s 3])]⟩
noncomputable def tW (x0:vr):T :=
 .rq ((0:Int)<=(↑x0.2.2.1.n:Int)/\(↑x0.2.2.1.n:Int)<=(↑x0.2.2.1.n:Int)/\(↑(8:Nat):Int)*(↑x0.2.2.1.n:Int)<=(281474976710656:Int)/\(↑x0.2.2.1.n:Int)<=(9223372036854775807:Int)) <|
 .rd ({ a:=x0.2.2.1.1,n:=x0.2.2.1.n,c:=x0.2.2.1.c:ar }) ((1:Nat)) fun y1 =>
 .rq (one y1=true) <|
 .fz ((↑x0.2.2.1.n:Int).toNat) (aX (madeCells { toList:=[Value.int IntKind.i64 (0:Int)]:Array Value } ((↑x0.2.2.1.n:Int).toNat*(1:Nat))).toList (0:Nat) (List.take (x0.2.2.1.n.min (↑x0.2.2.1.n:Int).toNat) y1)) 3 fun b2 c2 =>
 .rg <|
 .rq ((0:Int)<=(0:Int)/\(0:Int)<=(↑(↑x0.2.2.1.n:Int).toNat:Int)/\(↑(↑x0.2.2.1.n:Int).toNat:Int)<=(↑(↑x0.2.2.1.n:Int).toNat:Int)/\(↑(↑x0.2.2.1.n:Int).toNat:Int)<=(↑c2:Int)) <|
 .ret [ct (x0.1,x0.2.1,(⟨(if (↑(↑x0.2.2.1.n:Int).toNat:Int).toNat=Int.toNat (0:Int) then some { block:=b2,off:=(0:Nat):Addr } else Option.map (fun x=>x.add (Int.toNat (0:Int)*Go.Proofs.Tryz.prog.types[(3:Nat)].size)) (some { block:=b2,off:=(0:Nat):Addr })),((↑(↑x0.2.2.1.n:Int).toNat:Int).toNat-Int.toNat (0:Int)),((↑(↑x0.2.2.1.n:Int).toNat:Int).toNat-Int.toNat (0:Int))⟩:ar),())]
theorem FG x0:aP FF 169 [ct x0] (tW x0) :=aq
def Ah (x0:WQ):T :=
 .rg <|
 .Ih 218 [cV (x0.1,x0.2.1,())] fun y1 =>
 .jl 188 [qL x0.2.2.1] fun y2 =>
 .ret [lS (y1.1,y1.2.1,y2,())]
theorem Oj x0:aP bX 170 [lS x0] (Ah x0) :=aq
def xA (x0:MS):T :=
 .rg <|
 .qc45 219 [cA x0.2.2] fun y1 =>
 .ret [fV (x0.1,x0.2.1,y1.1,y1.2.1,((y1.2.2.1):Int),())]
theorem I' x0:aP bX 171 [fV x0] (xA x0) :=aq
def Ys (x0:ByteArray):T :=
 .jl 220 [.string x0,.string ⟨⟨[32]⟩⟩] fun y1 =>
 .ret [qL y1]
theorem fI_Cut x0:aP bX 172 [.string x0] (Ys x0) :=aq
def TY:An:=⟨[(2,[.s 3],[.oI])],[],[]⟩
def Dp (x0:ByteArray):T :=
 .lp [.oI] [.vI 1] fun y1 =>
 .bd (y1.1<=(9:Int)) (
  .cM 111 [.int .i64 y1.1] fun y2 =>
  .br (y2.toList == x0.toList) (
   .ret [.int .i64 y1.1]) <|
 .nx 0 [.vI (i64.wrap (y1.1+(1:Int)))]) <|
 .ret [.int .i64 0]
theorem TZ x0:aP TY 173 [.string x0] (Dp x0) :=aq
def Ai (x0:Int):T :=
 .br (x0 == (8:Int)) (
  .ret [.int .i64 3]) <|
 .br (x0 == (4:Int)) (
  .ret [.int .i64 2]) <|
 .ret [.int .i64 1]
theorem Ol x0:aP bX 174 [.int .i64 x0] (Ai x0) :=aq
def iR (x0:Addr) (x1:ByteArray) (x2:Int):T :=
 .qc57 221 [.string x1,.int .i64 x2] fun y1 =>
 .br (x2 == (0:Int)) (
  .mo (.as (y1.1) 20 9 true) (.t [(.o (.s)),(.o (.b))]) fun y2 =>
  .st (x0.add (1:Nat)) [.string y2.1] <|
 .ret [.bool y2.2.1]) <|
 .br (x2 == (1:Int)) (
  .mo (.as (y1.1) 20 9 true) (.t [(.o (.s)),(.o (.b))]) fun y2 =>
  .st (x0.add (2:Nat)) [.string y2.1] <|
 .ret [.bool y2.2.1]) <|
 .br (x2 == (2:Int)) (
  .mo (.as (y1.1) 20 9 true) (.t [(.o (.s)),(.o (.b))]) fun y2 =>
  .st (x0.add (3:Nat)) [.string y2.1] <|
 .ret [.bool y2.2.1]) <|
 .br (x2 == (3:Int)) (
  .mo (.as (y1.1) 20 9 true) (.t [(.o (.s)),(.o (.b))]) fun y2 =>
  .st (x0.add (4:Nat)) [.string y2.1] <|
 .ret [.bool y2.2.1]) <|
 .br (x2 == (4:Int)) (
  .mo (.as (y1.1) 20 89 true) (.t [(.g [.s,.b,.l]),(.o (.b))]) fun y2 =>
  .st (x0.add (5:Nat)) [.string y2.1.1,.bool y2.1.2.1,qL y2.1.2.2.1] <|
 .ret [.bool y2.2.1]) <|
 .br (x2 == (5:Int)) (
  .qc58 222 [.string x1] fun y2 =>
  .st (x0.add (9:Nat)) [qL y2.1] <|
 .st (x0.add (10:Nat)) [qL y2.2.1] <|
 .ret [.bool y2.2.2.1]) <|
 .br (x2 == (6:Int)) (
  .mo (.as (y1.1) 20 84 true) (.t [(.g [.b,.l,.i .i64]),(.o (.b))]) fun y2 =>
  .st (x0.add (11:Nat)) [.bool y2.1.1,qL y2.1.2.1,.int .i64 y2.1.2.2.1] <|
 .ret [.bool y2.2.1]) <|
 .br (x2 == (7:Int)) (
  .mo (.as (y1.1) 20 3 true) (.t [(.o (.i .i64)),(.o (.b))]) fun y2 =>
  .st (x0.add (8:Nat)) [.int .i64 y2.1] <|
 .ret [.bool y2.2.1]) <|
 .br (x2 == (8:Int)) (
  .mo (.as (y1.1) 20 86 true) (.t [(.g [.s,.s,.b,.l,.i .i64]),(.o (.b))]) fun y2 =>
  .st (x0.add (14:Nat)) [.string y2.1.1,.string y2.1.2.1,.bool y2.1.2.2.1,qL y2.1.2.2.2.1,.int .i64 y2.1.2.2.2.2.1] <|
 .ret [.bool y2.2.1]) <|
 .rF
theorem kF x0 x1 x2:aP bX 175 [.pointer (some x0),.string x1,.int .i64 x2] (iR x0 x1 x2) :=aq
def Dq (x0:Int) (x1:ar):T :=
 .bd (x0<(0:Int)) (
  .ret [.string ba]) <|
 .bd (x0>=(↑x1.n:Int)) (
  .ret [.string ba]) <|
 .el x1.1 (x1.n) x0 fun y1 =>
 .iy (y1.add (x0.toNat*(1:Nat))) fun y2 =>
 .ret [.string y2]
theorem T0 x0 x1:aP bX 176 [.int .i64 x0,qL x1] (Dq x0 x1) :=aq
def tI_Do (x0:nn) (x1:qy8):T :=
 .bN 110 [l8 x1] fun y1 =>
 .bn y1 (.ret [aU (ai,ai,ba,ai,()),.int .i64 1]) <|
 .rg <|
 .qc59 224 [l8 x1] fun y2 =>
 .nq 223 [aU x0,y2.1] fun y3 =>
 .ret [aU y3.1,.int .i64 y3.2.1]
theorem fI_Do x0 x1:aP bX 177 [aU x0,l8 x1] (tI_Do x0 x1) :=aq
def tX (x0:Addr) (x1:Int):T :=
 .br (x1 == (0:Int)) (
  .iy (x0.add (1:Nat)) fun y1 =>
  .ret [.bool (y1.toList == ba.toList)]) <|
 .br (x1 == (1:Int)) (
  .iy (x0.add (2:Nat)) fun y1 =>
  .ret [.bool (y1.toList == ba.toList)]) <|
 .br (x1 == (2:Int)) (
  .iy (x0.add (3:Nat)) fun y1 =>
  .ret [.bool (y1.toList == ba.toList)]) <|
 .br (x1 == (3:Int)) (
  .iy (x0.add (4:Nat)) fun y1 =>
  .ret [.bool (y1.toList == ba.toList)]) <|
 .br (x1 == (4:Int)) (
  .ql52 (x0.add (5:Nat)) fun y1 =>
  .bN 225 [ct y1,ct (ba,(false),ai,())] fun y2 =>
  .ret [.bool y2]) <|
 .br (x1 == (5:Int)) (
  .Cf (x0.add (9:Nat)) fun y1 =>
  .br ((↑y1.n:Int) == (0:Int)) (
   .Cf (x0.add (10:Nat)) fun y2 =>
   .ret [.bool ((↑y2.n:Int) == (0:Int))]) <|
 .rF) <|
 .br (x1 == (6:Int)) (
  .ql54 (x0.add (11:Nat)) fun y1 =>
  .bN 226 [cA y1] fun y2 =>
  .ret [.bool y2]) <|
 .br (x1 == (7:Int)) (
  .dy (x0.add (8:Nat)) fun y1 =>
  .ret [.bool (y1 == (0:Int))]) <|
 .iy ((x0.add (14:Nat)).add (0:Nat)) fun y1 =>
 .br (y1.toList == ba.toList) (
  .iy ((x0.add (14:Nat)).add (1:Nat)) fun y2 =>
  .br (y2.toList == ba.toList) (
   .ql54 ((x0.add (14:Nat)).add (2:Nat)) fun y3 =>
   .bN 226 [cA y3] fun y4 =>
   .ret [.bool y4]) <|
 .rF) <|
 .rF
theorem FH x0 x1:aP bX 178 [.pointer (some x0),.int .i64 x1] (tX x0 x1) :=aq
def oX (x0:ar) (x1:Int):T :=
 .eR 227 [qL x0,.int .i64 x1] fun y1 =>
 .ret [.bool (decide (y1>=(0:Int)))]
theorem yk x0 x1:aP bX 179 [qL x0,.int .i64 x1] (oX x0 x1) :=aq
def lD (x0:Addr) (x1:Int):T :=
 .br (x1 == (0:Int)) (
  .iy (x0.add (1:Nat)) fun y1 =>
  .bN 98 [.string y1] fun y2 =>
  .ret [.bool y2]) <|
 .br (x1 == (1:Int)) (
  .iy (x0.add (2:Nat)) fun y1 =>
  .bN 98 [.string y1] fun y2 =>
  .ret [.bool y2]) <|
 .br (x1 == (2:Int)) (
  .iy (x0.add (3:Nat)) fun y1 =>
  .bN 98 [.string y1] fun y2 =>
  .ret [.bool y2]) <|
 .br (x1 == (3:Int)) (
  .iy (x0.add (4:Nat)) fun y1 =>
  .bN 228 [.string y1] fun y2 =>
  .ret [.bool y2]) <|
 .br (x1 == (4:Int)) (
  .ql52 (x0.add (5:Nat)) fun y1 =>
  .bN 229 [ct y1] fun y2 =>
  .ret [.bool y2]) <|
 .br (x1 == (5:Int)) (
  .rf <|
 .Ci (x0.add (9:Nat)) fun y1 =>
  .Ci (x0.add (10:Nat)) fun y2 =>
  .bN 230 [qL y1,qL y2] fun y3 =>
  .ret [.bool y3]) <|
 .br (x1 == (6:Int)) (
  .rf <|
 .ql60 (x0.add (11:Nat)) fun y1 =>
  .vP 231 [cA y1] fun y2 =>
  .br y2 (
   .ql60 (x0.add (11:Nat)) fun y3 =>
   .ql60 (x0.add (11:Nat)) fun y4 =>
   .qc45 233 [cA y4] fun y5 =>
   .bN 232 [cA y3,cA y5] fun y6 =>
   .ret [.bool y6]) <|
 .rF) <|
 .br (x1 == (7:Int)) (
  .dy (x0.add (8:Nat)) fun y1 =>
  .bN 234 [.int .i64 y1] fun y2 =>
  .ret [.bool y2]) <|
 .zA (x0.add (14:Nat)) fun y1 =>
 .bN 102 [fV y1] fun y2 =>
 .ret [.bool y2]
theorem og x0 x1:aP bX 180 [.pointer (some x0),.int .i64 x1] (lD x0 x1) :=aq
def tY (x0:vr):T :=
 .bN 99 [ct x0] fun y1 =>
 .bn y1 (.ret [.string ba]) <|
 .rg <|
 .rN (ByteArray.size x0.1+(⟨⟨[32]⟩⟩:ByteArray).size) <|
 .XX 236 [.string x0.1] fun y2 =>
 .qO 235 [cA (x0.2.1,x0.2.2.1,((y2):Int),())] fun y3 =>
 .rN ((x0.1++(⟨⟨[32]⟩⟩:ByteArray)).size+y3.size) <|
 .ret [.string (x0.1++(⟨⟨[32]⟩⟩:ByteArray)++y3)]
theorem FI x0:aP bX 181 [ct x0] (tY x0) :=aq
def xB (x0:MS):T :=
 .bN 102 [fV x0] fun y1 =>
 .bn y1 (.ret [.string ba]) <|
 .rg <|
 .rN (ByteArray.size x0.1+(⟨⟨[32]⟩⟩:ByteArray).size) <|
 .rN ((x0.1++(⟨⟨[32]⟩⟩:ByteArray)).size+ByteArray.size x0.2.1) <|
 .rN ((x0.1++(⟨⟨[32]⟩⟩:ByteArray)++x0.2.1).size+(⟨⟨[32]⟩⟩:ByteArray).size) <|
 .qO 235 [cA x0.2.2] fun y2 =>
 .rN ((x0.1++(⟨⟨[32]⟩⟩:ByteArray)++x0.2.1++(⟨⟨[32]⟩⟩:ByteArray)).size+y2.size) <|
 .ret [.string (x0.1++(⟨⟨[32]⟩⟩:ByteArray)++x0.2.1++(⟨⟨[32]⟩⟩:ByteArray)++y2)]
theorem Ja x0:aP bX 185 [fV x0] (xB x0) :=aq
def Dr (x0:Bool) (x1:ar):T :=
 .br x0 (
  .ret [cV ((decide ((↑x1.n:Int) > (0:Int))),x1,())]) <|
 .ret [cV ((false),x1,())]
theorem T1 x0 x1:aP bX 187 [.bool x0,qL x1] (Dr x0 x1) :=aq
def Aj (x0:ar):T :=
 .rd ({ a:=x0.1,n:=x0.n,c:=x0.c:ar }) ((1:Nat)) fun y1 =>
 .rq (one y1=true/\((0:Nat)+x0.n)*(8:Nat)<=(140737488355328:Nat)/\(0:Nat)+x0.n<=(9223372036854775807:Nat)) <|
 .fz ((0:Nat)+x0.n) ([]++y1) 3 fun b2 c2 =>
 .ret [.slice (qA b2) ((0:Nat)+x0.n) (c2)]
theorem Om x0:aP bX 188 [qL x0] (Aj x0) :=aq
def Ak (x0:vr) (x1:vr):T :=
 .br (!ByteArray.toList x0.1 == ByteArray.toList x1.1) (
  .rF) <|
 .bN 190 [cV x0.2,cV x1.2] fun y1 =>
 .bF y1 <|
 .rT
theorem On x0 x1:aP bX 189 [ct x0,ct x1] (Ak x0 x1) :=aq
def xC (x0:yv) (x1:yv):T :=
 .br (!x0.1 == x1.1) (
  .rF) <|
 .bN 191 [qL x0.2.1,qL x1.2.1] fun y1 =>
 .bF y1 <|
 .rT
theorem Jb x0 x1:aP bX 190 [cV x0,cV x1] (xC x0 x1) :=aq
def T2:An:=⟨[(4,[.s 5],[.oI])],[],[]⟩
def T3 (x0:ar) (x1:ar):T :=
 .br ((↑x0.n:Int) != (↑x1.n:Int)) (
  .rF) <|
 .lp [.oI] [.vI 0] fun y1 =>
 .bd (y1.1<(↑x0.n:Int)) (
  .rg <|
 .el x0.1 (x0.n) y1.1 fun y2 =>
  .o7 (y2.add (Int.toNat y1.1*(1:Nat))) fun y3 =>
  .el x1.1 (x1.n) y1.1 fun y4 =>
  .o7 (y4.add (Int.toNat y1.1*(1:Nat))) fun y5 =>
  .br (y3 != y5) (
   .rF) <|
 .nx 0 [.vI (i64.wrap (y1.1+(1:Int)))]) <|
 .rT
theorem T4 x0 x1:aP T2 191 [qL x0,qL x1] (T3 x0 x1) :=aq
def Jc (x0:SU) (x1:SU):T :=
 .bN 190 [cV (x0.1,x0.2.1,()),cV (x1.1,x1.2.1,())] fun y1 =>
 .bF y1 <|
 .br (x0.2.2.1 != x1.2.2.1) (
  .rF) <|
 .rT
theorem Yt x0 x1:aP bX 192 [cA x0,cA x1] (Jc x0 x1) :=aq
def T5:An:=⟨[(7,[.s 8,.s 9,.s 10],[.a 3,.oL,.oI])],[],[]⟩
def Ds (x0:ar) (x1:ar):T :=
 .br ((↑x1.n:Int) == (1:Int)) (
  .el x1.1 (x1.n) ((0:Int)) fun y1 =>
  .dy (y1.add (Int.toNat (0:Int)*(1:Nat))) fun y2 =>
  .qc61 244 [qL x0,.int .i64 y2] fun y3 =>
  .jl 214 [.int .i64 y3.2.1] fun y4 =>
  .ret [qL y3.1,qL y4]) <|
 .rq ((0:Int)<=(↑x0.n:Int)/\(↑x0.n:Int)<=(↑x0.n:Int)/\(↑(8:Nat):Int)*(↑x0.n:Int)<=(281474976710656:Int)/\(↑x0.n:Int)<=(9223372036854775807:Int)) <|
 .fz 0 [] 3 fun b1 c1 =>
 .lp [.a 3,.oL,.oI] [.a 3 ((↑x0.n:Int).toNat) ((madeCells { toList:=[Value.int IntKind.i64 (0:Int)]:Array Value } ((↑x0.n:Int).toNat*(1:Nat))).toList),.v (.slice (qA b1) 0 c1),.vI (i64.wrap ((↑x0.n:Int)-(1:Int)))] fun y2 =>
 .bd (y2.2.2.1>=(0:Int)) (
  .el x0.1 (x0.n) y2.2.2.1 fun y3 =>
  .dy (y3.add (Int.toNat y2.2.2.1*(1:Nat))) fun y4 =>
  .rd ({ a:=y2.2.1.1,n:=y2.2.1.n,c:=y2.2.1.c:ar }) ((1:Nat)) fun y5 =>
  .rq (one y5=true/\((1:Nat)+y2.2.1.n)*(8:Nat)<=(140737488355328:Nat)/\(1:Nat)+y2.2.1.n<=(9223372036854775807:Nat)) <|
 .fz ((1:Nat)+y2.2.1.n) ([Value.int IntKind.i64 y4]++y5) 3 fun b6 c6 =>
  .jl 245 [.slice (qA b6) ((1:Nat)+y2.2.1.n) (c6)] fun y7 =>
  .eR 127 [qL y7,qL x1] fun y8 =>
  .bd (y8<(0:Int)) (
   .nx 0 [.a 3 y2.1.1 y2.1.2,.vL y7,.vI (i64.wrap (y2.2.2.1-(1:Int)))]) <|
 .eR 246 [qL y7,qL x1] fun y9 =>
  .rI y2.2.2.1 (↑y2.1.1:Int) <|
 .rq (Int.toNat y2.2.2.1*(1:Nat)+[Value.int IntKind.i64 y9].length<=y2.1.2.length) <|
 .jl 214 [.int .i64 y9] fun dM =>
  .jl 194 [qL x1,qL dM] fun gz =>
  .jl 247 [qL y7,qL gz] fun fe =>
  .nx 0 [.a 3 y2.1.1 (aX y2.1.2 (Int.toNat y2.2.2.1*(1:Nat)) [Value.int IntKind.i64 y9]),.vL fe,.vI (i64.wrap (y2.2.2.1-(1:Int)))]) <|
 .fz y2.1.1 y2.1.2 3 fun b3 c3 =>
 .jl 245 [.slice (qA b3) y2.1.1 (c3)] fun y4 =>
 .ret [qL y4,qL y2.2.1]
theorem T6 x0 x1:aP T5 193 [qL x0,qL x1] (Ds x0 x1) :=aq
def T7:An:=⟨[(5,[.s 5,.s 28],[.a 3,.oI]),(9,[.s 5,.s 8,.s 35],[.a 3,.oI,.oI])],[],[]⟩
def Dt (x0:ar) (x1:ar):T :=
 .br ((↑x0.n:Int) == (0:Int)) (
  .ret [.slice none 0 0]) <|
 .br ((↑x1.n:Int) == (0:Int)) (
  .ret [.slice none 0 0]) <|
 .rq ((0:Int)<=i64.wrap ((↑x0.n:Int)+(↑x1.n:Int))/\i64.wrap ((↑x0.n:Int)+(↑x1.n:Int))<=i64.wrap ((↑x0.n:Int)+(↑x1.n:Int))/\(↑(8:Nat):Int)*i64.wrap ((↑x0.n:Int)+(↑x1.n:Int))<=(281474976710656:Int)/\i64.wrap ((↑x0.n:Int)+(↑x1.n:Int))<=(9223372036854775807:Int)) <|
 .lp [.a 3,.oI] [.a 3 ((i64.wrap ((↑x0.n:Int)+(↑x1.n:Int))).toNat) ((madeCells { toList:=[Value.int IntKind.i64 (0:Int)]:Array Value } ((i64.wrap ((↑x0.n:Int)+(↑x1.n:Int))).toNat*(1:Nat))).toList),.vI 0] fun y1 =>
 .bd (y1.2.1<(↑x0.n:Int)) (
  .el x0.1 (x0.n) y1.2.1 fun y2 =>
  .dy (y2.add (Int.toNat y1.2.1*(1:Nat))) fun y3 =>
  .lp [.a 3,.oI,.oI] [.a 3 y1.1.1 y1.1.2,.vI 0,.vI 0] fun y4 =>
  .bd (y4.2.2.1<(↑x1.n:Int)) (
   .el x1.1 (x1.n) y4.2.2.1 fun y5 =>
   .dy (y5.add (Int.toNat y4.2.2.1*(1:Nat))) fun y6 =>
   .rI (i64.wrap (y1.2.1+y4.2.2.1)) (↑y4.1.1:Int) <|
 .xs y4.1.2 ((i64.wrap (y1.2.1+y4.2.2.1)).toNat*(1:Nat)) (.o (.i .i64)) fun y7 =>
   .rZ (1000000000:Int) <|
 .rI (i64.wrap (y1.2.1+y4.2.2.1)) (↑y4.1.1:Int) <|
 .rq ((i64.wrap (y1.2.1+y4.2.2.1)).toNat*(1:Nat)+[Value.int IntKind.i64 ((i64.wrap (i64.wrap (y7+i64.wrap (y3*y6))+y4.2.1)).tmod (1000000000:Int))].length<=y4.1.2.length) <|
 .rZ (1000000000:Int) <|
 .nx 1 [.a 3 y4.1.1 (aX y4.1.2 ((i64.wrap (y1.2.1+y4.2.2.1)).toNat*(1:Nat)) [Value.int IntKind.i64 ((i64.wrap (i64.wrap (y7+i64.wrap (y3*y6))+y4.2.1)).tmod (1000000000:Int))]),.vI (i64.wrap ((i64.wrap (i64.wrap (y7+i64.wrap (y3*y6))+y4.2.1)).tdiv (1000000000:Int))),.vI (i64.wrap (y4.2.2.1+(1:Int)))]) <|
 .rI (i64.wrap (y1.2.1+(↑x1.n:Int))) (↑y4.1.1:Int) <|
 .rq ((i64.wrap (y1.2.1+(↑x1.n:Int))).toNat*(1:Nat)+[(dx.o (Sc.i IntKind.i64)).val y4.2.1].length<=y4.1.2.length) <|
 .nx 0 [.a 3 y4.1.1 (aX y4.1.2 ((i64.wrap (y1.2.1+(↑x1.n:Int))).toNat*(1:Nat)) [(dx.o (Sc.i IntKind.i64)).val y4.2.1]),.vI (i64.wrap (y1.2.1+(1:Int)))]) <|
 .fz y1.1.1 y1.1.2 3 fun b2 c2 =>
 .jl 245 [.slice (qA b2) y1.1.1 (c2)] fun y3 =>
 .ret [qL y3]
theorem T8 x0 x1:aP T7 194 [qL x0,qL x1] (Dt x0 x1) :=aq
def Oo:An:=⟨[(4,[.s 4,.s 5,.s 6],[.oS,.oI,.oI]),(10,[.s 4],[.oS])],[],[]⟩
def Al (x0:ByteArray):T :=
 .lp [.oS,.oI,.oI] [.vS ba,.vI 0,.vI 0] fun y1 =>
 .bd (y1.2.2.1<(↑x0.size:Int)) (
  .rI y1.2.2.1 (↑x0.size:Int) <|
 .br (de x0 (Int.toNat y1.2.2.1) == (46:Int)) (
   .nx 0 [.vS y1.1,.vI (i64.wrap (i64.wrap ((↑x0.size:Int)-(1:Int))-y1.2.2.1)),.vI (i64.wrap (y1.2.2.1+(1:Int)))]) <|
 .rI y1.2.2.1 (↑x0.size:Int) <|
 .br (de x0 (Int.toNat y1.2.2.1) != (45:Int)) (
   .rq ((0:Int)<=y1.2.2.1/\y1.2.2.1<=i64.wrap (y1.2.2.1+(1:Int))/\i64.wrap (y1.2.2.1+(1:Int))<=(↑x0.size:Int)) <|
 .rN (ByteArray.size y1.1+(x0.extract (Int.toNat y1.2.2.1) (i64.wrap (y1.2.2.1+(1:Int))).toNat).size) <|
 .nx 0 [.vS (y1.1++x0.extract (Int.toNat y1.2.2.1) (i64.wrap (y1.2.2.1+(1:Int))).toNat),.vI y1.2.1,.vI (i64.wrap (y1.2.2.1+(1:Int)))]) <|
 .nx 0 [.vS y1.1,.vI y1.2.1,.vI (i64.wrap (y1.2.2.1+(1:Int)))]) <|
 .lp [.oS] [.vS y1.1] fun y2 =>
 .bd ((↑(ByteArray.size y2.1):Int) > (1:Int)) (
  .rI (0:Int) (↑(ByteArray.size y2.1):Int) <|
 .br (de y2.1 (Int.toNat (0:Int)) == (48:Int)) (
   .rq ((0:Int)<=(1:Int)/\(1:Int)<=(↑(ByteArray.size y2.1):Int)/\(↑(ByteArray.size y2.1):Int)<=(↑(ByteArray.size y2.1):Int)) <|
 .nx 1 [.vS (ByteArray.extract y2.1 (Int.toNat (1:Int)) (↑(ByteArray.size y2.1):Int).toNat)]) <|
 .tF 248 [.string y2.1] fun y3 =>
  .bd ((↑x0.size:Int) > (0:Int)) (
   .rI (0:Int) (↑x0.size:Int) <|
 .Ch 212 [cV ((de x0 (Int.toNat (0:Int)) == (45:Int)),y3.1,()),.int .i64 y1.2.1] fun y4 =>
   .bn y3.2.1 (.ret [cA ((false),ai,(((0:Int)):Int),()),.bool (false)]) <|
 .bn y4.2.1 (.ret [cA ((false),ai,(((0:Int)):Int),()),.bool (false)]) <|
 .cM 151 [cA y4.1] fun y5 =>
   .br (!y5.toList == x0.toList) (
    .ret [cA ((false),ai,(((0:Int)):Int),()),.bool (false)]) <|
 .ret [cA y4.1,.bool (true)]) <|
 .Ch 212 [cV ((false),y3.1,()),.int .i64 y1.2.1] fun y4 =>
  .bn y3.2.1 (.ret [cA ((false),ai,(((0:Int)):Int),()),.bool (false)]) <|
 .bn y4.2.1 (.ret [cA ((false),ai,(((0:Int)):Int),()),.bool (false)]) <|
 .cM 151 [cA y4.1] fun y5 =>
  .br (!y5.toList == x0.toList) (
   .ret [cA ((false),ai,(((0:Int)):Int),()),.bool (false)]) <|
 .ret [cA y4.1,.bool (true)]) <|
 .tF 248 [.string y2.1] fun y3 =>
 .bd ((↑x0.size:Int) > (0:Int)) (
  .rI (0:Int) (↑x0.size:Int) <|
 .Ch 212 [cV ((de x0 (Int.toNat (0:Int)) == (45:Int)),y3.1,()),.int .i64 y1.2.1] fun y4 =>
  .bn y3.2.1 (.ret [cA ((false),ai,(((0:Int)):Int),()),.bool (false)]) <|
 .bn y4.2.1 (.ret [cA ((false),ai,(((0:Int)):Int),()),.bool (false)]) <|
 .cM 151 [cA y4.1] fun y5 =>
  .br (!y5.toList == x0.toList) (
   .ret [cA ((false),ai,(((0:Int)):Int),()),.bool (false)]) <|
 .ret [cA y4.1,.bool (true)]) <|
 .Ch 212 [cV ((false),y3.1,()),.int .i64 y1.2.1] fun y4 =>
 .bn y3.2.1 (.ret [cA ((false),ai,(((0:Int)):Int),()),.bool (false)]) <|
 .bn y4.2.1 (.ret [cA ((false),ai,(((0:Int)):Int),()),.bool (false)]) <|
 .cM 151 [cA y4.1] fun y5 =>
 .br (!y5.toList == x0.toList) (
  .ret [cA ((false),ai,(((0:Int)):Int),()),.bool (false)]) <|
 .ret [cA y4.1,.bool (true)]
theorem Ot x0:aP Oo 195 [.string x0] (Al x0) :=aq
def rR (x0:ByteArray) (x1:yv):T :=
 .bN 73 [ct (x0,x1.1,x1.2.1,())] fun y1 =>
 .bn y1 (.ret [ct (ba,(false),ai,()),.bool (false)]) <|
 .ret [ct (x0,x1.1,x1.2.1,()),.bool (true)]
theorem Am x0 x1:aP bX 196 [.string x0,cV x1] (rR x0 x1) :=aq
def xD (x0:ByteArray):T :=
 .bN 124 [.string x0,.int .u8 ((48:Int)),.int .u8 ((57:Int)),.int .u8 ((48:Int)),.int .u8 ((57:Int))] fun y1 =>
 .ret [.bool y1]
theorem Jd x0:aP bX 197 [.string x0] (xD x0) :=aq
def Du (x0:nn) (x1:ByteArray) (x2:ByteArray):T :=
 .bN 15 [aU x0] fun y1 =>
 .bn y1 (.ret [aU (ai,ai,ba,ai,()),.int .i64 1]) <|
 .bN 72 [.string x1] fun y2 =>
 .bn y2 (.ret [aU (ai,ai,ba,ai,()),.int .i64 1]) <|
 .bN 37 [.string x2] fun y3 =>
 .bn y3 (.ret [aU (ai,ai,ba,ai,()),.int .i64 2]) <|
 .eR 249 [dJ (x0.1,()),.string x1] fun y4 =>
 .bd (y4>=(0:Int)) (
  .ret [aU (ai,ai,ba,ai,()),.int .i64 4]) <|
 .S1 250 [dJ (x0.1,()),.string x1,.string x2] fun y5 =>
 .bn y5.2.1 (.ret [aU (ai,ai,ba,ai,()),.int .i64 9]) <|
 .SY 41 [aU x0] fun y6 =>
 .ret [aU (y5.1.1,y6.2.1,y6.2.2.1,y6.2.2.2.1,()),.int .i64 0]
theorem T9 x0 x1 x2:aP bX 198 [aU x0,.string x1,.string x2] (Du x0 x1 x2) :=aq
def Je (x0:nn) (x1:ByteArray) (x2:vr):T :=
 .bN 15 [aU x0] fun y1 =>
 .bn y1 (.ret [aU (ai,ai,ba,ai,()),.int .i64 1]) <|
 .bN 72 [.string x1] fun y2 =>
 .bn y2 (.ret [aU (ai,ai,ba,ai,()),.int .i64 1]) <|
 .bN 147 [ct x2] fun y3 =>
 .bn y3 (.ret [aU (ai,ai,ba,ai,()),.int .i64 1]) <|
 .fz 1 [.string x1,.string x2.1,.bool x2.2.1,qL x2.2.2.1] 261 fun b4 c4 =>
 .nq 251 [aU x0,.slice (qA b4) 1 c4] fun y5 =>
 .ret [aU y5.1,.int .i64 y5.2.1]
theorem Yu x0 x1 x2:aP bX 199 [aU x0,.string x1,ct x2] (Je x0 x1 x2) :=aq
def Dv (x0:nn) (x1:ByteArray) (x2:vr):T :=
 .bN 15 [aU x0] fun y1 =>
 .bn y1 (.ret [aU (ai,ai,ba,ai,()),.int .i64 1]) <|
 .bN 72 [.string x1] fun y2 =>
 .bn y2 (.ret [aU (ai,ai,ba,ai,()),.int .i64 1]) <|
 .bN 147 [ct x2] fun y3 =>
 .bn y3 (.ret [aU (ai,ai,ba,ai,()),.int .i64 1]) <|
 .rg <|
 .qc16 45 [ct x2] fun y4 =>
 .es [.string x1,.string y4.1,.bool y4.2.1,qL y4.2.2.1] 261 fun b5 =>
 .nq 251 [aU x0,.slice (qA b5) ((1:Nat)) ((1:Nat))] fun y6 =>
 .ret [aU y6.1,.int .i64 y6.2.1]
theorem T' x0 x1 x2:aP bX 200 [aU x0,.string x1,ct x2] (Dv x0 x1 x2) :=aq
def Dw (x0:nn) (x1:MS):T :=
 .bN 15 [aU x0] fun y1 =>
 .bn y1 (.ret [aU (ai,ai,ba,ai,()),.int .i64 1]) <|
 .bN 76 [fV x1] fun y2 =>
 .bn y2 (.ret [aU (ai,ai,ba,ai,()),.int .i64 1]) <|
 .qc64 261 [iK x0.2.2,fV x1] fun y3 =>
 .bn y3.2.1 (.ret [aU (ai,ai,ba,ai,()),.int .i64 9]) <|
 .SY 41 [aU x0] fun y4 =>
 .ret [aU (y4.1,y4.2.1,y3.1.1,y3.1.2.1,()),.int .i64 0]
theorem Ua x0 x1:aP bX 206 [aU x0,fV x1] (Dw x0 x1) :=aq
def aS_Pad:An:=⟨[(3,[.s 0],[.oS])],[],[]⟩
def Yv (x0:ByteArray) (x1:Int):T :=
 .bd (x1 > (2000:Int)) (
  .ret [.string x0]) <|
 .lp [.oS] [.vS x0] fun y1 =>
 .bd ((↑(ByteArray.size y1.1):Int)<x1) (
  .rN ((⟨⟨[48]⟩⟩:ByteArray).size+ByteArray.size y1.1) <|
 .nx 0 [.vS ((⟨⟨[48]⟩⟩:ByteArray)++y1.1)]) <|
 .ret [.string y1.1]
theorem fS_Pad x0 x1:aP aS_Pad 209 [.string x0,.int .i64 x1] (Yv x0 x1) :=aq
def Ou:An:=⟨[(7,[.s 3,.s 4],[.oS,.oI])],[],[]⟩
def Ao (x0:ar):T :=
 .bN 126 [qL x0] fun y1 =>
 .bn y1 (.ret [.string ba]) <|
 .br ((↑x0.n:Int) == (0:Int)) (
  .ret [.string ⟨⟨[48]⟩⟩]) <|
 .el x0.1 (x0.n) (i64.wrap ((↑x0.n:Int)-(1:Int))) fun y2 =>
 .dy (y2.add ((i64.wrap ((↑x0.n:Int)-(1:Int))).toNat*(1:Nat))) fun y3 =>
 .cM 155 [.int .i64 y3] fun y4 =>
 .lp [.oS,.oI] [.vS y4,.vI (i64.wrap ((↑x0.n:Int)-(2:Int)))] fun y5 =>
 .bd (y5.2.1>=(0:Int)) (
  .el x0.1 (x0.n) y5.2.1 fun y6 =>
  .dy (y6.add (Int.toNat y5.2.1*(1:Nat))) fun y7 =>
  .cM 155 [.int .i64 y7] fun y8 =>
  .cM 209 [.string y8,.int .i64 9] fun y9 =>
  .rN (ByteArray.size y5.1+y9.size) <|
 .nx 0 [.vS (y5.1++y9),.vI (i64.wrap (y5.2.1-(1:Int)))]) <|
 .ret [.string y5.1]
theorem Ov x0:aP Ou 210 [qL x0] (Ao x0) :=aq
def Dx (x0:yv) (x1:Int):T :=
 .bN 131 [cA (x0.1,x0.2.1,((x1):Int),())] fun y1 =>
 .bn y1 (.ret [cA ((false),ai,(((0:Int)):Int),()),.bool (false)]) <|
 .ret [cA (x0.1,x0.2.1,((x1):Int),()),.bool (true)]
theorem Ub x0 x1:aP bX 212 [cV x0,.int .i64 x1] (Dx x0 x1) :=aq
def Yw:An:=⟨[(2,[.s 0,.s 3],[.oI,.a 3])],[],[]⟩
def Jf (x0:Int):T :=
 .lp [.oI,.a 3] [.vI x0,.a 3 ((0:Nat)) []] fun y1 =>
 .bd (y1.1 > (0:Int)) (
  .rZ (1000000000:Int) <|
 .rL [Value.int IntKind.i64 (Int.tmod y1.1 (1000000000:Int))] 1 1 <|
 .rO [Value.int IntKind.i64 (Int.tmod y1.1 (1000000000:Int))] (y1.2.1.1+(1:Nat)) 8 <|
 .rZ (1000000000:Int) <|
 .nx 0 [.vI (i64.wrap (Int.tdiv y1.1 (1000000000:Int))),.a 3 (y1.2.1.1+(1:Nat)) (y1.2.1.2++[Value.int IntKind.i64 (Int.tmod y1.1 (1000000000:Int))])]) <|
 .fz y1.2.1.1 y1.2.1.2 3 fun b2 c2 =>
 .ret [.slice (qA b2) y1.2.1.1 (c2)]
theorem Yx x0:aP Yw 214 [.int .i64 x0] (Jf x0) :=aq
def Dy (x0:ar):T :=
 .jl 245 [qL x0] fun y1 =>
 .bd ((↑y1.n:Int) > (50:Int)) (
  .ret [.slice none 0 0]) <|
 .ret [qL y1]
theorem Uc x0:aP bX 215 [qL x0] (Dy x0) :=aq
def Ud:An:=⟨[(9,[.s 9],[.oL]),(14,[.s 12,.s 13],[.a 3,.oI])],[],[]⟩
noncomputable def Dz (x0:ar) (x1:ar):T :=
 .eR 265 [qL x0,qL x1] fun y1 =>
 .bd (y1<(0:Int)) (
  .jl 188 [qL x0] fun y2 =>
  .fz 0 [] 3 fun b3 c3 =>
  .ret [.slice (qA b3) 0 c3,qL y2]) <|
 .br ((↑x1.n:Int) == (1:Int)) (
  .el x1.1 (x1.n) ((0:Int)) fun y2 =>
  .dy (y2.add (Int.toNat (0:Int)*(1:Nat))) fun y3 =>
  .qc61 266 [qL x0,.int .i64 y3] fun y4 =>
  .jl 267 [.int .i64 y4.2.1] fun y5 =>
  .ret [qL y4.1,qL y5]) <|
 .el x1.1 (x1.n) (i64.wrap ((↑x1.n:Int)-(1:Int))) fun y2 =>
 .dy (y2.add ((i64.wrap ((↑x1.n:Int)-(1:Int))).toNat*(1:Nat))) fun y3 =>
 .rq (i64.wrap (y3+(1:Int))≠(0:Int)) <|
 .fz 1 [.int .i64 (i64.wrap (Int.tdiv (1000000000:Int) (i64.wrap (y3+(1:Int)))))] 3 fun b4 c4 =>
 .jl 268 [qL x0,.slice (qA b4) 1 c4] fun y5 =>
 .fz 1 [.int .i64 (i64.wrap (Int.tdiv (1000000000:Int) (i64.wrap (y3+(1:Int)))))] 3 fun b6 c6 =>
 .jl 268 [qL x1,.slice (qA b6) 1 c6] fun y7 =>
 .lp [.oL] [.vL y5] fun y8 =>
 .bd ((↑y8.1.n:Int)<=(↑x0.n:Int)) (
  .rL [Value.int IntKind.i64 (0:Int)] 1 1 <|
 .rq (one [Value.int IntKind.i64 (0:Int)]=true) <|
 .ap ({ a:=y8.1.1,n:=y8.1.n,c:=y8.1.c:ar }) 1 8 [.int .i64 0] ((1:Nat)) 3 fun y9 =>
  .nx 0 [.vL y9]) <|
 .rq ((0:Int)<=i64.wrap ((↑y8.1.n:Int)-(↑y7.n:Int))/\i64.wrap ((↑y8.1.n:Int)-(↑y7.n:Int))<=i64.wrap ((↑y8.1.n:Int)-(↑y7.n:Int))/\(↑(8:Nat):Int)*i64.wrap ((↑y8.1.n:Int)-(↑y7.n:Int))<=(281474976710656:Int)/\i64.wrap ((↑y8.1.n:Int)-(↑y7.n:Int))<=(9223372036854775807:Int)) <|
 .lp [.a 3,.oI] [.a 3 ((i64.wrap ((↑y8.1.n:Int)-(↑y7.n:Int))).toNat) ((madeCells { toList:=[Value.int IntKind.i64 (0:Int)]:Array Value } ((i64.wrap ((↑y8.1.n:Int)-(↑y7.n:Int))).toNat*(1:Nat))).toList),.vI (i64.wrap ((↑(i64.wrap ((↑y8.1.n:Int)-(↑y7.n:Int))).toNat:Int)-(1:Int)))] fun y9 =>
 .bd (y9.2.1>=(0:Int)) (
  .rq ((0:Int)<=y9.2.1/\y9.2.1<=i64.wrap (i64.wrap (y9.2.1+(↑y7.n:Int))+(1:Int))/\i64.wrap (i64.wrap (y9.2.1+(↑y7.n:Int))+(1:Int))<=(↑y8.1.c:Int)/\(↑y8.1.c:Int)<=(↑y8.1.c:Int)) <|
 .eR 269 [.slice (if (↑y8.1.c:Int).toNat=Int.toNat y9.2.1 then y8.1.1 else Option.map (fun x=>x.add (Int.toNat y9.2.1*Go.Proofs.Tryz.prog.types[(3:Nat)].size)) y8.1.1) ((i64.wrap (i64.wrap (y9.2.1+(↑y7.n:Int))+(1:Int))).toNat-Int.toNat y9.2.1) ((↑y8.1.c:Int).toNat-Int.toNat y9.2.1),qL y7] fun dM =>
  .rI y9.2.1 (↑y9.1.1:Int) <|
 .rq (Int.toNat y9.2.1*(1:Nat)+[Value.int IntKind.i64 dM].length<=y9.1.2.length) <|
 .nx 1 [.a 3 y9.1.1 (aX y9.1.2 (Int.toNat y9.2.1*(1:Nat)) [Value.int IntKind.i64 dM]),.vI (i64.wrap (y9.2.1-(1:Int)))]) <|
 .jl 270 [qL y8.1] fun dM =>
 .qc61 266 [qL dM,.int .i64 (i64.wrap (Int.tdiv (1000000000:Int) (i64.wrap (y3+(1:Int)))))] fun gz =>
 .fz y9.1.1 y9.1.2 3 fun b12 c12 =>
 .jl 270 [.slice (qA b12) y9.1.1 (c12)] fun MU =>
 .ret [qL MU,qL gz.1]
theorem Ue x0 x1:aP Ud 216 [qL x0,qL x1] (Dz x0 x1) :=aq
def Ap (x0:Int):T :=
 .bd (x0>=(0:Int)) (
  .ret [.bool (decide (x0<=(30:Int)))]) <|
 .rF
theorem Ox x0:aP bX 217 [.int .i64 x0] (Ap x0) :=aq
def Aq (x0:yv):T :=
 .rg <|
 .Rj 188 [qL x0.2.1] fun y1 =>
 .ret [cV (x0.1,y1,())]
theorem Oy x0:aP bX 218 [cV x0] (Aq x0) :=aq
def Ar (x0:SU):T :=
 .rg <|
 .Ih 218 [cV (x0.1,x0.2.1,())] fun y1 =>
 .ret [cA (y1.1,y1.2.1,((x0.2.2.1):Int),())]
theorem OA x0:aP bX 219 [cA x0] (Ar x0) :=aq
def Yy:An:=⟨[(4,[.s 5,.s 6,.s 7],[.a 9,.oI,.oI])],[],[]⟩
def Jg (x0:ByteArray) (x1:ByteArray):T :=
 .lp [.a 9,.oI,.oI] [.a 9 ((0:Nat)) [],.vI 0,.vI 0] fun y1 =>
 .bd (y1.2.2.1<(↑x0.size:Int)) (
  .rI y1.2.2.1 (↑x0.size:Int) <|
 .eR 271 [.string x1,.int .u8 (de x0 (Int.toNat y1.2.2.1))] fun y2 =>
  .bd (y2>=(0:Int)) (
   .rq ((0:Int)<=y1.2.1/\y1.2.1<=y1.2.2.1/\y1.2.2.1<=(↑x0.size:Int)) <|
 .rL [Value.string (x0.extract (Int.toNat y1.2.1) (Int.toNat y1.2.2.1))] 1 1 <|
 .rO [Value.string (x0.extract (Int.toNat y1.2.1) (Int.toNat y1.2.2.1))] (y1.1.1+(1:Nat)) 16 <|
 .nx 0 [.a 9 (y1.1.1+(1:Nat)) (y1.1.2++[Value.string (x0.extract (Int.toNat y1.2.1) (Int.toNat y1.2.2.1))]),.vI (i64.wrap (y1.2.2.1+(1:Int))),.vI (i64.wrap (y1.2.2.1+(1:Int)))]) <|
 .nx 0 [.a 9 y1.1.1 y1.1.2,.vI y1.2.1,.vI (i64.wrap (y1.2.2.1+(1:Int)))]) <|
 .rq ((0:Int)<=y1.2.1/\y1.2.1<=(↑x0.size:Int)/\(↑x0.size:Int)<=(↑x0.size:Int)) <|
 .rL [Value.string (x0.extract (Int.toNat y1.2.1) (↑x0.size:Int).toNat)] 1 1 <|
 .rO [Value.string (x0.extract (Int.toNat y1.2.1) (↑x0.size:Int).toNat)] (y1.1.1+(1:Nat)) 16 <|
 .fz (y1.1.1+(1:Nat)) (y1.1.2++[Value.string (x0.extract (Int.toNat y1.2.1) (↑x0.size:Int).toNat)]) 9 fun b2 c2 =>
 .ret [.slice (qA b2) (y1.1.1+(1:Nat)) (c2)]
theorem Yz x0 x1:aP Yy 220 [.string x0,.string x1] (Jg x0 x1) :=aq
def kG (x0:ByteArray) (x1:Int):T :=
 .br (x1 == (4:Int)) (
  .Ii 272 [.string x0] fun y1 =>
  .br y1.2.1 (
   .ret [.iface 89 (ct y1.1)]) <|
 .ret [.nilIface]) <|
 .br (x1 == (6:Int)) (
  .Ch 273 [.string x0] fun y1 =>
  .br y1.2.1 (
   .ret [.iface 84 (cA y1.1)]) <|
 .ret [.nilIface]) <|
 .br (x1 == (7:Int)) (
  .qc41 274 [.string x0] fun y1 =>
  .br y1.2.1 (
   .ret [.iface 3 (.int .i64 y1.1)]) <|
 .ret [.nilIface]) <|
 .br (x1 == (8:Int)) (
  .qc44 275 [.string x0] fun y1 =>
  .br y1.2.1 (
   .ret [.iface 86 (fV y1.1)]) <|
 .ret [.nilIface]) <|
 .ret [.iface 9 (.string x0)]
theorem oh x0 x1:aP bX 221 [.string x0,.int .i64 x1] (kG x0 x1) :=aq
def pD (x0:qy8):T :=
 .br (x0.1 == (1:Int)) (
  .ret [.iface 284 (E2 (x0.2.1,x0.2.2.2.2.1,()))]) <|
 .br (x0.1 == (2:Int)) (
  .ret [.iface 286 (E3 (x0.2.1,x0.2.2.2.2.2.1,x0.2.2.2.2.2.2.1,x0.2.2.2.2.2.2.2.1,(false),()))]) <|
 .br (x0.1 == (3:Int)) (
  .ret [.iface 286 (E3 (x0.2.1,x0.2.2.2.2.2.1,x0.2.2.2.2.2.2.1,x0.2.2.2.2.2.2.2.1,(true),()))]) <|
 .br (x0.1 == (4:Int)) (
  .ret [.iface 288 (dx.val (.g [.s,.s,.s,.b,.l]) (x0.2.1,x0.2.2.1,x0.2.2.2.2.2.1,x0.2.2.2.2.2.2.1,x0.2.2.2.2.2.2.2.1,()))]) <|
 .br (x0.1 == (5:Int)) (
  .ret [.iface 290 (dx.val (.g [.s,.s,.s,.b,.l,.i .i64]) (x0.2.1,x0.2.2.1,x0.2.2.2.2.2.1,x0.2.2.2.2.2.2.1,x0.2.2.2.2.2.2.2.1,((x0.2.2.2.2.2.2.2.2.1):Int),()))]) <|
 .br (x0.1 == (6:Int)) (
  .ret [.iface 292 (dx.val (.g [.s,.l,.l,.s,.b,.l]) (x0.2.1,x0.2.2.2.2.2.2.2.2.2.1,x0.2.2.2.2.2.2.2.2.2.2.1,x0.2.2.2.2.2.1,x0.2.2.2.2.2.2.1,x0.2.2.2.2.2.2.2.1,()))]) <|
 .br (x0.1 == (7:Int)) (
  .ret [.iface 294 (dx.val (.g [.s,.s,.s,.s,.b,.l,.b,.l,.i .i64,.i .i64]) (x0.2.1,x0.2.2.1,x0.2.2.2.1,x0.2.2.2.2.2.1,x0.2.2.2.2.2.2.1,x0.2.2.2.2.2.2.2.1,x0.2.2.2.2.2.2.2.2.2.2.2.1,x0.2.2.2.2.2.2.2.2.2.2.2.2.1,((x0.2.2.2.2.2.2.2.2.2.2.2.2.2.1):Int),((x0.2.2.2.2.2.2.2.2.1):Int),()))]) <|
 .br (x0.1 == (8:Int)) (
  .ret [.iface 296 (dx.val (.g [.s,.i .i64]) (x0.2.1,((x0.2.2.2.2.2.2.2.2.1):Int),()))]) <|
 .ret [.iface 298 (fV x0.2.2.2.2.2.2.2.2.2.2.2.2.2.2)]
theorem As x0:aP bX 224 [l8 x0] (pD x0) :=aq
def tZ (x0:vr) (x1:vr):T :=
 .br (ByteArray.toList x0.1 == ByteArray.toList x1.1) (
  .bN 277 [cV x0.2,cV x1.2] fun y1 =>
  .ret [.bool y1]) <|
 .rF
theorem FJ x0 x1:aP bX 225 [ct x0,ct x1] (tZ x0 x1) :=aq
def ub (x0:SU):T :=
 .bN 232 [cA x0,cA ((false),ai,(((0:Int)):Int),())] fun y1 =>
 .ret [.bool y1]
theorem FK x0:aP bX 226 [cA x0] (ub x0) :=aq
def FL:An:=⟨[(2,[.s 8],[.oI])],[],[]⟩
def uc (x0:ar) (x1:Int):T :=
 .lp [.oI] [.vI 0] fun y1 =>
 .bd (y1.1<(↑x0.n:Int)) (
  .el x0.1 (x0.n) y1.1 fun y2 =>
  .dy (y2.add (Int.toNat y1.1*(1:Nat))) fun y3 =>
  .br (x1 == y3) (
   .ret [.int .i64 y1.1]) <|
 .nx 0 [.vI (i64.wrap (y1.1+(1:Int)))]) <|
 .rM
theorem FM x0 x1:aP FL 227 [qL x0,.int .i64 x1] (uc x0 x1) :=aq
def Uf:An:=⟨[(4,[.s 3],[.oI])],[],[]⟩
def DA (x0:ByteArray):T :=
 .br ((↑x0.size:Int) != (3:Int)) (
  .rF) <|
 .lp [.oI] [.vI 0] fun y1 =>
 .bd (y1.1<(3:Int)) (
  .rI y1.1 (↑x0.size:Int) <|
 .bd (de x0 (Int.toNat y1.1)<(65:Int)) (
   .rF) <|
 .rI y1.1 (↑x0.size:Int) <|
 .bd (de x0 (Int.toNat y1.1) > (90:Int)) (
   .rF) <|
 .nx 0 [.vI (i64.wrap (y1.1+(1:Int)))]) <|
 .rT
theorem Ug x0:aP Uf 228 [.string x0] (DA x0) :=aq
def Au (x0:vr):T :=
 .bN 99 [ct x0] fun y1 =>
 .br y1 (
  .ret [.bool (!x0.2.1)]) <|
 .rF
theorem OB x0:aP bX 229 [ct x0] (Au x0) :=aq
def Av (x0:SU) (x1:SU):T :=
 .bN 277 [cV (x0.1,x0.2.1,()),cV (x1.1,x1.2.1,())] fun y1 =>
 .br y1 (
  .ret [.bool (x0.2.2.1 == x1.2.2.1)]) <|
 .rF
theorem OC x0 x1:aP bX 232 [cA x0,cA x1] (Av x0 x1) :=aq
def Aw (x0:SU):T :=
 .bN 168 [cA x0] fun y1 =>
 .bn y1 (.ret [.string ba]) <|
 .rg <|
 .qO 284 [qL x0.2.1] fun y2 =>
 .cM 283 [.string y2,.int .i64 (i64.wrap (x0.2.2.1+(1:Int)))] fun y3 =>
 .bd (x0.2.2.1 > (0:Int)) (
  .rg <|
 .rq ((0:Int)<=(0:Int)/\(0:Int)<=i64.wrap ((↑y3.size:Int)-x0.2.2.1)/\i64.wrap ((↑y3.size:Int)-x0.2.2.1)<=(↑y3.size:Int)) <|
 .rN ((y3.extract (Int.toNat (0:Int)) (i64.wrap ((↑y3.size:Int)-x0.2.2.1)).toNat).size+(⟨⟨[46]⟩⟩:ByteArray).size) <|
 .rq ((0:Int)<=i64.wrap ((↑y3.size:Int)-x0.2.2.1)/\i64.wrap ((↑y3.size:Int)-x0.2.2.1)<=(↑y3.size:Int)/\(↑y3.size:Int)<=(↑y3.size:Int)) <|
 .rN ((y3.extract (Int.toNat (0:Int)) (i64.wrap ((↑y3.size:Int)-x0.2.2.1)).toNat++(⟨⟨[46]⟩⟩:ByteArray)).size+(y3.extract (i64.wrap ((↑y3.size:Int)-x0.2.2.1)).toNat (↑y3.size:Int).toNat).size) <|
 .br x0.1 (
   .rN ((⟨⟨[45]⟩⟩:ByteArray).size+(y3.extract (Int.toNat (0:Int)) (i64.wrap ((↑y3.size:Int)-x0.2.2.1)).toNat++(⟨⟨[46]⟩⟩:ByteArray)++y3.extract (i64.wrap ((↑y3.size:Int)-x0.2.2.1)).toNat (↑y3.size:Int).toNat).size) <|
 .ret [.string ((⟨⟨[45]⟩⟩:ByteArray)++(y3.extract (Int.toNat (0:Int)) (i64.wrap ((↑y3.size:Int)-x0.2.2.1)).toNat++(⟨⟨[46]⟩⟩:ByteArray)++y3.extract (i64.wrap ((↑y3.size:Int)-x0.2.2.1)).toNat (↑y3.size:Int).toNat))]) <|
 .ret [.string (y3.extract (Int.toNat (0:Int)) (i64.wrap ((↑y3.size:Int)-x0.2.2.1)).toNat++(⟨⟨[46]⟩⟩:ByteArray)++y3.extract (i64.wrap ((↑y3.size:Int)-x0.2.2.1)).toNat (↑y3.size:Int).toNat)]) <|
 .br x0.1 (
  .rN ((⟨⟨[45]⟩⟩:ByteArray).size+y3.size) <|
 .ret [.string ((⟨⟨[45]⟩⟩:ByteArray)++y3)]) <|
 .ret [.string y3]
theorem OD x0:aP bX 235 [cA x0] (Aw x0) :=aq
def ud (x0:ByteArray):T :=
 .qc34 103 [.string x0] fun y1 =>
 .ret [.int .i64 y1.1.2.2.1]
theorem FN x0:aP bX 236 [.string x0] (ud x0) :=aq
def Ax (x0:Int):T :=
 .cM 285 [.int .i64 x0] fun y1 =>
 .ret [.string y1]
theorem OE x0:aP bX 237 [.int .i64 x0] (Ax x0) :=aq
def Jh:An:=⟨[(4,[.s 6,.s 7,.s 8],[.a 3,.oI,.oI])],[],[]⟩
def xE (x0:ar) (x1:Int):T :=
 .rq ((0:Int)<=(↑x0.n:Int)/\(↑x0.n:Int)<=(↑x0.n:Int)/\(↑(8:Nat):Int)*(↑x0.n:Int)<=(281474976710656:Int)/\(↑x0.n:Int)<=(9223372036854775807:Int)) <|
 .lp [.a 3,.oI,.oI] [.a 3 ((↑x0.n:Int).toNat) ((madeCells { toList:=[Value.int IntKind.i64 (0:Int)]:Array Value } ((↑x0.n:Int).toNat*(1:Nat))).toList),.vI 0,.vI (i64.wrap ((↑x0.n:Int)-(1:Int)))] fun y1 =>
 .bd (y1.2.2.1>=(0:Int)) (
  .el x0.1 (x0.n) y1.2.2.1 fun y2 =>
  .dy (y2.add (Int.toNat y1.2.2.1*(1:Nat))) fun y3 =>
  .rZ x1 <|
 .rI y1.2.2.1 (↑y1.1.1:Int) <|
 .rq (Int.toNat y1.2.2.1*(1:Nat)+[Value.int IntKind.i64 (i64.wrap ((i64.wrap (i64.wrap (y1.2.1*(1000000000:Int))+y3)).tdiv x1))].length<=y1.1.2.length) <|
 .rZ x1 <|
 .nx 0 [.a 3 y1.1.1 (aX y1.1.2 (Int.toNat y1.2.2.1*(1:Nat)) [Value.int IntKind.i64 (i64.wrap ((i64.wrap (i64.wrap (y1.2.1*(1000000000:Int))+y3)).tdiv x1))]),.vI ((i64.wrap (i64.wrap (y1.2.1*(1000000000:Int))+y3)).tmod x1),.vI (i64.wrap (y1.2.2.1-(1:Int)))]) <|
 .fz y1.1.1 y1.1.2 3 fun b2 c2 =>
 .jl 245 [.slice (qA b2) y1.1.1 (c2)] fun y3 =>
 .ret [qL y3,.int .i64 y1.2.1]
theorem Ji x0 x1:aP Jh 244 [qL x0,.int .i64 x1] (xE x0 x1) :=aq
def OF:An:=⟨[(2,[.s 3],[.oI])],[],[]⟩
noncomputable def Ay (x0:ar):T :=
 .lp [.oI] [.vI ((↑x0.n:Int))] fun y1 =>
 .bd (y1.1 > (0:Int)) (
  .el x0.1 (x0.n) (i64.wrap (y1.1-(1:Int))) fun y2 =>
  .dy (y2.add ((i64.wrap (y1.1-(1:Int))).toNat*(1:Nat))) fun y3 =>
  .br (y3 == (0:Int)) (
   .nx 0 [.vI (i64.wrap (y1.1-(1:Int)))]) <|
 .rq ((0:Int)<=(0:Int)/\(0:Int)<=y1.1/\y1.1<=(↑x0.c:Int)/\(↑x0.c:Int)<=(↑x0.c:Int)) <|
 .ret [.slice (if (↑x0.c:Int).toNat=Int.toNat (0:Int) then x0.1 else Option.map (fun x=>x.add (Int.toNat (0:Int)*Go.Proofs.Tryz.prog.types[(3:Nat)].size)) x0.1) (Int.toNat y1.1-Int.toNat (0:Int)) ((↑x0.c:Int).toNat-Int.toNat (0:Int))]) <|
 .rq ((0:Int)<=(0:Int)/\(0:Int)<=y1.1/\y1.1<=(↑x0.c:Int)/\(↑x0.c:Int)<=(↑x0.c:Int)) <|
 .ret [.slice (if (↑x0.c:Int).toNat=Int.toNat (0:Int) then x0.1 else Option.map (fun x=>x.add (Int.toNat (0:Int)*Go.Proofs.Tryz.prog.types[(3:Nat)].size)) x0.1) (Int.toNat y1.1-Int.toNat (0:Int)) ((↑x0.c:Int).toNat-Int.toNat (0:Int))]
theorem OG x0:aP OF 245 [qL x0] (Ay x0) :=aq
def Jj:An:=⟨[(3,[.s 5,.s 6],[.oI,.oI])],[],[]⟩
def xF (x0:ar) (x1:ar):T :=
 .lp [.oI,.oI] [.vI 0,.vI 999999999] fun y1 =>
 .bd (y1.1<y1.2.1) (
  .rZ (2:Int) <|
 .jl 214 [.int .i64 (i64.wrap ((i64.wrap (i64.wrap (y1.1+y1.2.1)+(1:Int))).tdiv (2:Int)))] fun y2 =>
  .jl 194 [qL x1,qL y2] fun y3 =>
  .eR 127 [qL y3,qL x0] fun y4 =>
  .bd (y4<=(0:Int)) (
   .nx 0 [.vI (i64.wrap ((i64.wrap (i64.wrap (y1.1+y1.2.1)+(1:Int))).tdiv (2:Int))),.vI y1.2.1]) <|
 .nx 0 [.vI y1.1,.vI (i64.wrap (i64.wrap ((i64.wrap (i64.wrap (y1.1+y1.2.1)+(1:Int))).tdiv (2:Int))-(1:Int)))]) <|
 .ret [.int .i64 y1.1]
theorem Jk x0 x1:aP Jj 246 [qL x0,qL x1] (xF x0 x1) :=aq
def Uh:An:=⟨[(4,[.s 5,.s 6,.s 12],[.a 3,.oI,.oI])],[],[]⟩
def DB (x0:ar) (x1:ar):T :=
 .lp [.a 3,.oI,.oI] [.a 3 ((0:Nat)) [],.vI 0,.vI 0] fun y1 =>
 .bd (y1.2.2.1<(↑x0.n:Int)) (
  .el x0.1 (x0.n) y1.2.2.1 fun y2 =>
  .dy (y2.add (Int.toNat y1.2.2.1*(1:Nat))) fun y3 =>
  .bd (y1.2.2.1<(↑x1.n:Int)) (
   .el x1.1 (x1.n) y1.2.2.1 fun y4 =>
   .dy (y4.add (Int.toNat y1.2.2.1*(1:Nat))) fun y5 =>
   .bd (i64.wrap (i64.wrap (y3-y1.2.1)-y5)<(0:Int)) (
    .rL [Value.int IntKind.i64 (i64.wrap (i64.wrap (i64.wrap (y3-y1.2.1)-y5)+(1000000000:Int)))] 1 1 <|
 .rO [Value.int IntKind.i64 (i64.wrap (i64.wrap (i64.wrap (y3-y1.2.1)-y5)+(1000000000:Int)))] (y1.1.1+(1:Nat)) 8 <|
 .nx 0 [.a 3 (y1.1.1+(1:Nat)) (y1.1.2++[Value.int IntKind.i64 (i64.wrap (i64.wrap (i64.wrap (y3-y1.2.1)-y5)+(1000000000:Int)))]),.vI 1,.vI (i64.wrap (y1.2.2.1+(1:Int)))]) <|
 .rL [Value.int IntKind.i64 (i64.wrap (i64.wrap (y3-y1.2.1)-y5))] 1 1 <|
 .rO [Value.int IntKind.i64 (i64.wrap (i64.wrap (y3-y1.2.1)-y5))] (y1.1.1+(1:Nat)) 8 <|
 .nx 0 [.a 3 (y1.1.1+(1:Nat)) (y1.1.2++[Value.int IntKind.i64 (i64.wrap (i64.wrap (y3-y1.2.1)-y5))]),.vI 0,.vI (i64.wrap (y1.2.2.1+(1:Int)))]) <|
 .bd (i64.wrap (y3-y1.2.1)<(0:Int)) (
   .rL [Value.int IntKind.i64 (i64.wrap (i64.wrap (y3-y1.2.1)+(1000000000:Int)))] 1 1 <|
 .rO [Value.int IntKind.i64 (i64.wrap (i64.wrap (y3-y1.2.1)+(1000000000:Int)))] (y1.1.1+(1:Nat)) 8 <|
 .nx 0 [.a 3 (y1.1.1+(1:Nat)) (y1.1.2++[Value.int IntKind.i64 (i64.wrap (i64.wrap (y3-y1.2.1)+(1000000000:Int)))]),.vI 1,.vI (i64.wrap (y1.2.2.1+(1:Int)))]) <|
 .rL [Value.int IntKind.i64 (i64.wrap (y3-y1.2.1))] 1 1 <|
 .rO [Value.int IntKind.i64 (i64.wrap (y3-y1.2.1))] (y1.1.1+(1:Nat)) 8 <|
 .nx 0 [.a 3 (y1.1.1+(1:Nat)) (y1.1.2++[Value.int IntKind.i64 (i64.wrap (y3-y1.2.1))]),.vI 0,.vI (i64.wrap (y1.2.2.1+(1:Int)))]) <|
 .fz y1.1.1 y1.1.2 3 fun b2 c2 =>
 .jl 245 [.slice (qA b2) y1.1.1 (c2)] fun y3 =>
 .ret [qL y3]
theorem Ui x0 x1:aP Uh 247 [qL x0,qL x1] (DB x0 x1) :=aq
def OH:An:=⟨[(5,[.s 4,.s 5],[.a 3,.oI]),(12,[.s 7,.s 8],[.oI,.oI])],[],[]⟩
def Az (x0:ByteArray):T :=
 .bN 197 [.string x0] fun y1 =>
 .bn y1 (.ret [.slice none 0 0,.bool (false)]) <|
 .bd ((↑x0.size:Int) > (450:Int)) (
  .ret [.slice none 0 0,.bool (false)]) <|
 .bd ((↑x0.size:Int) > (1:Int)) (
  .rI (0:Int) (↑x0.size:Int) <|
 .br (de x0 (Int.toNat (0:Int)) == (48:Int)) (
   .ret [.slice none 0 0,.bool (false)]) <|
 .lp [.a 3,.oI] [.a 3 ((0:Nat)) [],.vI ((↑x0.size:Int))] fun y2 =>
  .bd (y2.2.1 > (0:Int)) (
   .bd (i64.wrap (y2.2.1-(9:Int))<(0:Int)) (
    .lp [.oI,.oI] [.vI 0,.vI 0] fun y3 =>
    .bd (y3.2.1<y2.2.1) (
     .rI y3.2.1 (↑x0.size:Int) <|
 .nx 1 [.vI (i64.wrap (i64.wrap (i64.wrap (y3.1*(10:Int))+i64.wrap (de x0 (Int.toNat y3.2.1)))-(48:Int))),.vI (i64.wrap (y3.2.1+(1:Int)))]) <|
 .rL [Value.int IntKind.i64 y3.1] 1 1 <|
 .rO [Value.int IntKind.i64 y3.1] (y2.1.1+(1:Nat)) 8 <|
 .nx 0 [.a 3 (y2.1.1+(1:Nat)) (y2.1.2++[Value.int IntKind.i64 y3.1]),.vI (i64.wrap (y2.2.1-(9:Int)))]) <|
 .lp [.oI,.oI] [.vI 0,.vI (i64.wrap (y2.2.1-(9:Int)))] fun y3 =>
   .bd (y3.2.1<y2.2.1) (
    .rI y3.2.1 (↑x0.size:Int) <|
 .nx 1 [.vI (i64.wrap (i64.wrap (i64.wrap (y3.1*(10:Int))+i64.wrap (de x0 (Int.toNat y3.2.1)))-(48:Int))),.vI (i64.wrap (y3.2.1+(1:Int)))]) <|
 .rL [Value.int IntKind.i64 y3.1] 1 1 <|
 .rO [Value.int IntKind.i64 y3.1] (y2.1.1+(1:Nat)) 8 <|
 .nx 0 [.a 3 (y2.1.1+(1:Nat)) (y2.1.2++[Value.int IntKind.i64 y3.1]),.vI (i64.wrap (y2.2.1-(9:Int)))]) <|
 .fz y2.1.1 y2.1.2 3 fun b3 c3 =>
  .jl 245 [.slice (qA b3) y2.1.1 (c3)] fun y4 =>
  .ret [qL y4,.bool (true)]) <|
 .lp [.a 3,.oI] [.a 3 ((0:Nat)) [],.vI ((↑x0.size:Int))] fun y2 =>
 .bd (y2.2.1 > (0:Int)) (
  .bd (i64.wrap (y2.2.1-(9:Int))<(0:Int)) (
   .lp [.oI,.oI] [.vI 0,.vI 0] fun y3 =>
   .bd (y3.2.1<y2.2.1) (
    .rI y3.2.1 (↑x0.size:Int) <|
 .nx 1 [.vI (i64.wrap (i64.wrap (i64.wrap (y3.1*(10:Int))+i64.wrap (de x0 (Int.toNat y3.2.1)))-(48:Int))),.vI (i64.wrap (y3.2.1+(1:Int)))]) <|
 .rL [Value.int IntKind.i64 y3.1] 1 1 <|
 .rO [Value.int IntKind.i64 y3.1] (y2.1.1+(1:Nat)) 8 <|
 .nx 0 [.a 3 (y2.1.1+(1:Nat)) (y2.1.2++[Value.int IntKind.i64 y3.1]),.vI (i64.wrap (y2.2.1-(9:Int)))]) <|
 .lp [.oI,.oI] [.vI 0,.vI (i64.wrap (y2.2.1-(9:Int)))] fun y3 =>
  .bd (y3.2.1<y2.2.1) (
   .rI y3.2.1 (↑x0.size:Int) <|
 .nx 1 [.vI (i64.wrap (i64.wrap (i64.wrap (y3.1*(10:Int))+i64.wrap (de x0 (Int.toNat y3.2.1)))-(48:Int))),.vI (i64.wrap (y3.2.1+(1:Int)))]) <|
 .rL [Value.int IntKind.i64 y3.1] 1 1 <|
 .rO [Value.int IntKind.i64 y3.1] (y2.1.1+(1:Nat)) 8 <|
 .nx 0 [.a 3 (y2.1.1+(1:Nat)) (y2.1.2++[Value.int IntKind.i64 y3.1]),.vI (i64.wrap (y2.2.1-(9:Int)))]) <|
 .fz y2.1.1 y2.1.2 3 fun b3 c3 =>
 .jl 245 [.slice (qA b3) y2.1.1 (c3)] fun y4 =>
 .ret [qL y4,.bool (true)]
theorem OI x0:aP OH 248 [.string x0] (Az x0) :=aq
def Uj:An:=⟨[(2,[.s 10],[.oI])],[],[]⟩
def DC (x0:Ho) (x1:ByteArray):T :=
 .lp [.oI] [.vI 0] fun y1 =>
 .bd (y1.1<(↑x0.1.n:Int)) (
  .el x0.1.1 (x0.1.n) y1.1 fun y2 =>
  .vO (y2.add (Int.toNat y1.1*(4:Nat))) fun y3 =>
  .br (ByteArray.toList y3.1 == x1.toList) (
   .ret [.int .i64 y1.1]) <|
 .nx 0 [.vI (i64.wrap (y1.1+(1:Int)))]) <|
 .rM
theorem Uk x0 x1:aP Uj 249 [dJ x0,.string x1] (DC x0 x1) :=aq
def Jl:An:=⟨[(5,[.s 9],[.oI])],[],[]⟩
noncomputable def xG (x0:Ho) (x1:ByteArray) (x2:ByteArray):T :=
 .bN 38 [dJ x0] fun y1 =>
 .bn y1 (.ret [dJ (ai,()),.bool (false)]) <|
 .eR 249 [dJ x0,.string x1] fun y2 =>
 .bd (y2>=(0:Int)) (
  .ret [dJ (ai,()),.bool (false)]) <|
 .qc7 78 [dJ x0] fun y3 =>
 .lp [.oI] [.vI 0] fun y4 =>
 .bd (y4.1<(↑y3.1.n:Int)) (
  .el y3.1.1 (y3.1.n) y4.1 fun y5 =>
  .iy ((y5.add (Int.toNat y4.1*(4:Nat))).add (0:Nat)) fun y6 =>
  .br (Op.bytesLess y6.toList x1.toList) (
   .nx 0 [.vI (i64.wrap (y4.1+(1:Int)))]) <|
 .rq ((0:Int)<=(0:Int)/\(0:Int)<=y4.1/\y4.1<=(↑y3.1.c:Int)/\(↑y3.1.c:Int)<=(↑y3.1.c:Int)) <|
 .rd ({ a:=if (↑y3.1.c:Int).toNat=Int.toNat (0:Int) then y3.1.1 else Option.map (fun x=>x.add (Int.toNat (0:Int)*Go.Proofs.Tryz.prog.types[(93:Nat)].size)) y3.1.1,n:=Int.toNat y4.1-Int.toNat (0:Int),c:=(↑y3.1.c:Int).toNat-Int.toNat (0:Int):ar }) ((4:Nat)) fun y7 =>
  .rq (one y7=true/\((0:Nat)+(Int.toNat y4.1-Int.toNat (0:Int)))*(64:Nat)<=(140737488355328:Nat)/\(0:Nat)+(Int.toNat y4.1-Int.toNat (0:Int))<=(9223372036854775807:Nat)) <|
 .rL [Value.string x1,Value.string x2,Value.bool false,Value.slice none (0:Nat) (0:Nat)] 1 4 <|
 .rO [Value.string x1,Value.string x2,Value.bool false,Value.slice none (0:Nat) (0:Nat)] ((0:Nat)+(Int.toNat y4.1-Int.toNat (0:Int))+(1:Nat)) 64 <|
 .rq ((0:Int)<=y4.1/\y4.1<=(↑y3.1.n:Int)/\(↑y3.1.n:Int)<=(↑y3.1.c:Int)/\(↑y3.1.c:Int)<=(↑y3.1.c:Int)) <|
 .rd ({ a:=if (↑y3.1.c:Int).toNat=Int.toNat y4.1 then y3.1.1 else Option.map (fun x=>x.add (Int.toNat y4.1*Go.Proofs.Tryz.prog.types[(93:Nat)].size)) y3.1.1,n:=(↑y3.1.n:Int).toNat-Int.toNat y4.1,c:=(↑y3.1.c:Int).toNat-Int.toNat y4.1:ar }) ((4:Nat)) fun y8 =>
  .rq (one y8=true/\((0:Nat)+(Int.toNat y4.1-Int.toNat (0:Int))+(1:Nat)+((↑y3.1.n:Int).toNat-Int.toNat y4.1))*(64:Nat)<=(140737488355328:Nat)/\(0:Nat)+(Int.toNat y4.1-Int.toNat (0:Int))+(1:Nat)+((↑y3.1.n:Int).toNat-Int.toNat y4.1)<=(9223372036854775807:Nat)) <|
 .fz ((0:Nat)+(Int.toNat y4.1-Int.toNat (0:Int))+(1:Nat)+((↑y3.1.n:Int).toNat-Int.toNat y4.1)) ([]++y7++[Value.string x1,Value.string x2,Value.bool false,Value.slice none (0:Nat) (0:Nat)]++y8) 93 fun b9 c9 =>
  .bN 38 [dJ ((⟨(some { block:=b9,off:=(0:Nat):Addr }),((0:Nat)+(Int.toNat y4.1-Int.toNat (0:Int))+(1:Nat)+((↑y3.1.n:Int).toNat-Int.toNat y4.1)),(c9)⟩:ar),())] fun dM =>
  .bn dM (.ret [dJ (ai,()),.bool (false)]) <|
 .ret [dJ ((⟨(some { block:=b9,off:=(0:Nat):Addr }),((0:Nat)+(Int.toNat y4.1-Int.toNat (0:Int))+(1:Nat)+((↑y3.1.n:Int).toNat-Int.toNat y4.1)),(c9)⟩:ar),()),.bool (true)]) <|
 .rq ((0:Int)<=(0:Int)/\(0:Int)<=y4.1/\y4.1<=(↑y3.1.c:Int)/\(↑y3.1.c:Int)<=(↑y3.1.c:Int)) <|
 .rd ({ a:=if (↑y3.1.c:Int).toNat=Int.toNat (0:Int) then y3.1.1 else Option.map (fun x=>x.add (Int.toNat (0:Int)*Go.Proofs.Tryz.prog.types[(93:Nat)].size)) y3.1.1,n:=Int.toNat y4.1-Int.toNat (0:Int),c:=(↑y3.1.c:Int).toNat-Int.toNat (0:Int):ar }) ((4:Nat)) fun y5 =>
 .rq (one y5=true/\((0:Nat)+(Int.toNat y4.1-Int.toNat (0:Int)))*(64:Nat)<=(140737488355328:Nat)/\(0:Nat)+(Int.toNat y4.1-Int.toNat (0:Int))<=(9223372036854775807:Nat)) <|
 .rL [Value.string x1,Value.string x2,Value.bool false,Value.slice none (0:Nat) (0:Nat)] 1 4 <|
 .rO [Value.string x1,Value.string x2,Value.bool false,Value.slice none (0:Nat) (0:Nat)] ((0:Nat)+(Int.toNat y4.1-Int.toNat (0:Int))+(1:Nat)) 64 <|
 .rq ((0:Int)<=y4.1/\y4.1<=(↑y3.1.n:Int)/\(↑y3.1.n:Int)<=(↑y3.1.c:Int)/\(↑y3.1.c:Int)<=(↑y3.1.c:Int)) <|
 .rd ({ a:=if (↑y3.1.c:Int).toNat=Int.toNat y4.1 then y3.1.1 else Option.map (fun x=>x.add (Int.toNat y4.1*Go.Proofs.Tryz.prog.types[(93:Nat)].size)) y3.1.1,n:=(↑y3.1.n:Int).toNat-Int.toNat y4.1,c:=(↑y3.1.c:Int).toNat-Int.toNat y4.1:ar }) ((4:Nat)) fun y6 =>
 .rq (one y6=true/\((0:Nat)+(Int.toNat y4.1-Int.toNat (0:Int))+(1:Nat)+((↑y3.1.n:Int).toNat-Int.toNat y4.1))*(64:Nat)<=(140737488355328:Nat)/\(0:Nat)+(Int.toNat y4.1-Int.toNat (0:Int))+(1:Nat)+((↑y3.1.n:Int).toNat-Int.toNat y4.1)<=(9223372036854775807:Nat)) <|
 .fz ((0:Nat)+(Int.toNat y4.1-Int.toNat (0:Int))+(1:Nat)+((↑y3.1.n:Int).toNat-Int.toNat y4.1)) ([]++y5++[Value.string x1,Value.string x2,Value.bool false,Value.slice none (0:Nat) (0:Nat)]++y6) 93 fun b7 c7 =>
 .bN 38 [dJ ((⟨(some { block:=b7,off:=(0:Nat):Addr }),((0:Nat)+(Int.toNat y4.1-Int.toNat (0:Int))+(1:Nat)+((↑y3.1.n:Int).toNat-Int.toNat y4.1)),(c7)⟩:ar),())] fun y8 =>
 .bn y8 (.ret [dJ (ai,()),.bool (false)]) <|
 .ret [dJ ((⟨(some { block:=b7,off:=(0:Nat):Addr }),((0:Nat)+(Int.toNat y4.1-Int.toNat (0:Int))+(1:Nat)+((↑y3.1.n:Int).toNat-Int.toNat y4.1)),(c7)⟩:ar),()),.bool (true)]
theorem Jm x0 x1 x2:aP Jl 250 [dJ x0,.string x1,.string x2] (xG x0 x1 x2) :=aq
def OJ:An:=⟨[(2,[.s 17,.c 4 0,.c 4 1,.c 4 2,.c 4 3],[.oI,.oL,.oL,.oS,.oL]),(8,[.s 31,.c 4 0,.c 4 1,.c 4 2,.c 4 3],[.oI,.oL,.oL,.oS,.oL]),(15,[.s 57,.c 4 0,.c 4 1,.c 4 2,.c 4 3,.c 10 0,.c 10 1,.c 10 2,.c 10 3],[.oI,.oL,.oL,.oS,.oL,.oL,.oL,.oS,.oL])],[],[]⟩
def AA (x0:nn) (x1:ar):T :=
 .lp [.oI,.oL,.oL,.oS,.oL] [.vI 0,.v (.slice none 0 0),.v (.slice none 0 0),.vS ba,.v (.slice none 0 0)] fun y1 =>
 .bd (y1.1<(↑x1.n:Int)) (
  .el x1.1 (x1.n) y1.1 fun y2 =>
  .vO (y2.add (Int.toNat y1.1*(4:Nat))) fun y3 =>
  .eR 249 [dJ (x0.1,()),.string y3.1] fun y4 =>
  .bd (y4<(0:Int)) (
   .ret [aU (ai,ai,ba,ai,()),.int .i64 3]) <|
 .nx 0 [.vI (i64.wrap (y1.1+(1:Int))),.vL y1.2.1,.vL y1.2.2.1,.vS y1.2.2.2.1,.vL y1.2.2.2.2.1]) <|
 .lp [.oI,.oL,.oL,.oS,.oL] [.vI 0,.vL y1.2.1,.vL y1.2.2.1,.vS y1.2.2.2.1,.vL y1.2.2.2.2.1] fun y2 =>
 .bd (y2.1<(↑x1.n:Int)) (
  .el x1.1 (x1.n) y2.1 fun y3 =>
  .vO (y3.add (Int.toNat y2.1*(4:Nat))) fun y4 =>
  .rg <|
 .XX 249 [dJ (x0.1,()),.string y4.1] fun y5 =>
  .el x0.1.1 (x0.1.n) y5 fun y6 =>
  .mQ (((y6.add (y5.toNat*(4:Nat))).add (1:Nat)).add (0:Nat)) fun y7 =>
  .br (!y7.toList == ByteArray.toList y4.2.1) (
   .ret [aU (ai,ai,ba,ai,()),.int .i64 5]) <|
 .nx 1 [.vI (i64.wrap (y2.1+(1:Int))),.vL y2.2.1,.vL y2.2.2.1,.vS y2.2.2.2.1,.vL y2.2.2.2.2.1]) <|
 .SY 41 [aU x0] fun y3 =>
 .lp [.oI,.oL,.oL,.oS,.oL,.oL,.oL,.oS,.oL] [.vI 0,.vL y2.2.1,.vL y2.2.2.1,.vS y2.2.2.2.1,.vL y2.2.2.2.2.1,.vL y3.1,.vL y3.2.1,.vS y3.2.2.1,.vL y3.2.2.2.1] fun y4 =>
 .bd (y4.1<(↑x1.n:Int)) (
  .el x1.1 (x1.n) y4.1 fun y5 =>
  .vO (y5.add (Int.toNat y4.1*(4:Nat))) fun y6 =>
  .S1 298 [dJ (y4.2.2.2.2.2.1,()),.string y6.1,ct y6.2] fun y7 =>
  .bn y7.2.1 (.ret [aU (ai,ai,ba,ai,()),.int .i64 8]) <|
 .nx 2 [.vI (i64.wrap (y4.1+(1:Int))),.vL y4.2.1,.vL y4.2.2.1,.vS y4.2.2.2.1,.vL y4.2.2.2.2.1,.vL y7.1.1,.vL y4.2.2.2.2.2.2.1,.vS y4.2.2.2.2.2.2.2.1,.vL y4.2.2.2.2.2.2.2.2.1]) <|
 .ret [aU y4.2.2.2.2.2,.int .i64 0]
theorem OK x0 x1:aP OJ 251 [aU x0,qL x1] (AA x0 x1) :=aq
def AB (x0:SS) (x1:MS):T :=
 .bN 40 [iK x0] fun y1 =>
 .bn y1 (.ret [iK (ba,ai,()),.bool (false)]) <|
 .bN 76 [fV x1] fun y2 =>
 .bn y2 (.ret [iK (ba,ai,()),.bool (false)]) <|
 .qc9 314 [iK x0] fun y3 =>
 .eR 77 [qL x0.2.1,.string x1.1,.string x1.2.1] fun y4 =>
 .bd (y4>=(0:Int)) (
  .rg <|
 .S0 315 [fV x1] fun y5 =>
  .el y3.2.1.1 (y3.2.1.n) y4 fun y6 =>
  .st (y6.add (y4.toNat*(5:Nat))) [.string y5.1,.string y5.2.1,.bool y5.2.2.1,qL y5.2.2.2.1,.int .i64 y5.2.2.2.2.1] <|
 .bN 40 [iK y3] fun y7 =>
  .bn y7 (.ret [iK (ba,ai,()),.bool (false)]) <|
 .ret [iK y3,.bool (true)]) <|
 .rg <|
 .S0 315 [fV x1] fun y5 =>
 .rL [Value.string y5.1,Value.string y5.2.1,Value.bool y5.2.2.1,Value.slice y5.2.2.2.1.1 y5.2.2.2.1.n y5.2.2.2.1.c,Value.int IntKind.i64 y5.2.2.2.2.1] 1 5 <|
 .rq (one [Value.string y5.1,Value.string y5.2.1,Value.bool y5.2.2.1,Value.slice y5.2.2.2.1.1 y5.2.2.2.1.n y5.2.2.2.1.c,Value.int IntKind.i64 y5.2.2.2.2.1]=true) <|
 .ap ({ a:=y3.2.1.1,n:=y3.2.1.n,c:=y3.2.1.c:ar }) 5 72 [.string y5.1,.string y5.2.1,.bool y5.2.2.1,qL y5.2.2.2.1,.int .i64 y5.2.2.2.2.1] ((1:Nat)) 86 fun y6 =>
 .bN 40 [iK (y3.1,y6,())] fun y7 =>
 .bn y7 (.ret [iK (ba,ai,()),.bool (false)]) <|
 .ret [iK (y3.1,y6,()),.bool (true)]
theorem OL x0 x1:aP bX 261 [iK x0,fV x1] (AB x0 x1) :=aq
def Ul:An:=⟨[(6,[.s 5],[.oI])],[],[]⟩
def DD (x0:ar) (x1:ar):T :=
 .br ((↑x0.n:Int) != (↑x1.n:Int)) (
  .bd ((↑x0.n:Int)<(↑x1.n:Int)) (
   .rM) <|
 .ret [.int .i64 1]) <|
 .lp [.oI] [.vI (i64.wrap ((↑x0.n:Int)-(1:Int)))] fun y1 =>
 .bd (y1.1>=(0:Int)) (
  .rg <|
 .el x0.1 (x0.n) y1.1 fun y2 =>
  .o7 (y2.add (Int.toNat y1.1*(1:Nat))) fun y3 =>
  .el x1.1 (x1.n) y1.1 fun y4 =>
  .o7 (y4.add (Int.toNat y1.1*(1:Nat))) fun y5 =>
  .br (y3 != y5) (
   .rg <|
 .el x0.1 (x0.n) y1.1 fun y6 =>
   .o7 (y6.add (Int.toNat y1.1*(1:Nat))) fun y7 =>
   .el x1.1 (x1.n) y1.1 fun y8 =>
   .o7 (y8.add (Int.toNat y1.1*(1:Nat))) fun y9 =>
   .bd (y7<y9) (
    .rM) <|
 .ret [.int .i64 1]) <|
 .nx 0 [.vI (i64.wrap (y1.1-(1:Int)))]) <|
 .ret [.int .i64 0]
theorem Um x0 x1:aP Ul 265 [qL x0,qL x1] (DD x0 x1) :=aq
def Jn:An:=⟨[(4,[.s 6,.s 7,.s 8],[.a 3,.oI,.oI])],[],[]⟩
def xH (x0:ar) (x1:Int):T :=
 .rq ((0:Int)<=(↑x0.n:Int)/\(↑x0.n:Int)<=(↑x0.n:Int)/\(↑(8:Nat):Int)*(↑x0.n:Int)<=(281474976710656:Int)/\(↑x0.n:Int)<=(9223372036854775807:Int)) <|
 .lp [.a 3,.oI,.oI] [.a 3 ((↑x0.n:Int).toNat) ((madeCells { toList:=[Value.int IntKind.i64 (0:Int)]:Array Value } ((↑x0.n:Int).toNat*(1:Nat))).toList),.vI 0,.vI (i64.wrap ((↑x0.n:Int)-(1:Int)))] fun y1 =>
 .bd (y1.2.2.1>=(0:Int)) (
  .el x0.1 (x0.n) y1.2.2.1 fun y2 =>
  .dy (y2.add (Int.toNat y1.2.2.1*(1:Nat))) fun y3 =>
  .rZ x1 <|
 .rI y1.2.2.1 (↑y1.1.1:Int) <|
 .rq (Int.toNat y1.2.2.1*(1:Nat)+[Value.int IntKind.i64 (i64.wrap ((i64.wrap (i64.wrap (y1.2.1*(1000000000:Int))+y3)).tdiv x1))].length<=y1.1.2.length) <|
 .rZ x1 <|
 .nx 0 [.a 3 y1.1.1 (aX y1.1.2 (Int.toNat y1.2.2.1*(1:Nat)) [Value.int IntKind.i64 (i64.wrap ((i64.wrap (i64.wrap (y1.2.1*(1000000000:Int))+y3)).tdiv x1))]),.vI ((i64.wrap (i64.wrap (y1.2.1*(1000000000:Int))+y3)).tmod x1),.vI (i64.wrap (y1.2.2.1-(1:Int)))]) <|
 .fz y1.1.1 y1.1.2 3 fun b2 c2 =>
 .jl 270 [.slice (qA b2) y1.1.1 (c2)] fun y3 =>
 .ret [qL y3,.int .i64 y1.2.1]
theorem Jo x0 x1:aP Jn 266 [qL x0,.int .i64 x1] (xH x0 x1) :=aq
def Jp (x0:Int):T :=
 .bd (x0<(0:Int)) (
  .ret [.slice none 0 0]) <|
 .jl 288 [.int .u64 (IntKind.u64.wrap x0)] fun y1 =>
 .ret [qL y1]
theorem YA x0:aP bX 267 [.int .i64 x0] (Jp x0) :=aq
def Un:An:=⟨[(3,[.s 5,.s 21],[.a 3,.oI]),(7,[.s 5,.s 8,.s 28],[.a 3,.oI,.oI]),(14,[.s 5,.s 8,.s 11],[.a 3,.oI,.oI])],[],[]⟩
def DE (x0:ar) (x1:ar):T :=
 .rq ((0:Int)<=i64.wrap (i64.wrap ((↑x0.n:Int)+(↑x1.n:Int))+(1:Int))/\i64.wrap (i64.wrap ((↑x0.n:Int)+(↑x1.n:Int))+(1:Int))<=i64.wrap (i64.wrap ((↑x0.n:Int)+(↑x1.n:Int))+(1:Int))/\(↑(8:Nat):Int)*i64.wrap (i64.wrap ((↑x0.n:Int)+(↑x1.n:Int))+(1:Int))<=(281474976710656:Int)/\i64.wrap (i64.wrap ((↑x0.n:Int)+(↑x1.n:Int))+(1:Int))<=(9223372036854775807:Int)) <|
 .lp [.a 3,.oI] [.a 3 ((i64.wrap (i64.wrap ((↑x0.n:Int)+(↑x1.n:Int))+(1:Int))).toNat) ((madeCells { toList:=[Value.int IntKind.i64 (0:Int)]:Array Value } ((i64.wrap (i64.wrap ((↑x0.n:Int)+(↑x1.n:Int))+(1:Int))).toNat*(1:Nat))).toList),.vI 0] fun y1 =>
 .bd (y1.2.1<(↑x0.n:Int)) (
  .el x0.1 (x0.n) y1.2.1 fun y2 =>
  .dy (y2.add (Int.toNat y1.2.1*(1:Nat))) fun y3 =>
  .lp [.a 3,.oI,.oI] [.a 3 y1.1.1 y1.1.2,.vI 0,.vI 0] fun y4 =>
  .bd (y4.2.2.1<(↑x1.n:Int)) (
   .el x1.1 (x1.n) y4.2.2.1 fun y5 =>
   .dy (y5.add (Int.toNat y4.2.2.1*(1:Nat))) fun y6 =>
   .rI (i64.wrap (y1.2.1+y4.2.2.1)) (↑y4.1.1:Int) <|
 .xs y4.1.2 ((i64.wrap (y1.2.1+y4.2.2.1)).toNat*(1:Nat)) (.o (.i .i64)) fun y7 =>
   .rZ (1000000000:Int) <|
 .rI (i64.wrap (y1.2.1+y4.2.2.1)) (↑y4.1.1:Int) <|
 .rq ((i64.wrap (y1.2.1+y4.2.2.1)).toNat*(1:Nat)+[Value.int IntKind.i64 ((i64.wrap (y4.2.1+i64.wrap (y7+i64.wrap (y3*y6)))).tmod (1000000000:Int))].length<=y4.1.2.length) <|
 .rZ (1000000000:Int) <|
 .nx 1 [.a 3 y4.1.1 (aX y4.1.2 ((i64.wrap (y1.2.1+y4.2.2.1)).toNat*(1:Nat)) [Value.int IntKind.i64 ((i64.wrap (y4.2.1+i64.wrap (y7+i64.wrap (y3*y6)))).tmod (1000000000:Int))]),.vI (i64.wrap ((i64.wrap (y4.2.1+i64.wrap (y7+i64.wrap (y3*y6)))).tdiv (1000000000:Int))),.vI (i64.wrap (y4.2.2.1+(1:Int)))]) <|
 .lp [.a 3,.oI,.oI] [.a 3 y4.1.1 y4.1.2,.vI y4.2.1,.vI (i64.wrap (y1.2.1+(↑x1.n:Int)))] fun y5 =>
  .bd (y5.2.1 > (0:Int)) (
   .rI y5.2.2.1 (↑y5.1.1:Int) <|
 .xs y5.1.2 (Int.toNat y5.2.2.1*(1:Nat)) (.o (.i .i64)) fun y6 =>
   .rZ (1000000000:Int) <|
 .rI y5.2.2.1 (↑y5.1.1:Int) <|
 .rq (Int.toNat y5.2.2.1*(1:Nat)+[Value.int IntKind.i64 ((i64.wrap (y5.2.1+y6)).tmod (1000000000:Int))].length<=y5.1.2.length) <|
 .rZ (1000000000:Int) <|
 .nx 2 [.a 3 y5.1.1 (aX y5.1.2 (Int.toNat y5.2.2.1*(1:Nat)) [Value.int IntKind.i64 ((i64.wrap (y5.2.1+y6)).tmod (1000000000:Int))]),.vI (i64.wrap ((i64.wrap (y5.2.1+y6)).tdiv (1000000000:Int))),.vI (i64.wrap (y5.2.2.1+(1:Int)))]) <|
 .nx 0 [.a 3 y5.1.1 y5.1.2,.vI (i64.wrap (y1.2.1+(1:Int)))]) <|
 .fz y1.1.1 y1.1.2 3 fun b2 c2 =>
 .jl 270 [.slice (qA b2) y1.1.1 (c2)] fun y3 =>
 .ret [qL y3]
theorem Uo x0 x1:aP Un 268 [qL x0,qL x1] (DE x0 x1) :=aq
def OM:An:=⟨[(4,[.s 7],[.oI])],[],[]⟩
def AD (x0:ar) (x1:ar):T :=
 .rg <|
 .el x0.1 (x0.n) ((↑x1.n:Int)) fun y1 =>
 .o7 (y1.add ((↑x1.n:Int).toNat*(1:Nat))) fun y2 =>
 .el x0.1 (x0.n) (i64.wrap ((↑x1.n:Int)-(1:Int))) fun y3 =>
 .o7 (y3.add ((i64.wrap ((↑x1.n:Int)-(1:Int))).toNat*(1:Nat))) fun y4 =>
 .el x1.1 (x1.n) (i64.wrap ((↑x1.n:Int)-(1:Int))) fun y5 =>
 .dy (y5.add ((i64.wrap ((↑x1.n:Int)-(1:Int))).toNat*(1:Nat))) fun y6 =>
 .rZ y6 <|
 .lp [.oI] [.vI (if (999999999:Int)<i64.wrap ((i64.wrap (i64.wrap (y2*(1000000000:Int))+y4)).tdiv y6) then (999999999:Int) else i64.wrap ((i64.wrap (i64.wrap (y2*(1000000000:Int))+y4)).tdiv y6))] fun y7 =>
 .rg <|
 .bd (y7.1 > (0:Int)) (
  .el x1.1 (x1.n) (i64.wrap ((↑x1.n:Int)-(1:Int))) fun y8 =>
  .o7 (y8.add ((i64.wrap ((↑x1.n:Int)-(1:Int))).toNat*(1:Nat))) fun y9 =>
  .bd (i64.wrap (i64.wrap (i64.wrap (y2*(1000000000:Int))+y4)-i64.wrap (y7.1*y9))<(1000000000:Int)) (
   .el x1.1 (x1.n) (i64.wrap ((↑x1.n:Int)-(2:Int))) fun dM =>
   .o7 (dM.add ((i64.wrap ((↑x1.n:Int)-(2:Int))).toNat*(1:Nat))) fun gz =>
   .el x1.1 (x1.n) (i64.wrap ((↑x1.n:Int)-(1:Int))) fun fe =>
   .o7 (fe.add ((i64.wrap ((↑x1.n:Int)-(1:Int))).toNat*(1:Nat))) fun MU =>
   .el x0.1 (x0.n) (i64.wrap ((↑x1.n:Int)-(2:Int))) fun y14 =>
   .o7 (y14.add ((i64.wrap ((↑x1.n:Int)-(2:Int))).toNat*(1:Nat))) fun y15 =>
   .bd (i64.wrap (y7.1*gz) > i64.wrap (i64.wrap (i64.wrap (i64.wrap (i64.wrap (y2*(1000000000:Int))+y4)-i64.wrap (y7.1*MU))*(1000000000:Int))+y15)) (
    .nx 0 [.vI (i64.wrap (y7.1-(1:Int)))]) <|
 .bN 318 [qL x0,qL x1,.int .i64 y7.1] fun XY =>
   .br XY (
    .qc65 319 [qL x0,qL x1] fun _ =>
    .ret [.int .i64 (i64.wrap (y7.1-(1:Int)))]) <|
 .ret [.int .i64 y7.1]) <|
 .bN 318 [qL x0,qL x1,.int .i64 y7.1] fun dM =>
  .br dM (
   .qc65 319 [qL x0,qL x1] fun _ =>
   .ret [.int .i64 (i64.wrap (y7.1-(1:Int)))]) <|
 .ret [.int .i64 y7.1]) <|
 .bN 318 [qL x0,qL x1,.int .i64 y7.1] fun y8 =>
 .br y8 (
  .qc65 319 [qL x0,qL x1] fun _ =>
  .ret [.int .i64 (i64.wrap (y7.1-(1:Int)))]) <|
 .ret [.int .i64 y7.1]
theorem OO x0 x1:aP OM 269 [qL x0,qL x1] (AD x0 x1) :=aq
def aI_trim:An:=⟨[(1,[.s 0],[.oL])],[],[]⟩
noncomputable def FO (x0:ar):T :=
 .lp [.oL] [.vL x0] fun y1 =>
 .bd ((↑y1.1.n:Int) > (0:Int)) (
  .el y1.1.1 (y1.1.n) (i64.wrap ((↑y1.1.n:Int)-(1:Int))) fun y2 =>
  .dy (y2.add ((i64.wrap ((↑y1.1.n:Int)-(1:Int))).toNat*(1:Nat))) fun y3 =>
  .br (y3 == (0:Int)) (
   .rq ((0:Int)<=(0:Int)/\(0:Int)<=i64.wrap ((↑y1.1.n:Int)-(1:Int))/\i64.wrap ((↑y1.1.n:Int)-(1:Int))<=(↑y1.1.c:Int)/\(↑y1.1.c:Int)<=(↑y1.1.c:Int)) <|
 .nx 0 [.v (.slice (if (↑y1.1.c:Int).toNat=Int.toNat (0:Int) then y1.1.1 else Option.map (fun x=>x.add (Int.toNat (0:Int)*Go.Proofs.Tryz.prog.types[(3:Nat)].size)) y1.1.1) ((i64.wrap ((↑y1.1.n:Int)-(1:Int))).toNat-Int.toNat (0:Int)) ((↑y1.1.c:Int).toNat-Int.toNat (0:Int)))]) <|
 .ret [qL y1.1]) <|
 .ret [qL y1.1]
theorem Rm x0:aP aI_trim 270 [qL x0] (FO x0) :=aq
def ue (x0:ByteArray):T :=
 .jl 172 [.string x0] fun y1 =>
 .br ((↑y1.n:Int) != (2:Int)) (
  .ret [ct (ba,(false),ai,()),.bool (false)]) <|
 .el y1.1 (y1.n) ((1:Int)) fun y2 =>
 .iy (y2.add (Int.toNat (1:Int)*(1:Nat))) fun y3 =>
 .Ch 321 [.string y3] fun y4 =>
 .rg <|
 .el y1.1 (y1.n) ((0:Int)) fun y5 =>
 .mQ (y5.add (Int.toNat (0:Int)*(1:Nat))) fun y6 =>
 .bn y4.2.1 (.ret [ct (ba,(false),ai,()),.bool (false)]) <|
 .cM 181 [ct (y6,y4.1.1,y4.1.2.1,())] fun y7 =>
 .br (!y7.toList == x0.toList) (
  .ret [ct (ba,(false),ai,()),.bool (false)]) <|
 .br (x0.toList == ba.toList) (
  .ret [ct (ba,(false),ai,()),.bool (false)]) <|
 .ret [ct (y6,y4.1.1,y4.1.2.1,()),.bool (true)]
theorem FP x0:aP bX 272 [.string x0] (ue x0) :=aq
def xI (x0:ByteArray):T :=
 .jl 172 [.string x0] fun y1 =>
 .br ((↑y1.n:Int) != (3:Int)) (
  .ret [fV (ba,ba,(false),ai,(((0:Int)):Int),()),.bool (false)]) <|
 .el y1.1 (y1.n) ((2:Int)) fun y2 =>
 .iy (y2.add (Int.toNat (2:Int)*(1:Nat))) fun y3 =>
 .Ch 321 [.string y3] fun y4 =>
 .rg <|
 .el y1.1 (y1.n) ((0:Int)) fun y5 =>
 .mQ (y5.add (Int.toNat (0:Int)*(1:Nat))) fun y6 =>
 .el y1.1 (y1.n) ((1:Int)) fun y7 =>
 .mQ (y7.add (Int.toNat (1:Int)*(1:Nat))) fun y8 =>
 .bn y4.2.1 (.ret [fV (ba,ba,(false),ai,(((0:Int)):Int),()),.bool (false)]) <|
 .bN 102 [fV (y6,y8,y4.1.1,y4.1.2.1,((y4.1.2.2.1):Int),())] fun y9 =>
 .bn y9 (.ret [fV (ba,ba,(false),ai,(((0:Int)):Int),()),.bool (false)]) <|
 .ret [fV (y6,y8,y4.1.1,y4.1.2.1,((y4.1.2.2.1):Int),()),.bool (true)]
theorem Jq x0:aP bX 275 [.string x0] (xI x0) :=aq
def rS (x0:yv) (x1:yv):T :=
 .br (x0.1 == x1.1) (
  .bN 324 [qL x0.2.1,qL x1.2.1] fun y1 =>
  .ret [.bool y1]) <|
 .rF
theorem AE x0 x1:aP bX 277 [cV x0,cV x1] (rS x0 x1) :=aq
def YB (x0:ByteArray) (x1:Int):T :=
 .bd ((↑x0.size:Int)>=x1) (
  .ret [.string x0]) <|
 .bd (x1 > (2000:Int)) (
  .ret [.string x0]) <|
 .cM 329 [.string ⟨⟨[48]⟩⟩,.int .i64 (i64.wrap (x1-(↑x0.size:Int)))] fun y1 =>
 .rN (y1.size+x0.size) <|
 .ret [.string (y1++x0)]
theorem fI_Pad x0 x1:aP bX 283 [.string x0,.int .i64 x1] (YB x0 x1) :=aq
def OP:An:=⟨[(5,[.s 3,.s 4],[.oS,.oI])],[],[]⟩
def OQ (x0:ar):T :=
 .br ((↑x0.n:Int) == (0:Int)) (
  .ret [.string ⟨⟨[48]⟩⟩]) <|
 .el x0.1 (x0.n) (i64.wrap ((↑x0.n:Int)-(1:Int))) fun y1 =>
 .dy (y1.add ((i64.wrap ((↑x0.n:Int)-(1:Int))).toNat*(1:Nat))) fun y2 =>
 .cM 237 [.int .i64 y2] fun y3 =>
 .lp [.oS,.oI] [.vS y3,.vI (i64.wrap ((↑x0.n:Int)-(2:Int)))] fun y4 =>
 .bd (y4.2.1>=(0:Int)) (
  .el x0.1 (x0.n) y4.2.1 fun y5 =>
  .dy (y5.add (Int.toNat y4.2.1*(1:Nat))) fun y6 =>
  .cM 237 [.int .i64 y6] fun y7 =>
  .cM 283 [.string y7,.int .i64 9] fun y8 =>
  .rN (ByteArray.size y4.1+y8.size) <|
 .nx 0 [.vS (y4.1++y8),.vI (i64.wrap (y4.2.1-(1:Int)))]) <|
 .ret [.string y4.1]
theorem OR x0:aP OP 284 [qL x0] (OQ x0) :=aq
def YC:An:=⟨[(2,[.s 0,.s 3],[.o (.o (.i .u64)),.a 3])],[],[]⟩
def Jr (x0:Int):T :=
 .lp [.o (.o (.i .u64)),.a 3] [.v (.int .u64 x0),.a 3 ((0:Nat)) []] fun y1 =>
 .bd (y1.1 > (0:Int)) (
  .rZ (1000000000:Int) <|
 .rL [Value.int IntKind.i64 (i64.wrap (Int.tmod y1.1 (1000000000:Int)))] 1 1 <|
 .rO [Value.int IntKind.i64 (i64.wrap (Int.tmod y1.1 (1000000000:Int)))] (y1.2.1.1+(1:Nat)) 8 <|
 .rZ (1000000000:Int) <|
 .nx 0 [.v (.int .u64 (IntKind.u64.wrap (Int.tdiv y1.1 (1000000000:Int)))),.a 3 (y1.2.1.1+(1:Nat)) (y1.2.1.2++[Value.int IntKind.i64 (i64.wrap (Int.tmod y1.1 (1000000000:Int)))])]) <|
 .fz y1.2.1.1 y1.2.1.2 3 fun b2 c2 =>
 .ret [.slice (qA b2) y1.2.1.1 (c2)]
theorem YD x0:aP YC 288 [.int .u64 x0] (Jr x0) :=aq
def xJ (x0:Ho) (x1:ByteArray) (x2:vr):T :=
 .eR 249 [dJ x0,.string x1] fun y1 =>
 .bN 38 [dJ x0] fun y2 =>
 .bn y2 (.ret [dJ (ai,()),.bool (false)]) <|
 .bd (y1<(0:Int)) (
  .ret [dJ (ai,()),.bool (false)]) <|
 .rg <|
 .el x0.1.1 (x0.1.n) y1 fun y3 =>
 .ql66 ((y3.add (y1.toNat*(4:Nat))).add (1:Nat)) fun y4 =>
 .Ii 333 [ct y4,ct x2] fun y5 =>
 .bn y5.2.1 (.ret [dJ (ai,()),.bool (false)]) <|
 .qc7 78 [dJ x0] fun y6 =>
 .el y6.1.1 (y6.1.n) y1 fun y7 =>
 .st ((y7.add (y1.toNat*(4:Nat))).add (1:Nat)) [.string y5.1.1,.bool y5.1.2.1,qL y5.1.2.2.1] <|
 .ret [dJ y6,.bool (true)]
theorem Js x0 x1 x2:aP bX 298 [dJ x0,.string x1,ct x2] (xJ x0 x1 x2) :=aq
def DF (x0:yv) (x1:yv):T :=
 .br (x0.1 == x1.1) (
  .rg <|
 .Rj 348 [qL x0.2.1,qL x1.2.1] fun y1 =>
  .kg 158 [.bool x0.1,qL y1] fun y2 =>
  .ret [cV y2]) <|
 .eR 127 [qL x0.2.1,qL x1.2.1] fun y1 =>
 .bd (y1>=(0:Int)) (
  .rg <|
 .Rj 247 [qL x0.2.1,qL x1.2.1] fun y2 =>
  .kg 158 [.bool x0.1,qL y2] fun y3 =>
  .ret [cV y3]) <|
 .rg <|
 .Rj 247 [qL x1.2.1,qL x0.2.1] fun y2 =>
 .kg 158 [.bool x1.1,qL y2] fun y3 =>
 .ret [cV y3]
theorem Up x0 x1:aP bX 313 [cV x0,cV x1] (DF x0 x1) :=aq
def OS:An:=⟨[(3,[.s 12,.c 3 0,.c 3 1],[.oI,.oS,.oL])],[],[]⟩
def AF (x0:SS):T :=
 .lp [.oI,.oS,.oL] [.vI 0,.vS x0.1,.v (.slice none 0 0)] fun y1 =>
 .bd (y1.1<(↑x0.2.1.n:Int)) (
  .el x0.2.1.1 (x0.2.1.n) y1.1 fun y2 =>
  .zA (y2.add (Int.toNat y1.1*(5:Nat))) fun y3 =>
  .rg <|
 .S0 315 [fV y3] fun y4 =>
  .rL [Value.string y4.1,Value.string y4.2.1,Value.bool y4.2.2.1,Value.slice y4.2.2.2.1.1 y4.2.2.2.1.n y4.2.2.2.1.c,Value.int IntKind.i64 y4.2.2.2.2.1] 1 5 <|
 .rq (one [Value.string y4.1,Value.string y4.2.1,Value.bool y4.2.2.1,Value.slice y4.2.2.2.1.1 y4.2.2.2.1.n y4.2.2.2.1.c,Value.int IntKind.i64 y4.2.2.2.2.1]=true) <|
 .ap ({ a:=y1.2.2.1.1,n:=y1.2.2.1.n,c:=y1.2.2.1.c:ar }) 5 72 [.string y4.1,.string y4.2.1,.bool y4.2.2.1,qL y4.2.2.2.1,.int .i64 y4.2.2.2.2.1] ((1:Nat)) 86 fun y5 =>
  .nx 0 [.vI (i64.wrap (y1.1+(1:Int))),.vS y1.2.1,.vL y5]) <|
 .ret [iK y1.2]
theorem OT x0:aP OS 314 [iK x0] (AF x0) :=aq
def AG (x0:MS):T :=
 .rg <|
 .Ih 158 [.bool x0.2.2.1,qL x0.2.2.2.1] fun y1 =>
 .ret [fV (x0.1,x0.2.1,y1.1,y1.2.1,((x0.2.2.2.2.1):Int),())]
theorem OU x0:aP bX 315 [fV x0] (AG x0) :=aq
def Jt:An:=⟨[(3,[.s 0,.s 7,.s 13],[.oL,.oI,.oI])],[],[]⟩
def xK (x0:ar) (x1:ar) (x2:Int):T :=
 .lp [.oL,.oI,.oI] [.vL x0,.vI 0,.vI 0] fun y1 =>
 .bd (y1.2.2.1<(↑x1.n:Int)) (
  .el x1.1 (x1.n) y1.2.2.1 fun y2 =>
  .dy (y2.add (Int.toNat y1.2.2.1*(1:Nat))) fun y3 =>
  .el y1.1.1 (y1.1.n) y1.2.2.1 fun y4 =>
  .dy (y4.add (Int.toNat y1.2.2.1*(1:Nat))) fun y5 =>
  .bd (i64.wrap (i64.wrap (y5-i64.wrap (y3*x2))-y1.2.1)<(0:Int)) (
   .rZ (1000000000:Int) <|
 .el y1.1.1 (y1.1.n) y1.2.2.1 fun y6 =>
   .st (y6.add (Int.toNat y1.2.2.1*(1:Nat))) [.int .i64 (i64.wrap (i64.wrap (i64.wrap (y5-i64.wrap (y3*x2))-y1.2.1)+i64.wrap (i64.wrap ((i64.wrap (i64.wrap (i64.wrap ((0:Int)-i64.wrap (i64.wrap (y5-i64.wrap (y3*x2))-y1.2.1))+(1000000000:Int))-(1:Int))).tdiv (1000000000:Int))*(1000000000:Int))))] <|
 .nx 0 [.vL y1.1,.vI (i64.wrap ((i64.wrap (i64.wrap (i64.wrap ((0:Int)-i64.wrap (i64.wrap (y5-i64.wrap (y3*x2))-y1.2.1))+(1000000000:Int))-(1:Int))).tdiv (1000000000:Int))),.vI (i64.wrap (y1.2.2.1+(1:Int)))]) <|
 .el y1.1.1 (y1.1.n) y1.2.2.1 fun y6 =>
  .st (y6.add (Int.toNat y1.2.2.1*(1:Nat))) [.int .i64 (i64.wrap (i64.wrap (y5-i64.wrap (y3*x2))-y1.2.1))] <|
 .nx 0 [.vL y1.1,.vI 0,.vI (i64.wrap (y1.2.2.1+(1:Int)))]) <|
 .el y1.1.1 (y1.1.n) ((↑x1.n:Int)) fun y2 =>
 .dy (y2.add ((↑x1.n:Int).toNat*(1:Nat))) fun y3 =>
 .el y1.1.1 (y1.1.n) ((↑x1.n:Int)) fun y4 =>
 .st (y4.add ((↑x1.n:Int).toNat*(1:Nat))) [.int .i64 (i64.wrap (y3-y1.2.1))] <|
 .el y1.1.1 (y1.1.n) ((↑x1.n:Int)) fun y5 =>
 .dy (y5.add ((↑x1.n:Int).toNat*(1:Nat))) fun y6 =>
 .ret [.bool (decide (y6<(0:Int)))]
theorem Ju x0 x1 x2:aP Jt 318 [qL x0,qL x1,.int .i64 x2] (xK x0 x1 x2) :=aq
def OV:An:=⟨[(2,[.s 0,.s 4,.s 9],[.oL,.oI,.oI])],[],[]⟩
def AH (x0:ar) (x1:ar):T :=
 .lp [.oL,.oI,.oI] [.vL x0,.vI 0,.vI 0] fun y1 =>
 .bd (y1.2.2.1<(↑x1.n:Int)) (
  .el x1.1 (x1.n) y1.2.2.1 fun y2 =>
  .dy (y2.add (Int.toNat y1.2.2.1*(1:Nat))) fun y3 =>
  .el y1.1.1 (y1.1.n) y1.2.2.1 fun y4 =>
  .dy (y4.add (Int.toNat y1.2.2.1*(1:Nat))) fun y5 =>
  .rZ (1000000000:Int) <|
 .el y1.1.1 (y1.1.n) y1.2.2.1 fun y6 =>
  .st (y6.add (Int.toNat y1.2.2.1*(1:Nat))) [.int .i64 ((i64.wrap (y1.2.1+i64.wrap (y5+y3))).tmod (1000000000:Int))] <|
 .rZ (1000000000:Int) <|
 .nx 0 [.vL y1.1,.vI (i64.wrap ((i64.wrap (y1.2.1+i64.wrap (y5+y3))).tdiv (1000000000:Int))),.vI (i64.wrap (y1.2.2.1+(1:Int)))]) <|
 .el y1.1.1 (y1.1.n) ((↑x1.n:Int)) fun y2 =>
 .dy (y2.add ((↑x1.n:Int).toNat*(1:Nat))) fun y3 =>
 .el y1.1.1 (y1.1.n) ((↑x1.n:Int)) fun y4 =>
 .st (y4.add ((↑x1.n:Int).toNat*(1:Nat))) [.int .i64 (i64.wrap (y3+y1.2.1))] <|
 .ret []
theorem OW x0 x1:aP OV 319 [qL x0,qL x1] (AH x0 x1) :=aq
end
noncomputable section
def OX:An:=⟨[(12,[.s 8],[.oS])],[],[]⟩
def AI (x0:ByteArray):T :=
 .br (!x0.toList == ba.toList) (
  .rI (0:Int) (↑x0.size:Int) <|
 .br (de x0 (Int.toNat (0:Int)) == (45:Int)) (
   .rq ((0:Int)<=(1:Int)/\(1:Int)<=(↑x0.size:Int)/\(↑x0.size:Int)<=(↑x0.size:Int)) <|
 .jl 220 [.string (x0.extract (Int.toNat (1:Int)) (↑x0.size:Int).toNat),.string ⟨⟨[46]⟩⟩] fun y1 =>
   .bd ((↑y1.n:Int) > (2:Int)) (
    .ret [cA ((false),ai,(((0:Int)):Int),()),.bool (false)]) <|
 .bd ((↑(x0.extract (Int.toNat (1:Int)) (↑x0.size:Int).toNat).size:Int) > (100:Int)) (
    .ret [cA ((false),ai,(((0:Int)):Int),()),.bool (false)]) <|
 .br ((↑y1.n:Int) == (2:Int)) (
    .el y1.1 (y1.n) ((1:Int)) fun y2 =>
    .iy (y2.add (Int.toNat (1:Int)*(1:Nat))) fun y3 =>
    .cM 114 [qL y1,.string ba] fun y4 =>
    .lp [.oS] [.vS y4] fun y5 =>
    .bd ((↑(ByteArray.size y5.1):Int) > (1:Int)) (
     .rI (0:Int) (↑(ByteArray.size y5.1):Int) <|
 .br (de y5.1 (Int.toNat (0:Int)) == (48:Int)) (
      .rq ((0:Int)<=(1:Int)/\(1:Int)<=(↑(ByteArray.size y5.1):Int)/\(↑(ByteArray.size y5.1):Int)<=(↑(ByteArray.size y5.1):Int)) <|
 .nx 0 [.vS (ByteArray.extract y5.1 (Int.toNat (1:Int)) (↑(ByteArray.size y5.1):Int).toNat)]) <|
 .tF 350 [.string y5.1] fun y6 =>
     .kg 187 [.bool (de x0 (Int.toNat (0:Int)) == (45:Int)),qL y6.1] fun y7 =>
     .bn y6.2.1 (.ret [cA ((false),ai,(((0:Int)):Int),()),.bool (false)]) <|
 .cM 235 [cA (y7.1,y7.2.1,(((↑y3.size:Int)):Int),())] fun y8 =>
     .br (!y8.toList == x0.toList) (
      .ret [cA ((false),ai,(((0:Int)):Int),()),.bool (false)]) <|
 .ret [cA (y7.1,y7.2.1,(((↑y3.size:Int)):Int),()),.bool (true)]) <|
 .tF 350 [.string y5.1] fun y6 =>
    .kg 187 [.bool (de x0 (Int.toNat (0:Int)) == (45:Int)),qL y6.1] fun y7 =>
    .bn y6.2.1 (.ret [cA ((false),ai,(((0:Int)):Int),()),.bool (false)]) <|
 .cM 235 [cA (y7.1,y7.2.1,(((↑y3.size:Int)):Int),())] fun y8 =>
    .br (!y8.toList == x0.toList) (
     .ret [cA ((false),ai,(((0:Int)):Int),()),.bool (false)]) <|
 .ret [cA (y7.1,y7.2.1,(((↑y3.size:Int)):Int),()),.bool (true)]) <|
 .cM 114 [qL y1,.string ba] fun y2 =>
   .lp [.oS] [.vS y2] fun y3 =>
   .bd ((↑(ByteArray.size y3.1):Int) > (1:Int)) (
    .rI (0:Int) (↑(ByteArray.size y3.1):Int) <|
 .br (de y3.1 (Int.toNat (0:Int)) == (48:Int)) (
     .rq ((0:Int)<=(1:Int)/\(1:Int)<=(↑(ByteArray.size y3.1):Int)/\(↑(ByteArray.size y3.1):Int)<=(↑(ByteArray.size y3.1):Int)) <|
 .nx 0 [.vS (ByteArray.extract y3.1 (Int.toNat (1:Int)) (↑(ByteArray.size y3.1):Int).toNat)]) <|
 .tF 350 [.string y3.1] fun y4 =>
    .kg 187 [.bool (de x0 (Int.toNat (0:Int)) == (45:Int)),qL y4.1] fun y5 =>
    .bn y4.2.1 (.ret [cA ((false),ai,(((0:Int)):Int),()),.bool (false)]) <|
 .cM 235 [cA (y5.1,y5.2.1,(((0:Int)):Int),())] fun y6 =>
    .br (!y6.toList == x0.toList) (
     .ret [cA ((false),ai,(((0:Int)):Int),()),.bool (false)]) <|
 .ret [cA (y5.1,y5.2.1,(((0:Int)):Int),()),.bool (true)]) <|
 .tF 350 [.string y3.1] fun y4 =>
   .kg 187 [.bool (de x0 (Int.toNat (0:Int)) == (45:Int)),qL y4.1] fun y5 =>
   .bn y4.2.1 (.ret [cA ((false),ai,(((0:Int)):Int),()),.bool (false)]) <|
 .cM 235 [cA (y5.1,y5.2.1,(((0:Int)):Int),())] fun y6 =>
   .br (!y6.toList == x0.toList) (
    .ret [cA ((false),ai,(((0:Int)):Int),()),.bool (false)]) <|
 .ret [cA (y5.1,y5.2.1,(((0:Int)):Int),()),.bool (true)]) <|
 .jl 220 [.string x0,.string ⟨⟨[46]⟩⟩] fun y1 =>
  .bd ((↑y1.n:Int) > (2:Int)) (
   .ret [cA ((false),ai,(((0:Int)):Int),()),.bool (false)]) <|
 .bd ((↑x0.size:Int) > (100:Int)) (
   .ret [cA ((false),ai,(((0:Int)):Int),()),.bool (false)]) <|
 .br ((↑y1.n:Int) == (2:Int)) (
   .el y1.1 (y1.n) ((1:Int)) fun y2 =>
   .iy (y2.add (Int.toNat (1:Int)*(1:Nat))) fun y3 =>
   .cM 114 [qL y1,.string ba] fun y4 =>
   .lp [.oS] [.vS y4] fun y5 =>
   .bd ((↑(ByteArray.size y5.1):Int) > (1:Int)) (
    .rI (0:Int) (↑(ByteArray.size y5.1):Int) <|
 .br (de y5.1 (Int.toNat (0:Int)) == (48:Int)) (
     .rq ((0:Int)<=(1:Int)/\(1:Int)<=(↑(ByteArray.size y5.1):Int)/\(↑(ByteArray.size y5.1):Int)<=(↑(ByteArray.size y5.1):Int)) <|
 .nx 0 [.vS (ByteArray.extract y5.1 (Int.toNat (1:Int)) (↑(ByteArray.size y5.1):Int).toNat)]) <|
 .tF 350 [.string y5.1] fun y6 =>
    .kg 187 [.bool (de x0 (Int.toNat (0:Int)) == (45:Int)),qL y6.1] fun y7 =>
    .bn y6.2.1 (.ret [cA ((false),ai,(((0:Int)):Int),()),.bool (false)]) <|
 .cM 235 [cA (y7.1,y7.2.1,(((↑y3.size:Int)):Int),())] fun y8 =>
    .br (!y8.toList == x0.toList) (
     .ret [cA ((false),ai,(((0:Int)):Int),()),.bool (false)]) <|
 .ret [cA (y7.1,y7.2.1,(((↑y3.size:Int)):Int),()),.bool (true)]) <|
 .tF 350 [.string y5.1] fun y6 =>
   .kg 187 [.bool (de x0 (Int.toNat (0:Int)) == (45:Int)),qL y6.1] fun y7 =>
   .bn y6.2.1 (.ret [cA ((false),ai,(((0:Int)):Int),()),.bool (false)]) <|
 .cM 235 [cA (y7.1,y7.2.1,(((↑y3.size:Int)):Int),())] fun y8 =>
   .br (!y8.toList == x0.toList) (
    .ret [cA ((false),ai,(((0:Int)):Int),()),.bool (false)]) <|
 .ret [cA (y7.1,y7.2.1,(((↑y3.size:Int)):Int),()),.bool (true)]) <|
 .cM 114 [qL y1,.string ba] fun y2 =>
  .lp [.oS] [.vS y2] fun y3 =>
  .bd ((↑(ByteArray.size y3.1):Int) > (1:Int)) (
   .rI (0:Int) (↑(ByteArray.size y3.1):Int) <|
 .br (de y3.1 (Int.toNat (0:Int)) == (48:Int)) (
    .rq ((0:Int)<=(1:Int)/\(1:Int)<=(↑(ByteArray.size y3.1):Int)/\(↑(ByteArray.size y3.1):Int)<=(↑(ByteArray.size y3.1):Int)) <|
 .nx 0 [.vS (ByteArray.extract y3.1 (Int.toNat (1:Int)) (↑(ByteArray.size y3.1):Int).toNat)]) <|
 .tF 350 [.string y3.1] fun y4 =>
   .kg 187 [.bool (de x0 (Int.toNat (0:Int)) == (45:Int)),qL y4.1] fun y5 =>
   .bn y4.2.1 (.ret [cA ((false),ai,(((0:Int)):Int),()),.bool (false)]) <|
 .cM 235 [cA (y5.1,y5.2.1,(((0:Int)):Int),())] fun y6 =>
   .br (!y6.toList == x0.toList) (
    .ret [cA ((false),ai,(((0:Int)):Int),()),.bool (false)]) <|
 .ret [cA (y5.1,y5.2.1,(((0:Int)):Int),()),.bool (true)]) <|
 .tF 350 [.string y3.1] fun y4 =>
  .kg 187 [.bool (de x0 (Int.toNat (0:Int)) == (45:Int)),qL y4.1] fun y5 =>
  .bn y4.2.1 (.ret [cA ((false),ai,(((0:Int)):Int),()),.bool (false)]) <|
 .cM 235 [cA (y5.1,y5.2.1,(((0:Int)):Int),())] fun y6 =>
  .br (!y6.toList == x0.toList) (
   .ret [cA ((false),ai,(((0:Int)):Int),()),.bool (false)]) <|
 .ret [cA (y5.1,y5.2.1,(((0:Int)):Int),()),.bool (true)]) <|
 .jl 220 [.string x0,.string ⟨⟨[46]⟩⟩] fun y1 =>
 .bd ((↑y1.n:Int) > (2:Int)) (
  .ret [cA ((false),ai,(((0:Int)):Int),()),.bool (false)]) <|
 .bd ((↑x0.size:Int) > (100:Int)) (
  .ret [cA ((false),ai,(((0:Int)):Int),()),.bool (false)]) <|
 .br ((↑y1.n:Int) == (2:Int)) (
  .el y1.1 (y1.n) ((1:Int)) fun y2 =>
  .iy (y2.add (Int.toNat (1:Int)*(1:Nat))) fun y3 =>
  .cM 114 [qL y1,.string ba] fun y4 =>
  .lp [.oS] [.vS y4] fun y5 =>
  .bd ((↑(ByteArray.size y5.1):Int) > (1:Int)) (
   .rI (0:Int) (↑(ByteArray.size y5.1):Int) <|
 .br (de y5.1 (Int.toNat (0:Int)) == (48:Int)) (
    .rq ((0:Int)<=(1:Int)/\(1:Int)<=(↑(ByteArray.size y5.1):Int)/\(↑(ByteArray.size y5.1):Int)<=(↑(ByteArray.size y5.1):Int)) <|
 .nx 0 [.vS (ByteArray.extract y5.1 (Int.toNat (1:Int)) (↑(ByteArray.size y5.1):Int).toNat)]) <|
 .tF 350 [.string y5.1] fun y6 =>
   .kg 187 [.bool (false),qL y6.1] fun y7 =>
   .bn y6.2.1 (.ret [cA ((false),ai,(((0:Int)):Int),()),.bool (false)]) <|
 .cM 235 [cA (y7.1,y7.2.1,(((↑y3.size:Int)):Int),())] fun y8 =>
   .br (!y8.toList == x0.toList) (
    .ret [cA ((false),ai,(((0:Int)):Int),()),.bool (false)]) <|
 .ret [cA (y7.1,y7.2.1,(((↑y3.size:Int)):Int),()),.bool (true)]) <|
 .tF 350 [.string y5.1] fun y6 =>
  .kg 187 [.bool (false),qL y6.1] fun y7 =>
  .bn y6.2.1 (.ret [cA ((false),ai,(((0:Int)):Int),()),.bool (false)]) <|
 .cM 235 [cA (y7.1,y7.2.1,(((↑y3.size:Int)):Int),())] fun y8 =>
  .br (!y8.toList == x0.toList) (
   .ret [cA ((false),ai,(((0:Int)):Int),()),.bool (false)]) <|
 .ret [cA (y7.1,y7.2.1,(((↑y3.size:Int)):Int),()),.bool (true)]) <|
 .cM 114 [qL y1,.string ba] fun y2 =>
 .lp [.oS] [.vS y2] fun y3 =>
 .bd ((↑(ByteArray.size y3.1):Int) > (1:Int)) (
  .rI (0:Int) (↑(ByteArray.size y3.1):Int) <|
 .br (de y3.1 (Int.toNat (0:Int)) == (48:Int)) (
   .rq ((0:Int)<=(1:Int)/\(1:Int)<=(↑(ByteArray.size y3.1):Int)/\(↑(ByteArray.size y3.1):Int)<=(↑(ByteArray.size y3.1):Int)) <|
 .nx 0 [.vS (ByteArray.extract y3.1 (Int.toNat (1:Int)) (↑(ByteArray.size y3.1):Int).toNat)]) <|
 .tF 350 [.string y3.1] fun y4 =>
  .kg 187 [.bool (false),qL y4.1] fun y5 =>
  .bn y4.2.1 (.ret [cA ((false),ai,(((0:Int)):Int),()),.bool (false)]) <|
 .cM 235 [cA (y5.1,y5.2.1,(((0:Int)):Int),())] fun y6 =>
  .br (!y6.toList == x0.toList) (
   .ret [cA ((false),ai,(((0:Int)):Int),()),.bool (false)]) <|
 .ret [cA (y5.1,y5.2.1,(((0:Int)):Int),()),.bool (true)]) <|
 .tF 350 [.string y3.1] fun y4 =>
 .kg 187 [.bool (false),qL y4.1] fun y5 =>
 .bn y4.2.1 (.ret [cA ((false),ai,(((0:Int)):Int),()),.bool (false)]) <|
 .cM 235 [cA (y5.1,y5.2.1,(((0:Int)):Int),())] fun y6 =>
 .br (!y6.toList == x0.toList) (
  .ret [cA ((false),ai,(((0:Int)):Int),()),.bool (false)]) <|
 .ret [cA (y5.1,y5.2.1,(((0:Int)):Int),()),.bool (true)]
theorem OY x0:aP OX 321 [.string x0] (AI x0) :=aq
def Jv:An:=⟨[(4,[.s 13],[.oI])],[],[]⟩
def Jw (x0:ar) (x1:ar):T :=
 .br ((↑x0.n:Int) != (↑x1.n:Int)) (
  .rF) <|
 .lp [.oI] [.vI 0] fun y1 =>
 .bd (y1.1<(↑x0.n:Int)) (
  .rg <|
 .el x0.1 (x0.n) y1.1 fun y2 =>
  .o7 (y2.add (Int.toNat y1.1*(1:Nat))) fun y3 =>
  .el x1.1 (x1.n) y1.1 fun y4 =>
  .o7 (y4.add (Int.toNat y1.1*(1:Nat))) fun y5 =>
  .br (y3 != y5) (
   .rF) <|
 .nx 0 [.vI (i64.wrap (y1.1+(1:Int)))]) <|
 .rT
theorem xL x0 x1:aP Jv 324 [qL x0,qL x1] (Jw x0 x1) :=aq
def xM (x0:vr) (x1:vr):T :=
 .bN 346 [ct x0,ct x1] fun y1 =>
 .bn y1 (.ret [ct (ba,(false),ai,()),.bool (false)]) <|
 .rg <|
 .Ih 345 [cV x0.2,cV x1.2] fun y2 =>
 .Ii 196 [.string x0.1,cV y2] fun y3 =>
 .ret [ct y3.1,.bool y3.2.1]
theorem Jx x0 x1:aP bX 333 [ct x0,ct x1] (xM x0 x1) :=aq
def DG (x0:yv) (x1:yv):T :=
 .bN 125 [cV x0] fun y1 =>
 .bn y1 (.ret [cV ((false),ai,())]) <|
 .bN 125 [cV x1] fun y2 =>
 .bn y2 (.ret [cV ((false),ai,())]) <|
 .kg 313 [cV x0,cV x1] fun y3 =>
 .ret [cV y3]
theorem Uq x0 x1:aP bX 345 [cV x0,cV x1] (DG x0 x1) :=aq
def AJ (x0:vr) (x1:vr):T :=
 .bN 73 [ct x0] fun y1 =>
 .br y1 (
  .bN 73 [ct x1] fun y2 =>
  .br y2 (
   .ret [.bool (ByteArray.toList x0.1 == ByteArray.toList x1.1)]) <|
 .rF) <|
 .rF
theorem OZ x0 x1:aP bX 346 [ct x0,ct x1] (AJ x0 x1) :=aq
def Ur:An:=⟨[(4,[.s 5,.s 6,.s 7],[.a 3,.oI,.oI])],[],[]⟩
def DH (x0:ar) (x1:ar):T :=
 .lp [.a 3,.oI,.oI] [.a 3 ((0:Nat)) [],.vI 0,.vI 0] fun y1 =>
 .bd (y1.2.2.1<(↑x0.n:Int)) (
  .bd (y1.2.2.1<(↑x0.n:Int)) (
   .el x0.1 (x0.n) y1.2.2.1 fun y2 =>
   .dy (y2.add (Int.toNat y1.2.2.1*(1:Nat))) fun y3 =>
   .bd (y1.2.2.1<(↑x1.n:Int)) (
    .el x1.1 (x1.n) y1.2.2.1 fun y4 =>
    .dy (y4.add (Int.toNat y1.2.2.1*(1:Nat))) fun y5 =>
    .rZ (1000000000:Int) <|
 .rL [Value.int IntKind.i64 ((i64.wrap (i64.wrap (y1.2.1+y3)+y5)).tmod (1000000000:Int))] 1 1 <|
 .rO [Value.int IntKind.i64 ((i64.wrap (i64.wrap (y1.2.1+y3)+y5)).tmod (1000000000:Int))] (y1.1.1+(1:Nat)) 8 <|
 .rZ (1000000000:Int) <|
 .nx 0 [.a 3 (y1.1.1+(1:Nat)) (y1.1.2++[Value.int IntKind.i64 ((i64.wrap (i64.wrap (y1.2.1+y3)+y5)).tmod (1000000000:Int))]),.vI (i64.wrap ((i64.wrap (i64.wrap (y1.2.1+y3)+y5)).tdiv (1000000000:Int))),.vI (i64.wrap (y1.2.2.1+(1:Int)))]) <|
 .rZ (1000000000:Int) <|
 .rL [Value.int IntKind.i64 ((i64.wrap (y1.2.1+y3)).tmod (1000000000:Int))] 1 1 <|
 .rO [Value.int IntKind.i64 ((i64.wrap (y1.2.1+y3)).tmod (1000000000:Int))] (y1.1.1+(1:Nat)) 8 <|
 .rZ (1000000000:Int) <|
 .nx 0 [.a 3 (y1.1.1+(1:Nat)) (y1.1.2++[Value.int IntKind.i64 ((i64.wrap (y1.2.1+y3)).tmod (1000000000:Int))]),.vI (i64.wrap ((i64.wrap (y1.2.1+y3)).tdiv (1000000000:Int))),.vI (i64.wrap (y1.2.2.1+(1:Int)))]) <|
 .bd (y1.2.2.1<(↑x1.n:Int)) (
   .el x1.1 (x1.n) y1.2.2.1 fun y2 =>
   .dy (y2.add (Int.toNat y1.2.2.1*(1:Nat))) fun y3 =>
   .rZ (1000000000:Int) <|
 .rL [Value.int IntKind.i64 ((i64.wrap (y1.2.1+y3)).tmod (1000000000:Int))] 1 1 <|
 .rO [Value.int IntKind.i64 ((i64.wrap (y1.2.1+y3)).tmod (1000000000:Int))] (y1.1.1+(1:Nat)) 8 <|
 .rZ (1000000000:Int) <|
 .nx 0 [.a 3 (y1.1.1+(1:Nat)) (y1.1.2++[Value.int IntKind.i64 ((i64.wrap (y1.2.1+y3)).tmod (1000000000:Int))]),.vI (i64.wrap ((i64.wrap (y1.2.1+y3)).tdiv (1000000000:Int))),.vI (i64.wrap (y1.2.2.1+(1:Int)))]) <|
 .rZ (1000000000:Int) <|
 .rL [Value.int IntKind.i64 (Int.tmod y1.2.1 (1000000000:Int))] 1 1 <|
 .rO [Value.int IntKind.i64 (Int.tmod y1.2.1 (1000000000:Int))] (y1.1.1+(1:Nat)) 8 <|
 .rZ (1000000000:Int) <|
 .nx 0 [.a 3 (y1.1.1+(1:Nat)) (y1.1.2++[Value.int IntKind.i64 (Int.tmod y1.2.1 (1000000000:Int))]),.vI (i64.wrap (Int.tdiv y1.2.1 (1000000000:Int))),.vI (i64.wrap (y1.2.2.1+(1:Int)))]) <|
 .bd (y1.2.2.1<(↑x1.n:Int)) (
  .bd (y1.2.2.1<(↑x0.n:Int)) (
   .el x0.1 (x0.n) y1.2.2.1 fun y2 =>
   .dy (y2.add (Int.toNat y1.2.2.1*(1:Nat))) fun y3 =>
   .bd (y1.2.2.1<(↑x1.n:Int)) (
    .el x1.1 (x1.n) y1.2.2.1 fun y4 =>
    .dy (y4.add (Int.toNat y1.2.2.1*(1:Nat))) fun y5 =>
    .rZ (1000000000:Int) <|
 .rL [Value.int IntKind.i64 ((i64.wrap (i64.wrap (y1.2.1+y3)+y5)).tmod (1000000000:Int))] 1 1 <|
 .rO [Value.int IntKind.i64 ((i64.wrap (i64.wrap (y1.2.1+y3)+y5)).tmod (1000000000:Int))] (y1.1.1+(1:Nat)) 8 <|
 .rZ (1000000000:Int) <|
 .nx 0 [.a 3 (y1.1.1+(1:Nat)) (y1.1.2++[Value.int IntKind.i64 ((i64.wrap (i64.wrap (y1.2.1+y3)+y5)).tmod (1000000000:Int))]),.vI (i64.wrap ((i64.wrap (i64.wrap (y1.2.1+y3)+y5)).tdiv (1000000000:Int))),.vI (i64.wrap (y1.2.2.1+(1:Int)))]) <|
 .rZ (1000000000:Int) <|
 .rL [Value.int IntKind.i64 ((i64.wrap (y1.2.1+y3)).tmod (1000000000:Int))] 1 1 <|
 .rO [Value.int IntKind.i64 ((i64.wrap (y1.2.1+y3)).tmod (1000000000:Int))] (y1.1.1+(1:Nat)) 8 <|
 .rZ (1000000000:Int) <|
 .nx 0 [.a 3 (y1.1.1+(1:Nat)) (y1.1.2++[Value.int IntKind.i64 ((i64.wrap (y1.2.1+y3)).tmod (1000000000:Int))]),.vI (i64.wrap ((i64.wrap (y1.2.1+y3)).tdiv (1000000000:Int))),.vI (i64.wrap (y1.2.2.1+(1:Int)))]) <|
 .bd (y1.2.2.1<(↑x1.n:Int)) (
   .el x1.1 (x1.n) y1.2.2.1 fun y2 =>
   .dy (y2.add (Int.toNat y1.2.2.1*(1:Nat))) fun y3 =>
   .rZ (1000000000:Int) <|
 .rL [Value.int IntKind.i64 ((i64.wrap (y1.2.1+y3)).tmod (1000000000:Int))] 1 1 <|
 .rO [Value.int IntKind.i64 ((i64.wrap (y1.2.1+y3)).tmod (1000000000:Int))] (y1.1.1+(1:Nat)) 8 <|
 .rZ (1000000000:Int) <|
 .nx 0 [.a 3 (y1.1.1+(1:Nat)) (y1.1.2++[Value.int IntKind.i64 ((i64.wrap (y1.2.1+y3)).tmod (1000000000:Int))]),.vI (i64.wrap ((i64.wrap (y1.2.1+y3)).tdiv (1000000000:Int))),.vI (i64.wrap (y1.2.2.1+(1:Int)))]) <|
 .rZ (1000000000:Int) <|
 .rL [Value.int IntKind.i64 (Int.tmod y1.2.1 (1000000000:Int))] 1 1 <|
 .rO [Value.int IntKind.i64 (Int.tmod y1.2.1 (1000000000:Int))] (y1.1.1+(1:Nat)) 8 <|
 .rZ (1000000000:Int) <|
 .nx 0 [.a 3 (y1.1.1+(1:Nat)) (y1.1.2++[Value.int IntKind.i64 (Int.tmod y1.2.1 (1000000000:Int))]),.vI (i64.wrap (Int.tdiv y1.2.1 (1000000000:Int))),.vI (i64.wrap (y1.2.2.1+(1:Int)))]) <|
 .bd (y1.2.1 > (0:Int)) (
  .bd (y1.2.2.1<(↑x0.n:Int)) (
   .el x0.1 (x0.n) y1.2.2.1 fun y2 =>
   .dy (y2.add (Int.toNat y1.2.2.1*(1:Nat))) fun y3 =>
   .bd (y1.2.2.1<(↑x1.n:Int)) (
    .el x1.1 (x1.n) y1.2.2.1 fun y4 =>
    .dy (y4.add (Int.toNat y1.2.2.1*(1:Nat))) fun y5 =>
    .rZ (1000000000:Int) <|
 .rL [Value.int IntKind.i64 ((i64.wrap (i64.wrap (y1.2.1+y3)+y5)).tmod (1000000000:Int))] 1 1 <|
 .rO [Value.int IntKind.i64 ((i64.wrap (i64.wrap (y1.2.1+y3)+y5)).tmod (1000000000:Int))] (y1.1.1+(1:Nat)) 8 <|
 .rZ (1000000000:Int) <|
 .nx 0 [.a 3 (y1.1.1+(1:Nat)) (y1.1.2++[Value.int IntKind.i64 ((i64.wrap (i64.wrap (y1.2.1+y3)+y5)).tmod (1000000000:Int))]),.vI (i64.wrap ((i64.wrap (i64.wrap (y1.2.1+y3)+y5)).tdiv (1000000000:Int))),.vI (i64.wrap (y1.2.2.1+(1:Int)))]) <|
 .rZ (1000000000:Int) <|
 .rL [Value.int IntKind.i64 ((i64.wrap (y1.2.1+y3)).tmod (1000000000:Int))] 1 1 <|
 .rO [Value.int IntKind.i64 ((i64.wrap (y1.2.1+y3)).tmod (1000000000:Int))] (y1.1.1+(1:Nat)) 8 <|
 .rZ (1000000000:Int) <|
 .nx 0 [.a 3 (y1.1.1+(1:Nat)) (y1.1.2++[Value.int IntKind.i64 ((i64.wrap (y1.2.1+y3)).tmod (1000000000:Int))]),.vI (i64.wrap ((i64.wrap (y1.2.1+y3)).tdiv (1000000000:Int))),.vI (i64.wrap (y1.2.2.1+(1:Int)))]) <|
 .bd (y1.2.2.1<(↑x1.n:Int)) (
   .el x1.1 (x1.n) y1.2.2.1 fun y2 =>
   .dy (y2.add (Int.toNat y1.2.2.1*(1:Nat))) fun y3 =>
   .rZ (1000000000:Int) <|
 .rL [Value.int IntKind.i64 ((i64.wrap (y1.2.1+y3)).tmod (1000000000:Int))] 1 1 <|
 .rO [Value.int IntKind.i64 ((i64.wrap (y1.2.1+y3)).tmod (1000000000:Int))] (y1.1.1+(1:Nat)) 8 <|
 .rZ (1000000000:Int) <|
 .nx 0 [.a 3 (y1.1.1+(1:Nat)) (y1.1.2++[Value.int IntKind.i64 ((i64.wrap (y1.2.1+y3)).tmod (1000000000:Int))]),.vI (i64.wrap ((i64.wrap (y1.2.1+y3)).tdiv (1000000000:Int))),.vI (i64.wrap (y1.2.2.1+(1:Int)))]) <|
 .rZ (1000000000:Int) <|
 .rL [Value.int IntKind.i64 (Int.tmod y1.2.1 (1000000000:Int))] 1 1 <|
 .rO [Value.int IntKind.i64 (Int.tmod y1.2.1 (1000000000:Int))] (y1.1.1+(1:Nat)) 8 <|
 .rZ (1000000000:Int) <|
 .nx 0 [.a 3 (y1.1.1+(1:Nat)) (y1.1.2++[Value.int IntKind.i64 (Int.tmod y1.2.1 (1000000000:Int))]),.vI (i64.wrap (Int.tdiv y1.2.1 (1000000000:Int))),.vI (i64.wrap (y1.2.2.1+(1:Int)))]) <|
 .fz y1.1.1 y1.1.2 3 fun b2 c2 =>
 .ret [.slice (qA b2) y1.1.1 (c2)]
theorem Us x0 x1:aP Ur 348 [qL x0,qL x1] (DH x0 x1) :=aq
def O8:An:=⟨[(5,[.s 4,.s 5],[.a 3,.oI]),(9,[.s 6,.s 42],[.oI,.oI])],[],[]⟩
def AK (x0:ByteArray):T :=
 .bN 366 [.string x0] fun y1 =>
 .bn y1 (.ret [.slice none 0 0,.bool (false)]) <|
 .bd ((↑x0.size:Int) > (450:Int)) (
  .ret [.slice none 0 0,.bool (false)]) <|
 .rI (0:Int) (↑x0.size:Int) <|
 .br (de x0 (Int.toNat (0:Int)) == (48:Int)) (
  .bd ((↑x0.size:Int) > (1:Int)) (
   .ret [.slice none 0 0,.bool (false)]) <|
 .lp [.a 3,.oI] [.a 3 ((0:Nat)) [],.vI ((↑x0.size:Int))] fun y2 =>
  .bd (y2.2.1 > (0:Int)) (
   .rq (((0:Int)<=if i64.wrap (y2.2.1-(9:Int)) > (0:Int) then i64.wrap (y2.2.1-(9:Int)) else (0:Int))/\(if i64.wrap (y2.2.1-(9:Int)) > (0:Int) then i64.wrap (y2.2.1-(9:Int)) else (0:Int))<=y2.2.1/\y2.2.1<=(↑x0.size:Int)) <|
 .mo (.cv 9 162 (.string (x0.extract (if i64.wrap (y2.2.1-(9:Int)) > (0:Int) then i64.wrap (y2.2.1-(9:Int)) else (0:Int)).toNat (Int.toNat y2.2.1)))) (.v (.o (.l))) fun y3 =>
   .lp [.oI,.oI] [.vI 0,.vI 0] fun y4 =>
   .bd (y4.2.1<(↑y3.n:Int)) (
    .el y3.1 (y3.n) y4.2.1 fun y5 =>
    .ql67 (y5.add (Int.toNat y4.2.1*(1:Nat))) fun y6 =>
    .nx 1 [.vI (i64.wrap (i64.wrap ((10:Int)*y4.1)+i64.wrap (IntKind.u8.wrap (y6-(48:Int))))),.vI (i64.wrap (y4.2.1+(1:Int)))]) <|
 .rL [Value.int IntKind.i64 y4.1] 1 1 <|
 .rO [Value.int IntKind.i64 y4.1] (y2.1.1+(1:Nat)) 8 <|
 .nx 0 [.a 3 (y2.1.1+(1:Nat)) (y2.1.2++[Value.int IntKind.i64 y4.1]),.vI (i64.wrap (y2.2.1-(9:Int)))]) <|
 .fz y2.1.1 y2.1.2 3 fun b3 c3 =>
  .jl 270 [.slice (qA b3) y2.1.1 (c3)] fun y4 =>
  .ret [qL y4,.bool (true)]) <|
 .lp [.a 3,.oI] [.a 3 ((0:Nat)) [],.vI ((↑x0.size:Int))] fun y2 =>
 .bd (y2.2.1 > (0:Int)) (
  .rq (((0:Int)<=if i64.wrap (y2.2.1-(9:Int)) > (0:Int) then i64.wrap (y2.2.1-(9:Int)) else (0:Int))/\(if i64.wrap (y2.2.1-(9:Int)) > (0:Int) then i64.wrap (y2.2.1-(9:Int)) else (0:Int))<=y2.2.1/\y2.2.1<=(↑x0.size:Int)) <|
 .mo (.cv 9 162 (.string (x0.extract (if i64.wrap (y2.2.1-(9:Int)) > (0:Int) then i64.wrap (y2.2.1-(9:Int)) else (0:Int)).toNat (Int.toNat y2.2.1)))) (.v (.o (.l))) fun y3 =>
  .lp [.oI,.oI] [.vI 0,.vI 0] fun y4 =>
  .bd (y4.2.1<(↑y3.n:Int)) (
   .el y3.1 (y3.n) y4.2.1 fun y5 =>
   .ql67 (y5.add (Int.toNat y4.2.1*(1:Nat))) fun y6 =>
   .nx 1 [.vI (i64.wrap (i64.wrap ((10:Int)*y4.1)+i64.wrap (IntKind.u8.wrap (y6-(48:Int))))),.vI (i64.wrap (y4.2.1+(1:Int)))]) <|
 .rL [Value.int IntKind.i64 y4.1] 1 1 <|
 .rO [Value.int IntKind.i64 y4.1] (y2.1.1+(1:Nat)) 8 <|
 .nx 0 [.a 3 (y2.1.1+(1:Nat)) (y2.1.2++[Value.int IntKind.i64 y4.1]),.vI (i64.wrap (y2.2.1-(9:Int)))]) <|
 .fz y2.1.1 y2.1.2 3 fun b3 c3 =>
 .jl 270 [.slice (qA b3) y2.1.1 (c3)] fun y4 =>
 .ret [qL y4,.bool (true)]
theorem O9 x0:aP O8 350 [.string x0] (AK x0) :=aq
def DI (x0:yv) (x1:yv):T :=
 .br (x0.1 == x1.1) (
  .rg <|
 .Rj 372 [qL x0.2.1,qL x1.2.1] fun y1 =>
  .kg 187 [.bool x0.1,qL y1] fun y2 =>
  .ret [cV y2]) <|
 .eR 265 [qL x0.2.1,qL x1.2.1] fun y1 =>
 .bd (y1<(0:Int)) (
  .rg <|
 .Rj 373 [qL x1.2.1,qL x0.2.1] fun y2 =>
  .kg 187 [.bool x1.1,qL y2] fun y3 =>
  .ret [cV y3]) <|
 .rg <|
 .Rj 373 [qL x0.2.1,qL x1.2.1] fun y2 =>
 .kg 187 [.bool x0.1,qL y2] fun y3 =>
 .ret [cV y3]
theorem Ut x0 x1:aP bX 354 [cV x0,cV x1] (DI x0 x1) :=aq
def Jy:An:=⟨[(2,[.s 3],[.oI])],[],[]⟩
def xN (x0:ByteArray):T :=
 .lp [.oI] [.vI 0] fun y1 =>
 .bd (y1.1<(↑x0.size:Int)) (
  .rI y1.1 (↑x0.size:Int) <|
 .bN 164 [.int .u8 (de x0 (Int.toNat y1.1))] fun y2 =>
  .bF y2 <|
 .nx 0 [.vI (i64.wrap (y1.1+(1:Int)))]) <|
 .ret [.bool (!x0.toList == ba.toList)]
theorem Jz x0:aP Jy 366 [.string x0] (xN x0) :=aq
def Uu:An:=⟨[(4,[.s 5,.s 6,.s 7],[.a 3,.oI,.oI])],[],[]⟩
def DJ (x0:ar) (x1:ar):T :=
 .rq ((0:Int)<=(0:Int)/\(0:Int)<=i64.wrap ((if (↑x1.n:Int) > (↑x0.n:Int) then (↑x1.n:Int) else (↑x0.n:Int))+(1:Int))/\(↑(8:Nat):Int)*i64.wrap ((if (↑x1.n:Int) > (↑x0.n:Int) then (↑x1.n:Int) else (↑x0.n:Int))+(1:Int))<=(281474976710656:Int)/\i64.wrap ((if (↑x1.n:Int) > (↑x0.n:Int) then (↑x1.n:Int) else (↑x0.n:Int))+(1:Int))<=(9223372036854775807:Int)) <|
 .lp [.a 3,.oI,.oI] [.a 3 (Int.toNat (0:Int)) [],.vI 0,.vI 0] fun y1 =>
 .bd (y1.2.2.1<if (↑x1.n:Int) > (↑x0.n:Int) then (↑x1.n:Int) else (↑x0.n:Int)) (
  .bd (y1.2.2.1<(↑x0.n:Int)) (
   .el x0.1 (x0.n) y1.2.2.1 fun y2 =>
   .dy (y2.add (Int.toNat y1.2.2.1*(1:Nat))) fun y3 =>
   .bd (y1.2.2.1<(↑x1.n:Int)) (
    .el x1.1 (x1.n) y1.2.2.1 fun y4 =>
    .dy (y4.add (Int.toNat y1.2.2.1*(1:Nat))) fun y5 =>
    .rZ (1000000000:Int) <|
 .rL [Value.int IntKind.i64 ((i64.wrap (i64.wrap (y1.2.1+y3)+y5)).tmod (1000000000:Int))] 1 1 <|
 .rO [Value.int IntKind.i64 ((i64.wrap (i64.wrap (y1.2.1+y3)+y5)).tmod (1000000000:Int))] (y1.1.1+(1:Nat)) 8 <|
 .rZ (1000000000:Int) <|
 .nx 0 [.a 3 (y1.1.1+(1:Nat)) (y1.1.2++[Value.int IntKind.i64 ((i64.wrap (i64.wrap (y1.2.1+y3)+y5)).tmod (1000000000:Int))]),.vI (i64.wrap ((i64.wrap (i64.wrap (y1.2.1+y3)+y5)).tdiv (1000000000:Int))),.vI (i64.wrap (y1.2.2.1+(1:Int)))]) <|
 .rZ (1000000000:Int) <|
 .rL [Value.int IntKind.i64 ((i64.wrap (y1.2.1+y3)).tmod (1000000000:Int))] 1 1 <|
 .rO [Value.int IntKind.i64 ((i64.wrap (y1.2.1+y3)).tmod (1000000000:Int))] (y1.1.1+(1:Nat)) 8 <|
 .rZ (1000000000:Int) <|
 .nx 0 [.a 3 (y1.1.1+(1:Nat)) (y1.1.2++[Value.int IntKind.i64 ((i64.wrap (y1.2.1+y3)).tmod (1000000000:Int))]),.vI (i64.wrap ((i64.wrap (y1.2.1+y3)).tdiv (1000000000:Int))),.vI (i64.wrap (y1.2.2.1+(1:Int)))]) <|
 .bd (y1.2.2.1<(↑x1.n:Int)) (
   .el x1.1 (x1.n) y1.2.2.1 fun y2 =>
   .dy (y2.add (Int.toNat y1.2.2.1*(1:Nat))) fun y3 =>
   .rZ (1000000000:Int) <|
 .rL [Value.int IntKind.i64 ((i64.wrap (y1.2.1+y3)).tmod (1000000000:Int))] 1 1 <|
 .rO [Value.int IntKind.i64 ((i64.wrap (y1.2.1+y3)).tmod (1000000000:Int))] (y1.1.1+(1:Nat)) 8 <|
 .rZ (1000000000:Int) <|
 .nx 0 [.a 3 (y1.1.1+(1:Nat)) (y1.1.2++[Value.int IntKind.i64 ((i64.wrap (y1.2.1+y3)).tmod (1000000000:Int))]),.vI (i64.wrap ((i64.wrap (y1.2.1+y3)).tdiv (1000000000:Int))),.vI (i64.wrap (y1.2.2.1+(1:Int)))]) <|
 .rZ (1000000000:Int) <|
 .rL [Value.int IntKind.i64 (Int.tmod y1.2.1 (1000000000:Int))] 1 1 <|
 .rO [Value.int IntKind.i64 (Int.tmod y1.2.1 (1000000000:Int))] (y1.1.1+(1:Nat)) 8 <|
 .rZ (1000000000:Int) <|
 .nx 0 [.a 3 (y1.1.1+(1:Nat)) (y1.1.2++[Value.int IntKind.i64 (Int.tmod y1.2.1 (1000000000:Int))]),.vI (i64.wrap (Int.tdiv y1.2.1 (1000000000:Int))),.vI (i64.wrap (y1.2.2.1+(1:Int)))]) <|
 .rL [Value.int IntKind.i64 y1.2.1] 1 1 <|
 .rO [Value.int IntKind.i64 y1.2.1] (y1.1.1+(1:Nat)) 8 <|
 .fz (y1.1.1+(1:Nat)) (y1.1.2++[Value.int IntKind.i64 y1.2.1]) 3 fun b2 c2 =>
 .jl 270 [.slice (qA b2) (y1.1.1+(1:Nat)) (c2)] fun y3 =>
 .ret [qL y3]
theorem Uv x0 x1:aP Uu 372 [qL x0,qL x1] (DJ x0 x1) :=aq
def Uw:An:=⟨[(4,[.s 5,.s 6,.s 14],[.a 3,.oI,.oI])],[],[]⟩
def DK (x0:ar) (x1:ar):T :=
 .rq ((0:Int)<=(↑x0.n:Int)/\(↑x0.n:Int)<=(↑x0.n:Int)/\(↑(8:Nat):Int)*(↑x0.n:Int)<=(281474976710656:Int)/\(↑x0.n:Int)<=(9223372036854775807:Int)) <|
 .lp [.a 3,.oI,.oI] [.a 3 ((↑x0.n:Int).toNat) ((madeCells { toList:=[Value.int IntKind.i64 (0:Int)]:Array Value } ((↑x0.n:Int).toNat*(1:Nat))).toList),.vI 0,.vI 0] fun y1 =>
 .bd (y1.2.2.1<(↑x0.n:Int)) (
  .el x0.1 (x0.n) y1.2.2.1 fun y2 =>
  .dy (y2.add (Int.toNat y1.2.2.1*(1:Nat))) fun y3 =>
  .bd (y1.2.2.1<(↑x1.n:Int)) (
   .el x1.1 (x1.n) y1.2.2.1 fun y4 =>
   .dy (y4.add (Int.toNat y1.2.2.1*(1:Nat))) fun y5 =>
   .bd (i64.wrap (i64.wrap (y3-y1.2.1)-y5)<(0:Int)) (
    .rI y1.2.2.1 (↑y1.1.1:Int) <|
 .rq (Int.toNat y1.2.2.1*(1:Nat)+[Value.int IntKind.i64 (i64.wrap (i64.wrap (i64.wrap (y3-y1.2.1)-y5)+(1000000000:Int)))].length<=y1.1.2.length) <|
 .nx 0 [.a 3 y1.1.1 (aX y1.1.2 (Int.toNat y1.2.2.1*(1:Nat)) [Value.int IntKind.i64 (i64.wrap (i64.wrap (i64.wrap (y3-y1.2.1)-y5)+(1000000000:Int)))]),.vI 1,.vI (i64.wrap (y1.2.2.1+(1:Int)))]) <|
 .rI y1.2.2.1 (↑y1.1.1:Int) <|
 .rq (Int.toNat y1.2.2.1*(1:Nat)+[Value.int IntKind.i64 (i64.wrap (i64.wrap (y3-y1.2.1)-y5))].length<=y1.1.2.length) <|
 .nx 0 [.a 3 y1.1.1 (aX y1.1.2 (Int.toNat y1.2.2.1*(1:Nat)) [Value.int IntKind.i64 (i64.wrap (i64.wrap (y3-y1.2.1)-y5))]),.vI 0,.vI (i64.wrap (y1.2.2.1+(1:Int)))]) <|
 .bd (i64.wrap (y3-y1.2.1)<(0:Int)) (
   .rI y1.2.2.1 (↑y1.1.1:Int) <|
 .rq (Int.toNat y1.2.2.1*(1:Nat)+[Value.int IntKind.i64 (i64.wrap (i64.wrap (y3-y1.2.1)+(1000000000:Int)))].length<=y1.1.2.length) <|
 .nx 0 [.a 3 y1.1.1 (aX y1.1.2 (Int.toNat y1.2.2.1*(1:Nat)) [Value.int IntKind.i64 (i64.wrap (i64.wrap (y3-y1.2.1)+(1000000000:Int)))]),.vI 1,.vI (i64.wrap (y1.2.2.1+(1:Int)))]) <|
 .rI y1.2.2.1 (↑y1.1.1:Int) <|
 .rq (Int.toNat y1.2.2.1*(1:Nat)+[Value.int IntKind.i64 (i64.wrap (y3-y1.2.1))].length<=y1.1.2.length) <|
 .nx 0 [.a 3 y1.1.1 (aX y1.1.2 (Int.toNat y1.2.2.1*(1:Nat)) [Value.int IntKind.i64 (i64.wrap (y3-y1.2.1))]),.vI 0,.vI (i64.wrap (y1.2.2.1+(1:Int)))]) <|
 .fz y1.1.1 y1.1.2 3 fun b2 c2 =>
 .jl 270 [.slice (qA b2) y1.1.1 (c2)] fun y3 =>
 .ret [qL y3]
theorem Ux x0 x1:aP Uw 373 [qL x0,qL x1] (DK x0 x1) :=aq
def pE (x0:ByteArray × ByteArray × PUnit) (x1:nn):T :=
 .bN 98 [.string x0.1] fun y1 =>
 .bn y1 (.ret [aU (ai,ai,ba,ai,()),.int .i64 1]) <|
 .bN 52 [.string x0.2.1] fun y2 =>
 .bn y2 (.ret [aU (ai,ai,ba,ai,()),.int .i64 2]) <|
 .eR 413 [dJ (x1.1,()),.string x0.1] fun y3 =>
 .bd (y3>=(0:Int)) (
  .ret [aU (ai,ai,ba,ai,()),.int .i64 4]) <|
 .S1 414 [dJ (x1.1,()),.string x0.1,.string x0.2.1] fun y4 =>
 .bn y4.2.1 (.ret [aU (ai,ai,ba,ai,()),.int .i64 9]) <|
 .ret [aU (y4.1.1,x1.2.1,x1.2.2.1,x1.2.2.2.1,()),.int .i64 0]
theorem AL x0 x1:aP bX 412 [E2 x0,aU x1] (pE x0 x1) :=aq
def DL (x0:Ho) (x1:ByteArray):T :=
 .es [.string x1] 9 fun b1 =>
 .eR 415 [qL x0.1,(Value.func (Fn.func (416:Nat)) { toList:=[]:Array Value } { toList:=[Value.pointer (qA b1)]:Array Value })] fun y2 =>
 .ret [.int .i64 y2]
theorem Uy x0 x1:aP bX 413 [dJ x0,.string x1] (DL x0 x1) :=aq
def xO (x0:Ho) (x1:ByteArray) (x2:ByteArray):T :=
 .bN 49 [dJ x0] fun y1 =>
 .bn y1 (.ret [dJ (ai,()),.bool (false)]) <|
 .eR 413 [dJ x0,.string x1] fun y2 =>
 .bd (y2>=(0:Int)) (
  .ret [dJ (ai,()),.bool (false)]) <|
 .es [.string x1] 9 fun b3 =>
 .es [.string x2] 9 fun b4 =>
 .S1 417 [dJ x0,(Value.func (Fn.func (418:Nat)) { toList:=[]:Array Value } { toList:=[Value.pointer (qA b3),Value.pointer (qA b4)]:Array Value })] fun y5 =>
 .ret [dJ y5.1,.bool y5.2.1]
theorem JA x0 x1 x2:aP bX 414 [dJ x0,.string x1,.string x2] (xO x0 x1 x2) :=aq
def uf:An:=⟨[(2,[.s 8],[.oI])],[],[]⟩
def my (x0:ar) (x1:Nat × Addr):T :=
 .lp [.oI] [.vI 0] fun y1 =>
 .bd (y1.1<(↑x0.n:Int)) (
  .el x0.1 (x0.n) y1.1 fun y2 =>
  .vO (y2.add (Int.toNat y1.1*(4:Nat))) fun y3 =>
  .call false x1.1 [WO y3,.pointer (some x1.2)] (.v (.o (.b))) fun y4 =>
  .br y4 (
   .ret [.int .i64 y1.1]) <|
 .nx 0 [.vI (i64.wrap (y1.1+(1:Int)))]) <|
 .rM
theorem ug x0 x1:aP uf 415 [qL x0,(Value.func (Fn.func x1.1) { toList:=[]:Array Value } { toList:=[Value.pointer (some x1.2)]:Array Value })] (my x0 x1) :=aq
def xP (x0:qy9) (x1:Addr):T :=
 .ld false x1 (.o (.s)) fun y1 =>
 .ret [.bool (ByteArray.toList x0.1 == y1.toList)]
theorem JB x0 x1:aP bX 416 [WO x0,.pointer (some x1)] (xP x0 x1) :=aq
def AM (x0:Ho) (x1:{ y // one [y]=true }):T :=
 .qc7 104 [dJ x0] fun y1 =>
 .es [.int .i32 ((0:Int)),.int .u32 ((0:Int)),qL y1.1] 411 fun b2 =>
 .bN 420 [.pointer (qA b2),x1.1] fun y3 =>
 .bn y3 (.ret [dJ (ai,()),.bool (false)]) <|
 .ql68 ({ block:=b2,off:=(0:Nat):Addr }.add (2:Nat)) fun y4 =>
 .ret [dJ y4,.bool (true)]
theorem O' x0 x1:aP bX 417 [dJ x0,x1.1] (AM x0 x1) :=aq
def Co:An:=⟨[(2,[.s 5],[.oI])],[],[]⟩
def rb (x0:Addr) (x1:Addr) (x2:Addr):T :=
 .lp [.oI] [.vI 0] fun y1 =>
 .rg <|
 .Ci (x0.add (0:Nat)) fun y2 =>
 .bd (y1.1<(↑y2.n:Int)) (
  .Ci (x0.add (0:Nat)) fun y3 =>
  .el y3.1 (y3.n) y1.1 fun y4 =>
  .mQ ((y4.add (Int.toNat y1.1*(4:Nat))).add (0:Nat)) fun y5 =>
  .ld true x1 (.o (.s)) fun y6 =>
  .br (Op.bytesLess y5.toList y6.toList) (
   .nx 0 [.vI (i64.wrap (y1.1+(1:Int)))]) <|
 .rf <|
 .Ci (x0.add (0:Nat)) fun y7 =>
  .ld true x1 (.o (.s)) fun y8 =>
  .ld true x2 (.o (.s)) fun y9 =>
  .es [.string y8,.string y9,.bool (false),.slice none 0 0] 93 fun Me =>
  .jl 419 [qL y7,.int .i64 y1.1,.slice (qA Me) ((1:Nat)) ((1:Nat))] fun gz =>
  .st (x0.add (0:Nat)) [qL gz] <|
 .ld false x0 (.g [.l]) fun fe =>
  .bN 49 [dJ fe] fun MU =>
  .ret [.bool MU]) <|
 .rf <|
 .Ci (x0.add (0:Nat)) fun y3 =>
 .ld true x1 (.o (.s)) fun y4 =>
 .ld true x2 (.o (.s)) fun y5 =>
 .es [.string y4,.string y5,.bool (false),.slice none 0 0] 93 fun b6 =>
 .jl 419 [qL y3,.int .i64 y1.1,.slice (qA b6) ((1:Nat)) ((1:Nat))] fun y7 =>
 .st (x0.add (0:Nat)) [qL y7] <|
 .ld false x0 (.g [.l]) fun y8 =>
 .bN 49 [dJ y8] fun y9 =>
 .ret [.bool y9]
theorem Cp x0 x1 x2:aP Co 418 [.pointer (some x0),.pointer (some x1),.pointer (some x2)] (rb x0 x1 x2) :=aq
def re (x0:ByteArray × ByteArray × Bool × ar × Bool × PUnit) (x1:nn):T :=
 .bN 98 [.string x0.1] fun y1 =>
 .bn y1 (.ret [aU (ai,ai,ba,ai,()),.int .i64 1]) <|
 .bN 229 [ct (x0.2.1,x0.2.2.1,x0.2.2.2.1,())] fun y2 =>
 .bn y2 (.ret [aU (ai,ai,ba,ai,()),.int .i64 1]) <|
 .fz 1 [.string x0.1] 9 fun b3 c3 =>
 .eR 445 [aU x1,.string x0.2.1,.slice (qA b3) 1 c3] fun y4 =>
 .br (y4 != (0:Int)) (
  .ret [aU (ai,ai,ba,ai,()),.int .i64 y4]) <|
 .br x0.2.2.2.2.1 (
  .qc47 57 [ct (x0.2.1,x0.2.2.1,x0.2.2.2.1,())] fun y5 =>
  .fz 1 [.string x0.1,.string y5.1,.bool y5.2.1,qL y5.2.2.1] 261 fun b6 c6 =>
  .nq 446 [aU x1,.slice (qA b6) 1 c6] fun y7 =>
  .ret [aU y7.1,.int .i64 y7.2.1]) <|
 .fz 1 [.string x0.1,.string x0.2.1,.bool x0.2.2.1,qL x0.2.2.2.1] 261 fun b5 c5 =>
 .nq 446 [aU x1,.slice (qA b5) 1 c5] fun y6 =>
 .ret [aU y6.1,.int .i64 y6.2.1]
theorem Cq x0 x1:aP bX 444 [E3 x0,aU x1] (re x0 x1) :=aq
def Rn (x0:nn) (x1:ByteArray) (x2:ar):T :=
 .eR 447 [aU x0,qL x2] fun y1 =>
 .br (y1 != (0:Int)) (
  .ret [.int .i64 y1]) <|
 .eR 448 [aU x0,.string x1,qL x2] fun y2 =>
 .ret [.int .i64 y2]
theorem fI_fits x0 x1 x2:aP bX 445 [aU x0,.string x1,qL x2] (Rn x0 x1 x2) :=aq
def aI_post:An:=⟨[(2,[.s 12,.c 2 0,.c 2 1,.c 2 2,.c 2 3,.c 4 0,.c 4 1,.c 4 2,.c 4 3],[.oI,.oL,.oL,.oS,.oL,.oL,.oL,.oS,.oL])],[],[]⟩
def Ro (x0:nn) (x1:ar):T :=
 .lp [.oI,.oL,.oL,.oS,.oL,.oL,.oL,.oS,.oL] [.vI 0,.vL x0.1,.vL x0.2.1,.vS x0.2.2.1,.vL x0.2.2.2.1,.v (.slice none 0 0),.v (.slice none 0 0),.vS ba,.v (.slice none 0 0)] fun y1 =>
 .bd (y1.1<(↑x1.n:Int)) (
  .el x1.1 (x1.n) y1.1 fun y2 =>
  .vO (y2.add (Int.toNat y1.1*(4:Nat))) fun y3 =>
  .S1 449 [dJ (y1.2.1,()),.string y3.1,ct y3.2] fun y4 =>
  .bn y4.2.1 (.ret [aU (ai,ai,ba,ai,()),.int .i64 8]) <|
 .nx 0 [.vI (i64.wrap (y1.1+(1:Int))),.vL y4.1.1,.vL y1.2.2.1,.vS y1.2.2.2.1,.vL y1.2.2.2.2.1,.vL y1.2.2.2.2.2.1,.vL y1.2.2.2.2.2.2.1,.vS y1.2.2.2.2.2.2.2.1,.vL y1.2.2.2.2.2.2.2.2.1]) <|
 .ret [aU (y1.2.1,y1.2.2.1,y1.2.2.2.1,y1.2.2.2.2.1,()),.int .i64 0]
theorem fI_post x0 x1:aP aI_post 446 [aU x0,qL x1] (Ro x0 x1) :=aq
def FQ:An:=⟨[(2,[.s 9],[.oI])],[],[]⟩
def uh (x0:nn) (x1:ar):T :=
 .lp [.oI] [.vI 0] fun y1 =>
 .bd (y1.1<(↑x1.n:Int)) (
  .el x1.1 (x1.n) y1.1 fun y2 =>
  .iy (y2.add (Int.toNat y1.1*(1:Nat))) fun y3 =>
  .eR 413 [dJ (x0.1,()),.string y3] fun y4 =>
  .bd (y4<(0:Int)) (
   .ret [.int .i64 3]) <|
 .nx 0 [.vI (i64.wrap (y1.1+(1:Int)))]) <|
 .ret [.int .i64 0]
theorem FR x0 x1:aP FQ 447 [aU x0,qL x1] (uh x0 x1) :=aq
def YE:An:=⟨[(2,[.s 13],[.oI])],[],[]⟩
def JC (x0:nn) (x1:ByteArray) (x2:ar):T :=
 .lp [.oI] [.vI 0] fun y1 =>
 .bd (y1.1<(↑x2.n:Int)) (
  .el x2.1 (x2.n) y1.1 fun y2 =>
  .iy (y2.add (Int.toNat y1.1*(1:Nat))) fun y3 =>
  .Ii 450 [dJ (x0.1,()),.string y3] fun y4 =>
  .br (!ByteArray.toList y4.1.1 == x1.toList) (
   .ret [.int .i64 5]) <|
 .nx 0 [.vI (i64.wrap (y1.1+(1:Int)))]) <|
 .ret [.int .i64 0]
theorem YF x0 x1 x2:aP YE 448 [aU x0,.string x1,qL x2] (JC x0 x1 x2) :=aq
def xQ (x0:Ho) (x1:ByteArray) (x2:vr):T :=
 .eR 413 [dJ x0,.string x1] fun y1 =>
 .bN 49 [dJ x0] fun y2 =>
 .bn y2 (.ret [dJ (ai,()),.bool (false)]) <|
 .bd (y1<(0:Int)) (
  .ret [dJ (ai,()),.bool (false)]) <|
 .es [.int .i64 y1] 3 fun b3 =>
 .es [.string x2.1,.bool x2.2.1,qL x2.2.2.1] 89 fun b4 =>
 .S1 417 [dJ x0,(Value.func (Fn.func (451:Nat)) { toList:=[]:Array Value } { toList:=[Value.pointer (qA b3),Value.pointer (qA b4)]:Array Value })] fun y5 =>
 .ret [dJ y5.1,.bool y5.2.1]
theorem JD x0 x1 x2:aP bX 449 [dJ x0,.string x1,ct x2] (xQ x0 x1 x2) :=aq
def ui (x0:Ho) (x1:ByteArray):T :=
 .eR 413 [dJ x0,.string x1] fun y1 =>
 .bd (y1<(0:Int)) (
  .ret [ct (ba,(false),ai,()),.bool (false)]) <|
 .el x0.1.1 (x0.1.n) y1 fun y2 =>
 .ql52 ((y2.add (y1.toNat*(4:Nat))).add (1:Nat)) fun y3 =>
 .qc47 169 [ct y3] fun y4 =>
 .ret [ct y4,.bool (true)]
theorem FT x0 x1:aP bX 450 [dJ x0,.string x1] (ui x0 x1) :=aq
def rh (x0:Addr) (x1:Addr) (x2:Addr):T :=
 .rf <|
 .Ci (x0.add (0:Nat)) fun y1 =>
 .ld true x1 (.o (.i .i64)) fun y2 =>
 .el y1.1 (y1.n) y2 fun y3 =>
 .ql66 ((y3.add (y2.toNat*(4:Nat))).add (1:Nat)) fun y4 =>
 .ld true x2 (.g [.s,.b,.l]) fun y5 =>
 .Ii 452 [ct y4,ct y5] fun y6 =>
 .rg <|
 .Ci (x0.add (0:Nat)) fun y7 =>
 .ld true x1 (.o (.i .i64)) fun y8 =>
 .el y7.1 (y7.n) y8 fun y9 =>
 .st ((y9.add (y8.toNat*(4:Nat))).add (1:Nat)) [.string y6.1.1,.bool y6.1.2.1,qL y6.1.2.2.1] <|
 .ret [.bool y6.2.1]
theorem Cr x0 x1 x2:aP bX 451 [.pointer (some x0),.pointer (some x1),.pointer (some x2)] (rh x0 x1 x2) :=aq
def xR (x0:vr) (x1:vr):T :=
 .bN 453 [ct x0,ct x1] fun y1 =>
 .bn y1 (.ret [ct (ba,(false),ai,()),.bool (false)]) <|
 .rg <|
 .Ih 354 [cV x0.2,cV x1.2] fun y2 =>
 .Ii 454 [.string x0.1,cV y2] fun y3 =>
 .ret [ct y3.1,.bool y3.2.1]
theorem JE x0 x1:aP bX 452 [ct x0,ct x1] (xR x0 x1) :=aq
def JF (x0:vr) (x1:vr):T :=
 .bN 99 [ct x0] fun y1 =>
 .br y1 (
  .bN 99 [ct x1] fun y2 =>
  .br y2 (
   .ret [.bool (ByteArray.toList x0.1 == ByteArray.toList x1.1)]) <|
 .rF) <|
 .rF
theorem YG x0 x1:aP bX 453 [ct x0,ct x1] (JF x0 x1) :=aq
def AN (x0:ByteArray) (x1:yv):T :=
 .bN 99 [ct (x0,x1.1,x1.2.1,())] fun y1 =>
 .br y1 (
  .ret [ct (x0,x1.1,x1.2.1,()),.bool (true)]) <|
 .ret [ct (ba,(false),ai,()),.bool (false)]
theorem Pb x0 x1:aP bX 454 [.string x0,cV x1] (AN x0 x1) :=aq
def pF (x0:MS) (x1:nn):T :=
 .bN 102 [fV x0] fun y1 =>
 .bn y1 (.ret [aU (ai,ai,ba,ai,()),.int .i64 1]) <|
 .qc64 544 [iK x1.2.2,fV x0] fun y2 =>
 .bn y2.2.1 (.ret [aU (ai,ai,ba,ai,()),.int .i64 9]) <|
 .ret [aU (x1.1,x1.2.1,y2.1.1,y2.1.2.1,()),.int .i64 0]
theorem AO x0 x1:aP bX 543 [fV x0,aU x1] (pF x0 x1) :=aq
def Pc:An:=⟨[(5,[.s 22,.c 4 0,.c 4 1,.c 6 0,.c 6 1],[.oI,.oS,.oL,.oS,.oL])],[],[]⟩
def AP (x0:SS) (x1:MS):T :=
 .bN 51 [iK x0] fun y1 =>
 .bn y1 (.ret [iK (ba,ai,()),.bool (false)]) <|
 .bN 102 [fV x1] fun y2 =>
 .bn y2 (.ret [iK (ba,ai,()),.bool (false)]) <|
 .qc9 106 [iK x0] fun y3 =>
 .lp [.oI,.oS,.oL,.oS,.oL] [.vI 0,.vS ba,.v (.slice none 0 0),.vS y3.1,.vL y3.2.1] fun y4 =>
 .bd (y4.1<(↑y3.2.1.n:Int)) (
  .rg <|
 .el y4.2.2.2.2.1.1 (y4.2.2.2.2.1.n) y4.1 fun y5 =>
  .mQ ((y5.add (Int.toNat y4.1*(5:Nat))).add (0:Nat)) fun y6 =>
  .br (y6.toList == ByteArray.toList x1.1) (
   .el y4.2.2.2.2.1.1 (y4.2.2.2.2.1.n) y4.1 fun y7 =>
   .mQ ((y7.add (Int.toNat y4.1*(5:Nat))).add (1:Nat)) fun y8 =>
   .br (y8.toList == ByteArray.toList x1.2.1) (
    .rg <|
 .S0 171 [fV x1] fun y9 =>
    .el y4.2.2.2.2.1.1 (y4.2.2.2.2.1.n) y4.1 fun dM =>
    .st (dM.add (Int.toNat y4.1*(5:Nat))) [.string y9.1,.string y9.2.1,.bool y9.2.2.1,qL y9.2.2.2.1,.int .i64 y9.2.2.2.2.1] <|
 .ret [iK y4.2.2.2,.bool (true)]) <|
 .nx 0 [.vI (i64.wrap (y4.1+(1:Int))),.vS y4.2.1,.vL y4.2.2.1,.vS y4.2.2.2.1,.vL y4.2.2.2.2.1]) <|
 .nx 0 [.vI (i64.wrap (y4.1+(1:Int))),.vS y4.2.1,.vL y4.2.2.1,.vS y4.2.2.2.1,.vL y4.2.2.2.2.1]) <|
 .rg <|
 .S0 171 [fV x1] fun y5 =>
 .rL [Value.string y5.1,Value.string y5.2.1,Value.bool y5.2.2.1,Value.slice y5.2.2.2.1.1 y5.2.2.2.1.n y5.2.2.2.1.c,Value.int IntKind.i64 y5.2.2.2.2.1] 1 5 <|
 .rq (one [Value.string y5.1,Value.string y5.2.1,Value.bool y5.2.2.1,Value.slice y5.2.2.2.1.1 y5.2.2.2.1.n y5.2.2.2.1.c,Value.int IntKind.i64 y5.2.2.2.2.1]=true) <|
 .ap ({ a:=y4.2.2.2.2.1.1,n:=y4.2.2.2.2.1.n,c:=y4.2.2.2.2.1.c:ar }) 5 72 [.string y5.1,.string y5.2.1,.bool y5.2.2.1,qL y5.2.2.2.1,.int .i64 y5.2.2.2.2.1] ((1:Nat)) 86 fun y6 =>
 .bN 51 [iK (y4.2.2.2.1,y6,())] fun y7 =>
 .bn y7 (.ret [iK (ba,ai,()),.bool (false)]) <|
 .ret [iK (y4.2.2.2.1,y6,()),.bool (true)]
theorem Pd x0 x1:aP Pc 544 [iK x0,fV x1] (AP x0 x1) :=aq
def uj (x0:nn) (x1:ByteArray × ByteArray × PUnit):T :=
 .bN 21 [aU x0] fun y1 =>
 .bn y1 (.ret [aU (ai,ai,ba,ai,()),.int .i64 1]) <|
 .rg <|
 .SY 53 [aU x0] fun y2 =>
 .nq 412 [E2 x1,aU y2] fun y3 =>
 .br (y3.2.1 != (0:Int)) (
  .ret [aU (ai,ai,ba,ai,()),.int .i64 y3.2.1]) <|
 .ret [aU y3.1,.int .i64 0]
theorem uk x0 x1:aP bX 223 [aU x0,.iface 284 (E2 x1)] (uj x0 x1) :=aq
def um (x0:nn) (x1:MS):T :=
 .bN 21 [aU x0] fun y1 =>
 .bn y1 (.ret [aU (ai,ai,ba,ai,()),.int .i64 1]) <|
 .rg <|
 .SY 53 [aU x0] fun y2 =>
 .nq 543 [fV x1,aU y2] fun y3 =>
 .br (y3.2.1 != (0:Int)) (
  .ret [aU (ai,ai,ba,ai,()),.int .i64 y3.2.1]) <|
 .ret [aU y3.1,.int .i64 0]
theorem uo x0 x1:aP bX 223 [aU x0,.iface 298 (fV x1)] (um x0 x1) :=aq
def vQ (x0:nn) (x1:ByteArray × ByteArray × Bool × ar × Bool × PUnit):T :=
 .bN 21 [aU x0] fun y1 =>
 .bn y1 (.ret [aU (ai,ai,ba,ai,()),.int .i64 1]) <|
 .rg <|
 .SY 53 [aU x0] fun y2 =>
 .nq 444 [E3 x1,aU y2] fun y3 =>
 .br (y3.2.1 != (0:Int)) (
  .ret [aU (ai,ai,ba,ai,()),.int .i64 y3.2.1]) <|
 .ret [aU y3.1,.int .i64 0]
theorem vR x0 x1:aP bX 223 [aU x0,.iface 286 (E3 x1)] (vQ x0 x1) :=aq
end
end Go.Proofs.YtahmmgiiojjhgaaGreatDoor

namespace Go.Proofs.YtahmmgiiojjhgaaGreatDoor
open Go.Proofs.Tryz (prog)
open Go.IntKind
open Sx
set_option maxRecDepth 100000
theorem Tryz.mix:prog.follows .mixedOrders=true:=Tryz.checked.mixed
theorem aM {an:An} {f:FuncId} {args:List Value} {t:T} {V:aa} {K:aa->Value->Prop} (dY:aP an f args t) (h:(∃ w,V.on w)->t.wp prog (fun V' vs=>K V' (packed vs)) V V []):ae prog V f args K:=ae.of_fits Tryz.mix dY h
abbrev fo:Type:=aH [.s,.s,.i .i64,.i .i64]
def eX:List fo:=[
 (⟨#[67,72,70]⟩,⟨#[55,53,54]⟩,2,5,()),
 (⟨#[69,85,82]⟩,⟨#[57,55,56]⟩,2,1,()),
 (⟨#[85,83,68]⟩,⟨#[56,52,48]⟩,2,1,()),
 (⟨#[71,66,80]⟩,⟨#[56,50,54]⟩,2,1,()),
 (⟨#[74,80,89]⟩,⟨#[51,57,50]⟩,0,1,()),
 (⟨#[83,69,75]⟩,⟨#[55,53,50]⟩,2,100,()),
 (⟨#[78,79,75]⟩,⟨#[53,55,56]⟩,2,100,()),
 (⟨#[68,75,75]⟩,⟨#[50,48,56]⟩,2,50,()),
 (⟨#[67,90,75]⟩,⟨#[50,48,51]⟩,2,100,()),
 (⟨#[72,85,70]⟩,⟨#[51,52,56]⟩,2,500,()),
 (⟨#[80,76,78]⟩,⟨#[57,56,53]⟩,2,1,()),
 (⟨#[67,65,68]⟩,⟨#[49,50,52]⟩,2,5,()),
 (⟨#[65,85,68]⟩,⟨#[48,51,54]⟩,2,5,()),
 (⟨#[78,90,68]⟩,⟨#[53,53,52]⟩,2,10,()),
 (⟨#[75,87,68]⟩,⟨#[52,49,52]⟩,3,5,()),
 (⟨#[66,72,68]⟩,⟨#[48,52,56]⟩,3,5,()),
 (⟨#[84,78,68]⟩,⟨#[55,56,56]⟩,3,10,()),
 (⟨#[73,83,75]⟩,⟨#[51,53,50]⟩,0,1,()),
 (⟨#[75,82,87]⟩,⟨#[52,49,48]⟩,0,10,()),
 (⟨#[67,76,70]⟩,⟨#[57,57,48]⟩,4,1,())]
def qP:List fo:=[
 (⟨#[65,85,68]⟩,⟨#[48,51,54]⟩,2,5,()),
 (⟨#[66,72,68]⟩,⟨#[48,52,56]⟩,3,5,()),
 (⟨#[67,65,68]⟩,⟨#[49,50,52]⟩,2,5,()),
 (⟨#[67,72,70]⟩,⟨#[55,53,54]⟩,2,5,()),
 (⟨#[67,76,70]⟩,⟨#[57,57,48]⟩,4,1,()),
 (⟨#[67,90,75]⟩,⟨#[50,48,51]⟩,2,100,()),
 (⟨#[68,75,75]⟩,⟨#[50,48,56]⟩,2,50,()),
 (⟨#[69,85,82]⟩,⟨#[57,55,56]⟩,2,1,()),
 (⟨#[71,66,80]⟩,⟨#[56,50,54]⟩,2,1,()),
 (⟨#[72,85,70]⟩,⟨#[51,52,56]⟩,2,500,()),
 (⟨#[73,83,75]⟩,⟨#[51,53,50]⟩,0,1,()),
 (⟨#[74,80,89]⟩,⟨#[51,57,50]⟩,0,1,()),
 (⟨#[75,82,87]⟩,⟨#[52,49,48]⟩,0,10,()),
 (⟨#[75,87,68]⟩,⟨#[52,49,52]⟩,3,5,()),
 (⟨#[78,79,75]⟩,⟨#[53,55,56]⟩,2,100,()),
 (⟨#[78,90,68]⟩,⟨#[53,53,52]⟩,2,10,()),
 (⟨#[80,76,78]⟩,⟨#[57,56,53]⟩,2,1,()),
 (⟨#[83,69,75]⟩,⟨#[55,53,50]⟩,2,100,()),
 (⟨#[84,78,68]⟩,⟨#[55,56,56]⟩,3,10,()),
 (⟨#[85,83,68]⟩,⟨#[56,52,48]⟩,2,1,())]
def Uz (r:fo):List Value:=aH.aD [.s,.s,.i .i64,.i .i64] r
def fF (l:List fo):List Value:=l.flatMap Uz
theorem YH (r:fo):(Uz r).length=4:=rfl
theorem YI {l:List fo} {n:Nat} (h:n<l.length) (r:List Value):fj (fF l++r) (n*4) 4=some (Uz l[n]):=qq YH h r
theorem cur_at' {l:List fo} {n:Nat} (h:n<l.length):fj (fF l) (n*4) 4=some (Uz l[n]):=by
 have:=YI h []
 rwa [List.append_nil] at this
def om (x:ByteArray) (r:fo):Bool:=r.1.toList == x.toList
def cK (l:List fo) (x:ByteArray) (n:Nat):Option fo:=(l.drop n).find? (om x)
theorem kH {l:List fo} {x:ByteArray} {n:Nat} (h:n<l.length):cK l x n=if om x l[n] then some l[n] else cK l x (n+1):=by
 unfold cK;rw [List.drop_eq_getElem_cons h,List.find?_cons];cases om x l[n] <;> rfl
theorem xS {l:List fo} {x:ByteArray}:cK l x l.length=none:=by
 unfold cK; rw [List.drop_length]; rfl
def Rq:fo:=(⟨#[]⟩,⟨#[]⟩,0,0,())
def eY (x:ByteArray):fo:=(cK eX x 0).getD Rq
def known (x:ByteArray):Bool:=(cK eX x 0).isSome
theorem JG (x:ByteArray):cK qP x 0=cK eX x 0:=by
 have key:∀ c∈eX.map (fun r=>r.1.toList),(qP.find? fun r=>r.1.toList == c)=(eX.find? fun r=>r.1.toList == c):=by decide +kernel
 by_cases h:x.toList∈eX.map (fun r=>r.1.toList)
 ·exact key _ h
 have hS:∀ r∈qP,r.1.toList∈eX.map (fun r=>r.1.toList):=by decide +kernel
 have h1:cK qP x 0=none:=by
  refine List.find?_eq_none.2 fun r hr hx=>h ?_
  have:=hS r hr;rw [show x.toList=r.1.toList from(beq_iff_eq.1 hx).symm]; exact this
 have h2:cK eX x 0=none:=by
  refine List.find?_eq_none.2 fun r hr hx=>h ?_
  rw [show x.toList=r.1.toList from(beq_iff_eq.1 hx).symm];exact List.mem_map_of_mem hr
 rw [h1,h2]
theorem UA (x:ByteArray):known x=!((eY x).1.toList == (⟨#[]⟩:ByteArray).toList):=by
 unfold known eY;cases h:cK eX x 0 with
 | none=>simp [Rq]
 | some r =>
  have hm:r∈eX:=List.mem_of_find?_eq_some h;have:∀ r∈eX,(!(r.1.toList == (⟨#[]⟩:ByteArray).toList))=true:=by decide +kernel
  exact(this r hm).symm
theorem JH (V:aa):ae prog V 123 [] (fun V' r=>∃ b c spare t,V b=none/\V'=aB V b (fF qP++spare,t)/\r=.slice (some ⟨b,0,none⟩) 20 c):=by
 refine aM IV fun _=>?_
 simp only [xr,T.wp];intro b c spare hb hc _;exact⟨b,c,spare,_,hb,rfl,rfl⟩
theorem AQ (V:aa) (x:ByteArray):ae prog V 71 [.string x] (fun V' r=>V.le V'/\r=SR (eY x)):=by
 refine aM (NT x) fun _=>?_
 simp only [zR,T.wp];refine(JH V).mono ?_
 rintro V1 r ⟨b,c,spare,t,hb,rfl,rfl⟩;refine⟨nofun,⟨some ⟨b,0,none⟩,20,c⟩,rfl,?_⟩
 refine⟨fun y V'=>V'=aB V b (fF qP++spare,t)/\∃ n:Nat,y.1=(n:Int)/\n<=20/\cK qP x n=cK qP x 0,fun y=>(20-(y.1:Int)).toNat,
  ⟨((0:Int),⟨#[]⟩,⟨#[]⟩,(0:Int),(0:Int),()),rfl,rfl,0,rfl,by omega,rfl⟩,?_⟩
 rintro⟨(i:Int),s1,s2,(i1:Int),(i2:Int),u⟩ V' ⟨rfl,n,hi,hn,hf⟩;replace hi:i=(n:Int):=hi;subst hi;have hlen:qP.length=20:=rfl;refine⟨fun h=>?_,fun h=>?_⟩
 ·have fW:n<qP.length:=by (have:(n:Int)<20:=(by simpa using h); omega)
  refine⟨_,rfl,by omega,(by omega:(n:Int)<20),qP[n],?_,fun h=>?_,fun h=>?_⟩
  ·simp only [ah,aQ,av,Bool.false_eq_true,if_false,Nat.zero_add,Int.toNat_natCast]
   exact YI fW spare
  ·have h2:cK qP x 0=some qP[n]:=by
    rw [<- hf,kH fW,if_pos (show om x _=true from h)]
   refine⟨aG hb,?_⟩
   rw [eY,<- JG,h2]; rfl
  have h2:cK qP x (n+1)=cK qP x 0:=by
   rw [<- hf,kH fW,if_neg (by rw [om,h]; decide)]
  have hw:i64.wrap ((n:Int)+1)=((n+1:Nat):Int):=by rw [wrap_i64 (by omega)]; omega
  refine⟨_,rfl,(((n+1:Nat):Int),s1,s2,i1,i2,()),by rw [hw]; rfl,⟨rfl,n+1,rfl,by omega,h2⟩,?_⟩
  show(20-((n+1:Nat):Int)).toNat<(20-(n:Int)).toNat
  omega
 have hn20:n=20:=by (have:¬ (n:Int)<20:=(by simpa using h); omega)
 subst hn20;refine⟨aG hb,?_⟩
 have h2:cK qP x 0=none:=by rw [<- hf]; exact xS
 rw [eY,<- JG,h2]; rfl
theorem mA (V:aa) (x:ByteArray):ae prog V 37 [.string x] (fun V' r=>V.le V'/\r=.bool (known x)):=by
 refine aM (Ir x) fun _=>?_
 simp only [xh,T.wp];refine(AQ V x).mono ?_
 rintro V1 r ⟨hle,rfl⟩;exact⟨nofun,_,rfl,hle,by rw [UA]; rfl⟩
def curY:aH (List.replicate 20 [Sc.s,.s,.i .i64,.i .i64]).flatten:=(⟨#[67,72,70]⟩,⟨#[55,53,54]⟩,2,5,⟨#[69,85,82]⟩,⟨#[57,55,56]⟩,2,1,⟨#[85,83,68]⟩,⟨#[56,52,48]⟩,2,1,⟨#[71,66,80]⟩,⟨#[56,50,54]⟩,2,1,⟨#[74,80,89]⟩,⟨#[51,57,50]⟩,0,1,⟨#[83,69,75]⟩,⟨#[55,53,50]⟩,2,100,⟨#[78,79,75]⟩,⟨#[53,55,56]⟩,2,100,⟨#[68,75,75]⟩,⟨#[50,48,56]⟩,2,50,⟨#[67,90,75]⟩,⟨#[50,48,51]⟩,2,100,⟨#[72,85,70]⟩,⟨#[51,52,56]⟩,2,500,⟨#[80,76,78]⟩,⟨#[57,56,53]⟩,2,1,⟨#[67,65,68]⟩,⟨#[49,50,52]⟩,2,5,⟨#[65,85,68]⟩,⟨#[48,51,54]⟩,2,5,⟨#[78,90,68]⟩,⟨#[53,53,52]⟩,2,10,⟨#[75,87,68]⟩,⟨#[52,49,52]⟩,3,5,⟨#[66,72,68]⟩,⟨#[48,52,56]⟩,3,5,⟨#[84,78,68]⟩,⟨#[55,56,56]⟩,3,10,⟨#[73,83,75]⟩,⟨#[51,53,50]⟩,0,1,⟨#[75,82,87]⟩,⟨#[52,49,48]⟩,0,10,⟨#[67,76,70]⟩,⟨#[57,57,48]⟩,4,1,())
def iS (V:aa):Prop:=∃ t,V 0=some (fF eX,t)
theorem iS.le {V V':aa} (h:iS V) (hle:V.le V'):iS V':=let ⟨t,ht⟩:=h; ⟨t,hle _ _ ht⟩
theorem ri {V:aa} (hV:iS V) (x:ByteArray):ae prog V 103 [.string x] (fun V' r=>V'=V/\r=.tuple #[SR (eY x),.bool (known x)]):=by
 obtain⟨t,hV⟩:=hV;refine aM (Cn x) fun _=>?_
 simp only [q8,T.wp];refine⟨curY,by simp only [aQ,hV,Bool.false_eq_true,if_false]; exact by kernel_rfl,?_⟩
 refine⟨fun y V'=>V'=V/\∃ n:Nat,y.1=(n:Int)/\n<=20/\cK eX x n=cK eX x 0,fun y=>(20-(y.1:Int)).toNat,
  ⟨((0:Int),⟨#[]⟩,⟨#[]⟩,(0:Int),(0:Int),()),rfl,rfl,0,rfl,by omega,rfl⟩,?_⟩
 rintro⟨(i:Int),s1,s2,(i1:Int),(i2:Int),u⟩ V' ⟨rfl,n,hi,hn,hf⟩;replace hi:i=(n:Int):=hi;subst hi;have hlen:eX.length=20:=rfl;refine⟨fun h=>?_,fun h=>?_⟩
 ·have fW:n<eX.length:=by (have:(n:Int)<20:=(by simpa using h); omega)
  refine⟨⟨by omega,(by omega:(n:Int)<20)⟩,eX[n],?_,fun h=>?_,fun h=>?_⟩
  ·simp only [Int.toNat_natCast]
   exact cur_at' fW
  ·have h2:cK eX x 0=some eX[n]:=by
    rw [<- hf,kH fW,if_pos (show om x _=true from h)]
   refine⟨rfl,?_⟩
   rw [eY,known,h2]; rfl
  have h2:cK eX x (n+1)=cK eX x 0:=by
   rw [<- hf,kH fW,if_neg (by rw [om,h]; decide)]
  have hw:i64.wrap ((n:Int)+1)=((n+1:Nat):Int):=by rw [wrap_i64 (by omega)]; omega
  refine⟨_,rfl,(((n+1:Nat):Int),s1,s2,i1,i2,()),by rw [hw]; rfl,⟨rfl,n+1,rfl,by omega,h2⟩,?_⟩
  show(20-((n+1:Nat):Int)).toNat<(20-(n:Int)).toNat
  omega
 have hn20:n=20:=by (have:¬ (n:Int)<20:=(by simpa using h); omega)
 subst hn20;refine⟨rfl,?_⟩
 have h2:cK eX x 0=none:=by rw [<- hf]; exact xS
 rw [eY,known,h2]; rfl
theorem pG {V:aa} (hV:iS V) (x:ByteArray):ae prog V 52 [.string x] (fun V' r=>V'=V/\r=.bool (known x)):=by
 refine aM (Is x) fun _=>?_
 simp only [xi,T.wp];refine(ri hV x).mono ?_
 rintro V1 r ⟨rfl,rfl⟩;exact⟨nofun,(eY x,known x,()),rfl,rfl,rfl⟩
theorem uq {V:aa}:∀ o:List aI,kS rI V o o []
 | []=>rfl
 | _ :: o=>⟨[],[],rfl,⟨rfl,rfl⟩,uq o⟩
theorem oq {V:aa}:∀ {cs l:List aI} {f:List Nat},kS rI V cs l f->cs=l/\f=[]
 | [],[],_,h=>⟨rfl,h⟩
 | (c,()) :: cs,(x,()) :: l,_,⟨f,g,rfl,h1,h2⟩=>by
  obtain⟨rfl,rfl⟩:=oq h2;have e1:c=x:=h1.1;have e2:f=[]:=h1.2;subst e1; subst e2
  exact⟨rfl,rfl⟩
def ag (x:aI):Value:=.int .i64 x.1
theorem lE:∀ o:List aI,o.flatMap (aH.aD [.i .i64])=o.map ag
 | []=>rfl
 | x :: o=>by rw [List.flatMap_cons,lE o]; rfl
theorem Rr:∀ o:List aI,one (o.map ag)=true
 | []=>rfl
 | x :: o=>by
  have:=Rr o;unfold one at this ⊢;rw [List.map_cons,List.all_cons,this]; rfl
theorem LR.shrink {V:aa} {s:ar} {l:List aI} {f:List Nat} (h:LR rI V s l f) {k:Nat} (hk:k<=l.length):LR rI V ⟨s.a,k,s.c⟩ (l.take k) f:=by
 obtain⟨h1,h2,h3,h4⟩:=h;refine⟨by simp; omega,(by omega:k<=s.c),(by omega:k<=9223372036854775807),?_⟩
 rcases h4 with ⟨h0,hc,hf⟩ | ⟨b,pre,post,t,fps,cs,k1,k2,k3,rfl⟩
 ·exact .inl ⟨(by omega:k=0),hc,hf⟩
 obtain⟨rfl,rfl⟩:=oq k3;refine .inr ⟨b,pre,(cs.drop k).flatMap (aH.aD [.i .i64])++post,t,[],cs.take k,k1,?_,uq _,rfl⟩
 have e:(cs.take k).flatMap (aH.aD [.i .i64])++((cs.drop k).flatMap (aH.aD [.i .i64])++post)=cs.flatMap (aH.aD [.i .i64])++post:=by
  rw [<- List.append_assoc,<- List.flatMap_append,List.take_append_drop]
 rw [k2,e]
theorem LR.rdI {V:aa} {s:ar} {l:List aI} {f:List Nat} (h:LR rI V s l f) :
  ((s.n=0/\(s.a=none->s.c=0)/\l.map ag=[])\/∃ ad,s.a=some ad/\aQ V ad (s.n*1)=some (l.map ag))/\one (l.map ag)=true:=by
 obtain⟨h1,h2,h3,h4⟩:=h;refine⟨?_,Rr l⟩
 rcases h4 with ⟨h0,hc,hf⟩ | ⟨b,pre,post,t,fps,cs,k1,k2,k3,rfl⟩
 ·have:l=[]:=List.eq_nil_of_length_eq_zero (by omega)
  subst this;exact .inl ⟨h0,hc,rfl⟩
 obtain⟨rfl,rfl⟩:=oq k3;refine .inr ⟨_,k1,?_⟩
 simp only [aQ,k2];have:=eH (x:=pre) (y:=cs.flatMap (aH.aD [.i .i64])++post) (o:=0) (n:=s.n*1);rw [Nat.add_zero] at this;rw [this,lE,h1,Nat.mul_one];have:=fK (x:=cs.map ag) (y:=post)
 rwa [List.length_map] at this
theorem ju {V:aa} {b cap:Nat} {o:List aI} {spare:List Value} {t:TypeId} (hb:V b=none) (hc:o.length<=cap) (hl:o.length<=9223372036854775807) :
  LR rI (aB V b (o.map ag++spare,(t,(0,0)))) ⟨some ⟨b,0,none⟩,o.length,cap⟩ o [b]/\cQ V (aB V b (o.map ag++spare,(t,(0,0)))) [b]:=by
 refine⟨⟨rfl,hc,hl,.inr ⟨b,[],spare,(t,(0,0)),[],o,rfl,?_,uq o,rfl⟩⟩,by simp,?_,?_⟩
 ·rw [av,lE]; rfl
 ·intro b' gx; simp at gx; subst gx; exact hb
 intro b' gx; simp at gx; subst gx; exact⟨_,_,av⟩
theorem FU (V:aa) (s:ar) (l:List aI) (f:List Nat) (h:LR rI V s l f) :
  ae prog V 270 [qL s] (fun V' r=>V'=V/\∃ s',r=qL s'/\LR rI V s' (db l) f):=by
 refine aM (Rm s) fun _=>?_
 simp only [FO,T.wp];refine⟨fun y V'=>V'=V/\∃ m:Nat,m<=l.length/\tl l m=tl l l.length/\LR rI V y.1 (l.take m) f,fun y=>y.1.n,
  ⟨(s,()),rfl,rfl,l.length,Nat.le_refl _,rfl,by rw [List.take_length]; exact h⟩,?_⟩
 rintro⟨s1,u⟩ V' ⟨rfl,m,hm,vT,hL⟩;replace hL:LR rI V' s1 (l.take m) f:=hL;have hn:s1.n=m:=by have:=hL.1; simp at this; omega
 have dd:=hL.2.1;have jT:=hL.2.2.1;refine⟨fun df=>?_,fun hz=>?_⟩
 ·have hp:(s1.n:Int) > 0:=bq df
  obtain⟨j,rfl⟩:∃ j,m=j+1:=⟨m-1,by omega⟩;have hj:j<(l.take (j+1)).length:=by simp; omega
  have BY:j<l.length:=by omega
  obtain⟨b,o,a1,l1⟩:=hL.int hj;have hw:i64.wrap ((s1.n:Int)-1)=(j:Int):=by rw [wrap_i64 (by omega)]; omega
  show ∃ ad,s1.a=some ad/\_
  rw [hw];refine⟨_,a1,(by omega:(0:Int)<=(j:Int)),(by omega:(j:Int)<(s1.n:Int)),(l.take (j+1))[j].1,l1,fun h0=>?_,fun h0=>?_⟩
  ·have e0:ab l j=0:=by
    rw [aV BY];have:(l.take (j+1))[j].1=0:=by simpa using h0
    simpa using this
   have XK:(if (s1.c:Int).toNat=Int.toNat (0:Int) then s1.a else Option.map (fun x=>x.add (Int.toNat (0:Int)*prog.types[(3:Nat)].size)) s1.a)=s1.a:=by
    split
    ·rfl
    cases s1.a with
    | none=>rfl
    | some ad=>simp [Addr.add]
   have yw:=hL.shrink (k:=j) (by simp; omega)
   refine⟨⟨(by omega:(0:Int)<=0),(by omega:(0:Int)<=(j:Int)),(by omega:(j:Int)<=(s1.c:Int)),(by omega:(s1.c:Int)<=(s1.c:Int))⟩,_,rfl,((⟨if (s1.c:Int).toNat=Int.toNat (0:Int) then s1.a else Option.map (fun x=>x.add (Int.toNat (0:Int)*prog.types[(3:Nat)].size)) s1.a,(j:Int).toNat-Int.toNat (0:Int),(s1.c:Int).toNat-Int.toNat (0:Int)⟩:ar),()),rfl,⟨rfl,j,by omega,?_,?_⟩,?_⟩
   ·rw [<- vT,tl,if_pos e0]
   ·have e3:((j:Int).toNat-Int.toNat (0:Int))=j:=by omega
    have e4:((s1.c:Int).toNat-Int.toNat (0:Int))=s1.c:=by omega
    show LR rI V' ⟨if (s1.c:Int).toNat=Int.toNat (0:Int) then s1.a else Option.map (fun x=>x.add (Int.toNat (0:Int)*prog.types[(3:Nat)].size)) s1.a,(j:Int).toNat-Int.toNat (0:Int),(s1.c:Int).toNat-Int.toNat (0:Int)⟩ _ _
    rw [XK,e3,e4];rw [List.take_take] at yw
    rwa [Nat.min_eq_left (by omega)] at yw
   show(j:Int).toNat-Int.toNat (0:Int)<s1.n
   omega
  have e0:ab l j≠0:=by
   rw [aV BY];have:¬ (l.take (j+1))[j].1=0:=by simpa using h0
   simpa using this
  refine⟨rfl,s1,rfl,?_⟩
  rw [tl,if_neg e0] at vT;unfold db;rw [<- vT]; exact hL
 have EJ:¬ (s1.n:Int) > 0:=bU hz;have:m=0:=by omega
 subst this;refine⟨rfl,s1,rfl,?_⟩
 unfold db;rw [<- vT]; exact hL
theorem lF (V:aa) (s:ar) (l:List aI) (f:List Nat) (h:LR rI V s l f) (hl:l.length<=1048576) :
  ae prog V 188 [qL s] (fun V' r=>V.le V'/\∃ s' f',r=qL s'/\LR rI V' s' l f'/\cQ V V' f'):=by
 refine aM (Om s) fun _=>?_
 simp only [Aj,T.wp];obtain⟨h1,h2⟩:=h.rdI;have hn:=h.1;refine⟨_,h1,h2,⟨h2,(by omega:(0+s.n)*8<=140737488355328),(by omega:0+s.n<=9223372036854775807)⟩,?_⟩
 intro b cap spare hb hc _;have hk:=ju (o:=l) (spare:=spare) (t:=3) (cap:=cap) hb (by omega) (by omega);refine⟨aG hb,⟨some ⟨b,0,none⟩,0+s.n,cap⟩,[b],rfl,?_,hk.2⟩
 rw [Nat.zero_add,hn]; exact hk.1
theorem JI {l l':List aI} {n:Nat}:mu l l' (n+1)=if ab l n<ab l' n then -1 else if ab l n > ab l' n then 1 else mu l l' n:=rfl
theorem DM (V:aa) (s s':ar) (l l':List aI) (f f':List Nat) (h:LR rI V s l f) (h':LR rI V s' l' f') :
  ae prog V 265 [qL s,qL s'] (fun V' r=>V'=V/\r=.int .i64 (cmpL l l')):=by
 refine aM (Um _ _) fun _=>?_
 simp only [DD,T.wp];have hn:=h.1;have H9:=h'.1;have hb:=h.2.2.1;refine⟨fun bR=>?_,fun heq=>?_⟩
 ·have JJ:l.length≠l'.length:=by
   have:((s.n:Nat):Int)≠((s'.n:Nat):Int):=by simpa using bR
   omega
  refine⟨fun aN=>⟨by trivial,?_⟩,fun cg=>⟨by trivial,?_⟩⟩
  ·have:(s.n:Int)<(s'.n:Int):=bq aN
   rw [cmpL,if_pos JJ,if_pos (by omega)]; rfl
  have:¬ (s.n:Int)<(s'.n:Int):=bU cg;rw [cmpL,if_pos JJ,if_neg (by omega)]; rfl
 have hl:l.length=l'.length:=by
  have:((s.n:Nat):Int)=((s'.n:Nat):Int):=by simpa using heq
  omega
 have hc:cmpL l l'=mu l l' l.length:=by rw [cmpL,if_neg (by simpa using hl)]
 rw [hc];have hw:i64.wrap ((s.n:Int)-1)=(s.n:Int)-1:=wrap_i64 (by omega);refine⟨fun y V'=>V'=V/\∃ n:Nat,y.1=(n:Int)-1/\n<=l.length/\mu l l' n=mu l l' l.length,fun y=>((y.1:Int)+1).toNat,
  ⟨((s.n:Int)-1,()),by rw [hw]; rfl,rfl,l.length,by rw [hn],Nat.le_refl _,rfl⟩,?_⟩
 rintro⟨(i:Int),u⟩ V' ⟨rfl,n,hi,hle,BX⟩;replace hi:i=(n:Int)-1:=hi;refine⟨fun cg=>?_,fun aN=>?_⟩
 ·have rU:i>=0:=bq cg
  obtain⟨m,rfl⟩:∃ m,n=m+1:=⟨n-1,by omega⟩;have hi:i=(m:Int):=by omega
  subst hi;have h1:m<l.length:=hle;have h2:m<l'.length:=by omega
  obtain⟨b1,o1,a1,l1⟩:=h.int h1;obtain⟨b2,o2,a2,l2⟩:=h'.int h2;rw [JI,aV h1,aV h2] at BX;refine⟨_,a1,by omega,(by omega:(m:Int)<(s.n:Int)),l[m].1,l1,_,a2,by omega,(by omega:(m:Int)<(s'.n:Int)),l'[m].1,l2,fun bR=>?_,fun heq=>?_⟩
  ·have JJ:l[m].1≠l'[m].1:=by simpa using bR
   refine⟨_,a1,by omega,(by omega:(m:Int)<(s.n:Int)),l[m].1,l1,_,a2,by omega,(by omega:(m:Int)<(s'.n:Int)),l'[m].1,l2,fun aN=>⟨rfl,?_⟩,fun hge1=>⟨rfl,?_⟩⟩
   ·rw [if_pos (bq aN)] at BX
    rw [<- BX]; rfl
   have:¬ l[m].1<l'[m].1:=bU hge1;rw [if_neg this,if_pos (by omega)] at BX;rw [<- BX]; rfl
  have heq':l[m].1=l'[m].1:=by simpa using heq
  rw [if_neg (by omega),if_neg (by omega)] at BX;refine⟨_,rfl,((m:Int)-1,()),by rw [show i64.wrap ((m:Int)-1)=(m:Int)-1 from wrap_i64 (by omega)]; rfl,⟨rfl,m,rfl,by omega,BX⟩,?_⟩
  show((m:Int)-1+1).toNat<((m:Int)+1).toNat
  omega
 have:¬ i>=0:=bU aN;have hz:n=0:=by omega
 subst hz;refine⟨rfl,?_⟩
 rw [<- BX]; rfl
theorem kT (V:aa) (s s':ar) (l l':List aI) (f f':List Nat) (h:LR rI V s l f) (h':LR rI V s' l' f') :
  ae prog V 127 [qL s,qL s'] (fun V' r=>V'=V/\r=.int .i64 (cmpL l l')):=by
 refine aM (TK _ _) fun _=>?_
 simp only [Di,T.wp];have hn:=h.1;have H9:=h'.1;have hb:=h.2.2.1;refine⟨fun bR=>?_,fun heq=>?_⟩
 ·have JJ:l.length≠l'.length:=by
   have:((s.n:Nat):Int)≠((s'.n:Nat):Int):=by simpa using bR
   omega
  refine⟨fun aN=>⟨by trivial,?_⟩,fun cg=>⟨by trivial,?_⟩⟩
  ·have:(s.n:Int)<(s'.n:Int):=bq aN
   rw [cmpL,if_pos JJ,if_pos (by omega)]; rfl
  have:¬ (s.n:Int)<(s'.n:Int):=bU cg;rw [cmpL,if_pos JJ,if_neg (by omega)]; rfl
 have hl:l.length=l'.length:=by
  have:((s.n:Nat):Int)=((s'.n:Nat):Int):=by simpa using heq
  omega
 have hc:cmpL l l'=mu l l' l.length:=by rw [cmpL,if_neg (by simpa using hl)]
 rw [hc];have hw:i64.wrap ((s.n:Int)-1)=(s.n:Int)-1:=wrap_i64 (by omega);refine⟨fun y V'=>V'=V/\∃ n:Nat,y.1=(n:Int)-1/\n<=l.length/\mu l l' n=mu l l' l.length,fun y=>((y.1:Int)+1).toNat,
  ⟨((s.n:Int)-1,()),by rw [hw]; rfl,rfl,l.length,by rw [hn],Nat.le_refl _,rfl⟩,?_⟩
 rintro⟨(i:Int),u⟩ V' ⟨rfl,n,hi,hle,BX⟩;replace hi:i=(n:Int)-1:=hi;refine⟨fun cg=>?_,fun aN=>?_⟩
 ·have rU:i>=0:=bq cg
  obtain⟨m,rfl⟩:∃ m,n=m+1:=⟨n-1,by omega⟩;have hi:i=(m:Int):=by omega
  subst hi;have h1:m<l.length:=hle;have h2:m<l'.length:=by omega
  obtain⟨b1,o1,a1,l1⟩:=h.int h1;obtain⟨b2,o2,a2,l2⟩:=h'.int h2;rw [JI,aV h1,aV h2] at BX;refine⟨_,a1,by omega,(by omega:(m:Int)<(s.n:Int)),l[m].1,l1,_,a2,by omega,(by omega:(m:Int)<(s'.n:Int)),l'[m].1,l2,fun aN=>⟨rfl,?_⟩,fun hge1=>?_⟩
  ·rw [if_pos (bq aN)] at BX
   rw [<- BX]; rfl
  rw [if_neg (bU hge1)] at BX;refine⟨_,a1,by omega,(by omega:(m:Int)<(s.n:Int)),l[m].1,l1,_,a2,by omega,(by omega:(m:Int)<(s'.n:Int)),l'[m].1,l2,fun DN=>⟨rfl,?_⟩,fun eC=>?_⟩
  ·rw [if_pos (bq DN)] at BX
   rw [<- BX]; rfl
  rw [if_neg (bU eC)] at BX;refine⟨_,rfl,((m:Int)-1,()),by rw [show i64.wrap ((m:Int)-1)=(m:Int)-1 from wrap_i64 (by omega)]; rfl,⟨rfl,m,rfl,by omega,BX⟩,?_⟩
  show((m:Int)-1+1).toNat<((m:Int)+1).toNat
  omega
 have:¬ i>=0:=bU aN;have hz:n=0:=by omega
 subst hz;refine⟨rfl,?_⟩
 rw [<- BX]; rfl
theorem vU (i j:Nat):(1000000000:Int) ^ (i+j)=1000000000 ^ i*1000000000 ^ j:=by
 induction j with
 | zero=>simp
 | succ j ih=>rw [<- Nat.add_assoc,Int.pow_succ,ih,Int.pow_succ,Int.mul_assoc]
theorem eZ {l:List aI} {i j:Nat} {x:Int} (h:i<l.length):ab (l.set i (x,())) j=if j=i then x else ab l j:=by
 unfold ab
 by_cases e:j=i
 ·subst e; simp [List.getD_eq_getElem?_getD,h]
 have e':¬ i=j:=fun k=>e k.symm
 rw [if_neg e];simp [List.getD_eq_getElem?_getD,e']
theorem DO {l:List aI} {i:Nat} {x:Int} (h:i<l.length):∀ j,ak (l.set i (x,())) j=ak l j+(if i<j then (x-ab l i)*1000000000 ^ i else 0)
 | 0=>by simp [ak]
 | j+1=>by
  rw [ak,ak,DO h j,eZ h]
  by_cases e:j=i
  ·subst e
   rw [if_pos rfl,if_neg (Nat.lt_irrefl _),if_pos (Nat.lt_succ_self _),Int.sub_mul];omega
  rw [if_neg e]
  by_cases c:i<j
  ·rw [if_pos c,if_pos (by omega)]; omega
  rw [if_neg c,if_neg (by omega)]; omega
theorem iT {l:List aI} {i:Nat} {x:Int} (h:i<l.length):af (l.set i (x,()))=af l+(x-ab l i)*1000000000 ^ i:=by
 unfold af;rw [List.length_set,DO h,if_pos h]
theorem iU {l:List aI} {i:Nat} {x:Int} (h:bK l) (hi:i<l.length) (hx:0<=x/\x<1000000000):bK (l.set i (x,())):=by
 intro j;rw [eZ hi];split
 ·exact hx
 exact h j
def Rs (n:Nat):List aI:=List.replicate n (0,())
theorem nu (n i:Nat):ab (Rs n) i=0:=by
 unfold ab Rs
 by_cases h:i<n
 ·simp [List.getD_eq_getElem?_getD,h]
 simp [List.getD_eq_getElem?_getD,h]
theorem DP (n:Nat):∀ i,ak (Rs n) i=0
 | 0=>rfl
 | i+1=>by rw [ak,DP n i,nu]; simp
theorem nv (n:Nat):af (Rs n)=0:=DP n _
theorem nz (n:Nat):bK (Rs n):=fun i=>by rw [nu]; omega
theorem ot (n:Nat):(Rs n).length=n:=List.length_replicate
theorem Pe {l:List aI} (h:bK l) {i j:Nat} (hij:i<=j):ak l i<=ak l j:=by
 induction j with
 | zero =>
  have:i=0:=by omega
  subst this; exact Int.le_refl _
 | succ j ih =>
  by_cases e:i=j+1
  ·subst e; exact Int.le_refl _
  have:=ih (by omega);have:=fL (h j).1 j;rw [ak]; omega
theorem YJ {l:List aI} (h:bK l) (i:Nat):ak l i<=af l:=by
 by_cases e:i<=l.length
 ·exact Pe h e
 rw [fE (by omega)]; exact Int.le_refl _
theorem AR {l:List aI} (h:bK l) {k j:Nat} (hv:af l<1000000000 ^ k) (hj:k<=j):ab l j=0:=by
 by_cases e:ab l j=0
 ·exact e
 exfalso
 have h1:=h j;have h2:=dQ (show 1<=ab l j by omega) j;have h3:=YJ h (j+1);rw [ak] at h3;have h4:=(ch h j).1;have h5:=gD hj;omega
theorem nA (u:List aI) (j i:Nat):ab (u.drop j) i=ab u (j+i):=by
 simp [ab,List.getD_eq_getElem?_getD,List.getElem?_drop]
theorem ou (u:List aI) (j:Nat):∀ i,ak u (j+i)=ak u j+ak (u.drop j) i*1000000000 ^ j
 | 0=>by simp [ak]
 | i+1=>by
  have e:ab u (j+i)*(1000000000 ^ j*1000000000 ^ i)=ab u (j+i)*1000000000 ^ i*1000000000 ^ j:=by
   rw [Int.mul_comm (1000000000 ^ j),Int.mul_assoc]
  rw [<- Nat.add_assoc,ak,ou u j i,ak,nA,Int.add_mul,vU,e];omega
theorem xT {x y:List aI} {i:Nat} (h:i<x.length):ab (x++y) i=ab x i:=by
 simp [ab,List.getD_eq_getElem?_getD,List.getElem?_append_left h]
theorem JK {x y:List aI} {i:Nat} (h:x.length<=i):ab (x++y) i=ab y (i-x.length):=by
 simp [ab,List.getD_eq_getElem?_getD,List.getElem?_append_right h]
theorem DQ {x y:List aI}:∀ {i:Nat},i<=x.length->ak (x++y) i=ak x i
 | 0,_=>rfl
 | i+1,h=>by rw [ak,ak,DQ (by omega),xT (by omega)]
theorem iV (x y:List aI):af (x++y)=af x+af y*1000000000 ^ x.length:=by
 have h:=ou (x++y) x.length y.length;rw [List.drop_left,DQ (Nat.le_refl _)] at h;unfold af;rw [List.length_append]; exact h
theorem AS {x y:List aI} (hx:bK x) (hy:bK y):bK (x++y):=by
 intro i
 by_cases h:i<x.length
 ·rw [xT h]; exact hx i
 rw [JK (by omega)]; exact hy _
theorem qs {l:List aI} (h:bK l) (n:Nat):bK (l.drop n):=fun i=>by rw [nA]; exact h _
theorem ur {x:Int} (h:0<=x/\x<1000000000):bK [(x,())]:=fM (l:=[]) eU h
theorem iW (x:Int):af [(x,())]=x:=by simp [af,ak,ab]
theorem jX:af []=0:=rfl
theorem YK {p w w' r:List aI} (h:w'.length=w.length):af (p++(w'++r))=af (p++(w++r))+(af w'-af w)*1000000000 ^ p.length:=by
 rw [iV,iV,iV,iV,h,Int.add_mul,Int.add_mul,Int.sub_mul];omega
theorem YL {v:List aI} {m:Nat} (h:v.length=m+2):af v=(ab v (m+1)*1000000000+ab v m)*1000000000 ^ m+ak v m:=by
 rw [af,h,ak,ak,dp,Int.add_mul,Int.mul_assoc];omega
theorem YM {v:List aI} {m:Nat} (h:v.length=m+3):af v=((ab v (m+2)*1000000000+ab v (m+1))*1000000000+ab v m)*1000000000 ^ m+ak v m:=by
 rw [af,h,ak,ak,ak];have h1:=dp m;have h2:=dp (m+1);rw [show m+2=m+1+1 from rfl,h2,h1]
 grind
theorem YN {u v v1 v2 vl top u2 ul P q:Int} (hP:0<P) (hv:v=(v1*1000000000+v2)*P+vl) (vt:0<=vl) (hu:u=(top*1000000000+u2)*P+ul) (Mf:ul<P) (hq:0<=q)
  (h:q*v2 > (top-q*v1)*1000000000+u2):u<q*v:=by
 have h1:top*1000000000+u2+1<=q*(v1*1000000000+v2):=by
  rw [Int.mul_add,<- Int.mul_assoc];rw [Int.sub_mul] at h;omega
 have h2:=Int.mul_le_mul_of_nonneg_right h1 (Int.le_of_lt hP);rw [Int.add_mul,Int.one_mul,Int.mul_assoc q] at h2;have h3:0<=q*vl:=Int.mul_nonneg hq vt;rw [hv,Int.mul_add,hu];omega
theorem YO {u v v1 v2 vl top u2 ul P q:Int} (hP:0<P) (hv:v=(v1*1000000000+v2)*P+vl) (vt:0<=vl/\vl<P) (hv1:1<=v1) (yl:0<=v2/\v2<1000000000) (hu:u=(top*1000000000+u2)*P+ul) (Mf:0<=ul) (hu2:0<=u2)
  (hq:0<=q/\q<1000000000) (h:q=0\/top-q*v1>=1000000000\/q*v2<=(top-q*v1)*1000000000+u2) (hu0:0<=u):(q-1)*v<=u:=by
 have hvp:P<=v:=by
  have h1:1<=v1*1000000000+v2:=by omega
  have:=Int.mul_le_mul_of_nonneg_right h1 (Int.le_of_lt hP);rw [hv]; omega
 rcases Int.lt_or_le 0 q with df | hz
 ·have key:q*v2<=(top-q*v1)*1000000000+u2:=by
   rcases h with h | h | h
   ·omega
   ·have:q*v2<=999999999*999999999:=Int.mul_le_mul (by omega) (by omega) yl.1 (by omega)
    have:1000000000*1000000000<=(top-q*v1)*1000000000:=Int.mul_le_mul_of_nonneg_right h (by omega);omega
   exact h
  have h1:q*(v1*1000000000+v2)<=top*1000000000+u2:=by
   rw [Int.mul_add,<- Int.mul_assoc];rw [Int.sub_mul] at key;omega
  have h2:=Int.mul_le_mul_of_nonneg_right h1 (Int.le_of_lt hP);rw [Int.mul_assoc] at h2;have h3:q*vl<=999999999*P:=Int.mul_le_mul (by omega) (by omega) vt.1 (by omega);have h4:1000000000*P<=v:=by
   have:1000000000<=v1*1000000000+v2:=by omega
   have:=Int.mul_le_mul_of_nonneg_right this (Int.le_of_lt hP);rw [hv]; omega
  have h5:q*v=q*((v1*1000000000+v2)*P)+q*vl:=by rw [hv,Int.mul_add]
  rw [Int.sub_mul,Int.one_mul];omega
 have:q=0:=by omega
 subst this;omega
theorem UB {u v v1 v2 vl top u2 ul P q:Int} (hP:0<P) (hv:v=(v1*1000000000+v2)*P+vl) (vt:0<=vl) (yl:0<=v2) (hu:u=(top*1000000000+u2)*P+ul) (Mf:ul<P) (hu2:u2<1000000000) (hq:0<=q)
  (h:top<(q+1)*v1):u<(q+1)*v:=by
 have h1:top*1000000000+u2+1<=(q+1)*v1*1000000000:=by omega
 have h2:=Int.mul_le_mul_of_nonneg_right h1 (Int.le_of_lt hP);have h3:0<=(q+1)*vl:=Int.mul_nonneg (by omega) vt;have h4:0<=(q+1)*v2*P:=Int.mul_nonneg (Int.mul_nonneg (by omega) yl) (Int.le_of_lt hP);have h5:(q+1)*v=(q+1)*v1*1000000000*P+(q+1)*v2*P+(q+1)*vl:=by grind
 have h6:(top*1000000000+u2+1)*P=(top*1000000000+u2)*P+P:=by grind
 omega
theorem UC {w v:List aI} {k:Nat} {q b b' t W:Int} (hk:k<w.length) (hv:af w=W+b*1000000000 ^ k-q*ak v k) (ht:t=ab w k-ab v k*q-b+b'*1000000000) :
  af (w.set k (t,()))=W+b'*1000000000 ^ (k+1)-q*ak v (k+1):=by
 rw [iT hk,hv,ak,dp,ht]
 grind
theorem UD {w v:List aI} {k:Nat} {c d e W:Int} (hk:k<w.length) (hv:af w+c*1000000000 ^ k=W+ak v k) (hs:c+ab w k+ab v k=d+1000000000*e) :
  af (w.set k (d,()))+e*1000000000 ^ (k+1)=W+ak v (k+1):=by
 rw [iT hk,ak,dp];have h1:(c+ab w k+ab v k)*1000000000 ^ k=(d+1000000000*e)*1000000000 ^ k:=by rw [hs]
 grind
theorem JL {o b:List aI} {i k:Nat} {c d e x W:Int} (hk:i+k<o.length) (hv:af o+c*1000000000 ^ (i+k)=W+x*ak b k*1000000000 ^ i) (hs:c+ab o (i+k)+x*ab b k=d+1000000000*e) :
  af (o.set (i+k) (d,()))+e*1000000000 ^ (i+(k+1))=W+x*ak b (k+1)*1000000000 ^ i:=by
 rw [iT hk,ak,<- Nat.add_assoc,dp];have h1:(c+ab o (i+k)+x*ab b k)*1000000000 ^ (i+k)=(d+1000000000*e)*1000000000 ^ (i+k):=by rw [hs]
 have h2:=vU i k
 grind
theorem Pf {o:List aI} {k:Nat} {c d e T:Int} (hk:k<o.length) (hv:af o+c*1000000000 ^ k=T) (hs:c+ab o k=d+1000000000*e) :
  af (o.set k (d,()))+e*1000000000 ^ (k+1)=T:=by
 rw [iT hk,dp];have h1:(c+ab o k)*1000000000 ^ k=(d+1000000000*e)*1000000000 ^ k:=by rw [hs]
 grind
theorem vV {o a:List aI} {i:Nat} {r r' d x T:Int} (hi:i<o.length) (ho:ab o i=0) (hv:af o*d+r*1000000000 ^ (i+1)+ak a (i+1)=T) (hs:r*1000000000+ab a i=x*d+r') :
  af (o.set i (x,()))*d+r'*1000000000 ^ i+ak a i=T:=by
 rw [iT hi,ho,<- hv,ak,dp];have h1:(r*1000000000+ab a i)*1000000000 ^ i=(x*d+r')*1000000000 ^ i:=by rw [hs]
 grind
theorem Pg {o:List aI} {j:Nat} {u u' w w' v x T:Int} (hj:j<o.length) (ho:ab o j=0) (hv:af o*v+u=T) (hu:u'=u+(w'-w)*1000000000 ^ j) (hw:w'=w-x*v) :
  af (o.set j (x,()))*v+u'=T:=by
 rw [iT hj,ho,hu,hw,<- hv]
 grind
theorem JM {a b q r q' r':Int} (h:a=q*b+r) (h':a=q'*b+r') (hr:0<=r/\r<b) (hr':0<=r'/\r'<b):q=q'/\r=r':=by
 have e1:a / b=q/\a % b=r:=by
  rw [h,Int.add_comm,Int.add_mul_ediv_right _ _ (by omega),Int.add_mul_emod_self_right,Int.ediv_eq_zero_of_lt hr.1 hr.2,Int.emod_eq_of_lt hr.1 hr.2];exact⟨by omega,rfl⟩
 have e2:a / b=q'/\a % b=r':=by
  rw [h',Int.add_comm,Int.add_mul_ediv_right _ _ (by omega),Int.add_mul_emod_self_right,Int.ediv_eq_zero_of_lt hr'.1 hr'.2,Int.emod_eq_of_lt hr'.1 hr'.2];exact⟨by omega,rfl⟩
 exact⟨e1.1.symm.trans e2.1,e1.2.symm.trans e2.2⟩
theorem uv {l l':List aI} (h:Can l) (h':Can l') (e:af l=af l'):l=l':=by
 have hc:=iP h h';have hz:cmpL l l'=0:=by
  rcases hc with ⟨_,h⟩ | ⟨h,_⟩ | ⟨_,h⟩
  ·omega
  ·exact h
  omega
 unfold cmpL at hz
 by_cases c:l.length=l'.length
 ·rw [if_neg (by simpa using c)] at hz
  have key:∀ n,mu l l' n=0->∀ i,i<n->ab l i=ab l' i:=by
   intro n
   induction n with
   | zero=>intro _ i hi; omega
   | succ n ih =>
    intro hz i hi;unfold mu at hz;split at hz
    ·omega
    split at hz
    ·omega
    by_cases e:i=n
    ·subst e; omega
    exact ih hz i (by omega)
  have hk:=key _ hz;refine List.ext_getElem c fun i h1 h2=>?_
  have:=hk i h1;rw [aV h1,aV h2] at this;exact Prod.ext this rfl
 rw [if_pos c] at hz;split at hz <;> omega
def bI (f:List Nat) (V V':aa):Prop:=∀ b x,b ∉ f->V b=some x->V' b=some x
theorem bI.refl {f:List Nat} {V:aa}:bI f V V:=fun _ _ _ h=>h
theorem bI.trans {f:List Nat} {V V1 V2:aa} (h:bI f V V1) (k:bI f V1 V2):bI f V V2:=fun b x hb hx=>k b x hb (h b x hb hx)
theorem bI.of_le {f:List Nat} {V V':aa} (h:V.le V'):bI f V V':=fun b x _ hx=>h b x hx
theorem bI.sub {f g:List Nat} {V V':aa} (h:bI f V V') (hs:∀ b∈f,b∈g):bI g V V':=fun b x hb hx=>h b x (fun hm=>hb (hs b hm)) hx
theorem bI.aB {f:List Nat} {V:aa} {b:Nat} {x} (h:b∈f):bI f V (aB V b x):=fun k y hk hy=>by
 simp only [Sx.aB];rw [if_neg (fun e=>hk (by rw [e]; exact h))]; exact hy
theorem FV {f:List Nat} {V V1 V2:aa} (h:V.le V1) (hf:∀ b∈f,V b=none) (k:bI f V1 V2):V.le V2:=fun b x hx=>k b x (fun hm=>by rw [hf b hm] at hx; cases hx) (h b x hx)
theorem Rp.WR {sh:List Sc} {α:Type} (r:Rp sh α) {V V':aa} {c:aH sh} {x:α} {fp f:List Nat} (h:r.R V c x fp) (hd:∀ b∈fp,b ∉ f) (k:bI f V V'):r.R V' c x fp :=
 r.loc h fun b hb=>by obtain⟨y,hy⟩:=r.kn h b hb; rw [hy]; exact k b y (hd b hb) hy
theorem LR.WR {sh:List Sc} {α:Type} {r:Rp sh α} {V V':aa} {s:ar} {l:List α} {fp f:List Nat} (h:LR r V s l fp) (hd:∀ b∈fp,b ∉ f) (k:bI f V V'):LR r V' s l fp :=
 h.loc fun b hb=>by obtain⟨y,hy⟩:=h.kn b hb; rw [hy]; exact k b y (hd b hb) hy
theorem LR.put {V:aa} {s:ar} {l:List aI} {f:List Nat} (h:LR rI V s l f) (hw:Wr V f) {i:Nat} (hi:i<l.length) (x:Int) :
  ∃ b o cs u,s.a=some ⟨b,o,none⟩/\V b=some (cs,(u,(0,0)))/\o+i*1+1<=cs.length/\b∈f/\LR rI (aB V b (aX cs (o+i*1) [.int .i64 x],(u,(0,0)))) s (l.set i (x,())) f/\Wr (aB V b (aX cs (o+i*1) [.int .i64 x],(u,(0,0)))) f:=by
 obtain⟨h1,h2,h3,h4⟩:=h;rcases h4 with ⟨h0,_,_⟩ | ⟨b,pre,post,t,fps,cs,k1,k2,k3,rfl⟩
 ·omega
 obtain⟨rfl,rfl⟩:=oq k3;obtain⟨c',t',hk⟩:=hw b (by simp);rw [k2] at hk;simp only [Option.some.injEq,Prod.mk.injEq] at hk;obtain⟨rfl,rfl⟩:=hk;refine⟨b,pre.length,_,t',k1,k2,?_,by simp,⟨by simp; exact h1,h2,h3,.inr ⟨b,pre,post,(t',(0,0)),[],cs.set i (x,()),k1,?_,uq _,rfl⟩⟩,?_⟩
 ·rw [lE]
  simp;omega
 ·rw [av,lE,lE]
  have e1:pre++(cs.map ag++post)=(pre++(cs.take i).map ag)++((cs.drop i).map ag++post):=by
   rw [List.append_assoc,<- List.append_assoc ((cs.take i).map ag),<- List.map_append,List.take_append_drop]
  have e3:(cs.drop i).map ag++post=ag cs[i] :: ((cs.drop (i+1)).map ag++post):=by rw [List.drop_eq_getElem_cons hi]; rfl
  have e2:cs.set i (x,())=cs.take i++(x,()) :: cs.drop (i+1):=by
   rw [List.set_eq_take_append_cons_drop,if_pos hi]
  rw [e1,e3,iL (by simp; omega) (by simp),e2]
  simp only [List.length_singleton,List.drop_succ_cons,List.drop_zero,List.map_append,List.map_cons,List.append_assoc,List.cons_append,List.nil_append]
  rfl
 intro b' gx;simp at gx;subst gx;exact⟨_,_,av⟩
end Go.Proofs.YtahmmgiiojjhgaaGreatDoor
