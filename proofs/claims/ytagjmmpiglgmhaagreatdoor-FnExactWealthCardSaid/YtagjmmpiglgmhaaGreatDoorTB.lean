/-
  What each function of the seat comes to, as a tree; each tree is checked against the code.
-/
import Derived.Test.YtagjmmpiglgmhaaGreatDoorTA
namespace Go.Proofs.YtagjmmpiglgmhaaGreatDoor
open Sx
set_option maxRecDepth 100000
def aL_toAcct:An:=⟨[],[],[]⟩
noncomputable def tL_toAcct (x0:ByteArray × ByteArray × Bool × SlV × PUnit):T :=
 .call false 10 [Sh1.val (.g [.s,.b,.l]) (x0.2)] (.v (.g [.s,.b,.l])) fun y1 =>
 .ret [Sh1.val (.g [.s,.s,.b,.l]) ((x0.1),(y1.1),(y1.2.1),y1.2.2.1,())]
theorem fL_toAcct (x0:ByteArray × ByteArray × Bool × SlV × PUnit):fits Tryz.prog aL_toAcct 146 [Sh1.val (.g [.s,.s,.b,.l]) (x0)] (tL_toAcct x0) :=
 fitK (by kernel_rfl)
def aL_toRat:An:=⟨[],[],[]⟩
noncomputable def tL_toRat (x0:Bool × SlV × SlV × PUnit):T :=
 .call false 40 [Sh1.val (.g [.b,.l]) ((x0.1),x0.2.1,())] (.v (.g [.b,.l])) fun y1 =>
 .call false 77 [Sc.val .l (x0.2.2.1)] (.v (.o (.l))) fun y2 =>
 .ret [Sh1.val (.g [.b,.l,.l]) ((y1.1),y1.2.1,y2,())]
theorem fL_toRat (x0:Bool × SlV × SlV × PUnit):fits Tryz.prog aL_toRat 147 [Sh1.val (.g [.b,.l,.l]) (x0)] (tL_toRat x0) :=
 fitK (by kernel_rfl)
def aI_IsWord:An:=⟨[(4,[.s 3],[.o (.o (.i .i64))])],[],[]⟩
noncomputable def tI_IsWord (x0:ByteArray):T :=
 .br (decide ((↑x0.size:Int)<(1:Int))) (
  .ret [.bool (false)]) <|
 .br (decide ((↑x0.size:Int) > (12:Int))) (
  .ret [.bool (false)]) <|
 .rq ((0:Int)≤(0:Int)∧(0:Int)<(↑x0.size:Int)) <|
 .call false 189 [.int .u8 (at0 x0 (Int.toNat (0:Int)))] (.v (.o (.b))) fun y1 =>
 .br (!y1) (
  .ret [.bool (false)]) <|
 .lp [.o (.o (.i .i64))] [.v (.int .i64 ((1:Int)))] fun y2 =>
 .br (decide (y2.1<(↑x0.size:Int))) (
  .rq ((0:Int)≤y2.1∧y2.1<(↑x0.size:Int)) <|
  .call false 189 [.int .u8 (at0 x0 (Int.toNat y2.1))] (.v (.o (.b))) fun y3 =>
  .br (!y3) (
   .rq ((0:Int)≤y2.1∧y2.1<(↑x0.size:Int)) <|
   .call false 190 [.int .u8 (at0 x0 (Int.toNat y2.1))] (.v (.o (.b))) fun y4 =>
   .br (!y4) (
    .ret [.bool (false)]) <|
   .nx 0 [.v (.int .i64 (IntKind.i64.wrap (y2.1+(1:Int))))]) <|
  .nx 0 [.v (.int .i64 (IntKind.i64.wrap (y2.1+(1:Int))))]) <|
 .ret [.bool (true)]
theorem fI_IsWord (x0:ByteArray):fits Tryz.prog aI_IsWord 148 [.string (x0)] (tI_IsWord x0) :=
 fitK (by kernel_rfl)
def aI_RatOk:An:=⟨[],[],[]⟩
noncomputable def tI_RatOk (x0:Bool × SlV × SlV × PUnit):T :=
 .call false 167 [Sh1.val (.g [.b,.l]) ((x0.1),x0.2.1,())] (.v (.o (.b))) fun y1 =>
 .br (!y1) (
  .ret [.bool (false)]) <|
 .call false 191 [Sc.val .l (x0.2.2.1)] (.v (.o (.b))) fun y2 =>
 .br (!y2) (
  .ret [.bool (false)]) <|
 .br ((↑x0.2.2.1.n:Int) == (0:Int)) (
  .ret [.bool (false)]) <|
 .br (decide ((↑x0.2.2.1.n:Int) > (18:Int))) (
  .ret [.bool (false)]) <|
 .br (decide ((↑x0.2.1.n:Int) > (18:Int))) (
  .ret [.bool (false)]) <|
 .call false 175 [Sc.val .l (x0.2.1),Sc.val .l (x0.2.2.1)] (.v (.o (.l))) fun y3 =>
 .br ((↑y3.n:Int) == (1:Int)) (
  .el (y3.a) (y3.n) ((0:Int)) fun y4 =>
  .ld false (y4.add (Int.toNat (0:Int)*(1:Nat))) (.o (.i .i64)) fun y5 =>
  .ret [.bool (y5 == (1:Int))]) <|
 .ret [.bool (false)]
theorem fI_RatOk (x0:Bool × SlV × SlV × PUnit):fits Tryz.prog aI_RatOk 149 [Sh1.val (.g [.b,.l,.l]) (x0)] (tI_RatOk x0) :=
 fitK (by kernel_rfl)
def aI_RatSign:An:=⟨[],[],[]⟩
noncomputable def tI_RatSign (x0:Bool × SlV × SlV × PUnit):T :=
 .call false 149 [Sh1.val (.g [.b,.l,.l]) (x0)] (.v (.o (.b))) fun y1 =>
 .br (!y1) (
  .ret [.int .i64 ((0:Int))]) <|
 .call false 192 [Sh1.val (.g [.b,.l]) ((x0.1),x0.2.1,())] (.v (.o (.i .i64))) fun y2 =>
 .ret [.int .i64 (y2)]
theorem fI_RatSign (x0:Bool × SlV × SlV × PUnit):fits Tryz.prog aI_RatSign 150 [Sh1.val (.g [.b,.l,.l]) (x0)] (tI_RatSign x0) :=
 fitK (by kernel_rfl)
def aI_RateOk:An:=⟨[],[],[]⟩
noncomputable def tI_RateOk (x0:ByteArray × ByteArray × Bool × SlV × Int × PUnit):T :=
 .call false 124 [.string (x0.1)] (.v (.o (.b))) fun y1 =>
 .br (y1) (
  .call false 124 [.string (x0.2.1)] (.v (.o (.b))) fun y2 =>
  .br (y2) (
   .br (!ByteArray.toList x0.1 == ByteArray.toList x0.2.1) (
    .call false 193 [Sh1.val (.g [.b,.l,.i .i64]) (x0.2.2)] (.v (.o (.b))) fun y3 =>
    .br (y3) (
     .call false 192 [Sh1.val (.g [.b,.l]) ((x0.2.2.1),x0.2.2.2.1,())] (.v (.o (.i .i64))) fun y4 =>
     .br (decide (y4 > (0:Int))) (
      .ret [.bool (decide ((↑x0.2.2.2.1.n:Int)≤(2:Int)))]) <|
     .ret [.bool (false)]) <|
    .ret [.bool (false)]) <|
   .ret [.bool (false)]) <|
  .ret [.bool (false)]) <|
 .ret [.bool (false)]
theorem fI_RateOk (x0:ByteArray × ByteArray × Bool × SlV × Int × PUnit):fits Tryz.prog aI_RateOk 151 [Sh1.val (.g [.s,.s,.b,.l,.i .i64]) (x0)] (tI_RateOk x0) :=
 fitK (by kernel_rfl)
def aL_eqAcct:An:=⟨[],[],[]⟩
noncomputable def tL_eqAcct (x0:ByteArray × ByteArray × Bool × SlV × PUnit) (x1:ByteArray × ByteArray × Bool × SlV × PUnit):T :=
 .br (!ByteArray.toList x0.1 == ByteArray.toList x1.1) (
  .ret [.bool (false)]) <|
 .call false 12 [Sh1.val (.g [.s,.b,.l]) (x0.2),Sh1.val (.g [.s,.b,.l]) (x1.2)] (.v (.o (.b))) fun y1 =>
 .br (!y1) (
  .ret [.bool (false)]) <|
 .ret [.bool (true)]
theorem fL_eqAcct (x0:ByteArray × ByteArray × Bool × SlV × PUnit) (x1:ByteArray × ByteArray × Bool × SlV × PUnit):fits Tryz.prog aL_eqAcct 152 [Sh1.val (.g [.s,.s,.b,.l]) (x0),Sh1.val (.g [.s,.s,.b,.l]) (x1)] (tL_eqAcct x0 x1) :=
 fitK (by kernel_rfl)
def aS_l08Table:An:=⟨[],[],[]⟩
noncomputable def tS_l08Table :T :=
 .fz ((20:Nat)) [.string ({ data:={ toList:=[(65:UInt8),(85:UInt8),(68:UInt8)]:Array UInt8 }:ByteArray }),.string ({ data:={ toList:=[(48:UInt8),(51:UInt8),(54:UInt8)]:Array UInt8 }:ByteArray }),.int .i64 ((2:Int)),.int .i64 ((5:Int)),.string ({ data:={ toList:=[(66:UInt8),(72:UInt8),(68:UInt8)]:Array UInt8 }:ByteArray }),.string ({ data:={ toList:=[(48:UInt8),(52:UInt8),(56:UInt8)]:Array UInt8 }:ByteArray }),.int .i64 ((3:Int)),.int .i64 ((5:Int)),.string ({ data:={ toList:=[(67:UInt8),(65:UInt8),(68:UInt8)]:Array UInt8 }:ByteArray }),.string ({ data:={ toList:=[(49:UInt8),(50:UInt8),(52:UInt8)]:Array UInt8 }:ByteArray }),.int .i64 ((2:Int)),.int .i64 ((5:Int)),.string ({ data:={ toList:=[(67:UInt8),(72:UInt8),(70:UInt8)]:Array UInt8 }:ByteArray }),.string ({ data:={ toList:=[(55:UInt8),(53:UInt8),(54:UInt8)]:Array UInt8 }:ByteArray }),.int .i64 ((2:Int)),.int .i64 ((5:Int)),.string ({ data:={ toList:=[(67:UInt8),(76:UInt8),(70:UInt8)]:Array UInt8 }:ByteArray }),.string ({ data:={ toList:=[(57:UInt8),(57:UInt8),(48:UInt8)]:Array UInt8 }:ByteArray }),.int .i64 ((4:Int)),.int .i64 ((1:Int)),.string ({ data:={ toList:=[(67:UInt8),(90:UInt8),(75:UInt8)]:Array UInt8 }:ByteArray }),.string ({ data:={ toList:=[(50:UInt8),(48:UInt8),(51:UInt8)]:Array UInt8 }:ByteArray }),.int .i64 ((2:Int)),.int .i64 ((100:Int)),.string ({ data:={ toList:=[(68:UInt8),(75:UInt8),(75:UInt8)]:Array UInt8 }:ByteArray }),.string ({ data:={ toList:=[(50:UInt8),(48:UInt8),(56:UInt8)]:Array UInt8 }:ByteArray }),.int .i64 ((2:Int)),.int .i64 ((50:Int)),.string ({ data:={ toList:=[(69:UInt8),(85:UInt8),(82:UInt8)]:Array UInt8 }:ByteArray }),.string ({ data:={ toList:=[(57:UInt8),(55:UInt8),(56:UInt8)]:Array UInt8 }:ByteArray }),.int .i64 ((2:Int)),.int .i64 ((1:Int)),.string ({ data:={ toList:=[(71:UInt8),(66:UInt8),(80:UInt8)]:Array UInt8 }:ByteArray }),.string ({ data:={ toList:=[(56:UInt8),(50:UInt8),(54:UInt8)]:Array UInt8 }:ByteArray }),.int .i64 ((2:Int)),.int .i64 ((1:Int)),.string ({ data:={ toList:=[(72:UInt8),(85:UInt8),(70:UInt8)]:Array UInt8 }:ByteArray }),.string ({ data:={ toList:=[(51:UInt8),(52:UInt8),(56:UInt8)]:Array UInt8 }:ByteArray }),.int .i64 ((2:Int)),.int .i64 ((500:Int)),.string ({ data:={ toList:=[(73:UInt8),(83:UInt8),(75:UInt8)]:Array UInt8 }:ByteArray }),.string ({ data:={ toList:=[(51:UInt8),(53:UInt8),(50:UInt8)]:Array UInt8 }:ByteArray }),.int .i64 ((0:Int)),.int .i64 ((1:Int)),.string ({ data:={ toList:=[(74:UInt8),(80:UInt8),(89:UInt8)]:Array UInt8 }:ByteArray }),.string ({ data:={ toList:=[(51:UInt8),(57:UInt8),(50:UInt8)]:Array UInt8 }:ByteArray }),.int .i64 ((0:Int)),.int .i64 ((1:Int)),.string ({ data:={ toList:=[(75:UInt8),(82:UInt8),(87:UInt8)]:Array UInt8 }:ByteArray }),.string ({ data:={ toList:=[(52:UInt8),(49:UInt8),(48:UInt8)]:Array UInt8 }:ByteArray }),.int .i64 ((0:Int)),.int .i64 ((10:Int)),.string ({ data:={ toList:=[(75:UInt8),(87:UInt8),(68:UInt8)]:Array UInt8 }:ByteArray }),.string ({ data:={ toList:=[(52:UInt8),(49:UInt8),(52:UInt8)]:Array UInt8 }:ByteArray }),.int .i64 ((3:Int)),.int .i64 ((5:Int)),.string ({ data:={ toList:=[(78:UInt8),(79:UInt8),(75:UInt8)]:Array UInt8 }:ByteArray }),.string ({ data:={ toList:=[(53:UInt8),(55:UInt8),(56:UInt8)]:Array UInt8 }:ByteArray }),.int .i64 ((2:Int)),.int .i64 ((100:Int)),.string ({ data:={ toList:=[(78:UInt8),(90:UInt8),(68:UInt8)]:Array UInt8 }:ByteArray }),.string ({ data:={ toList:=[(53:UInt8),(53:UInt8),(52:UInt8)]:Array UInt8 }:ByteArray }),.int .i64 ((2:Int)),.int .i64 ((10:Int)),.string ({ data:={ toList:=[(80:UInt8),(76:UInt8),(78:UInt8)]:Array UInt8 }:ByteArray }),.string ({ data:={ toList:=[(57:UInt8),(56:UInt8),(53:UInt8)]:Array UInt8 }:ByteArray }),.int .i64 ((2:Int)),.int .i64 ((1:Int)),.string ({ data:={ toList:=[(83:UInt8),(69:UInt8),(75:UInt8)]:Array UInt8 }:ByteArray }),.string ({ data:={ toList:=[(55:UInt8),(53:UInt8),(50:UInt8)]:Array UInt8 }:ByteArray }),.int .i64 ((2:Int)),.int .i64 ((100:Int)),.string ({ data:={ toList:=[(84:UInt8),(78:UInt8),(68:UInt8)]:Array UInt8 }:ByteArray }),.string ({ data:={ toList:=[(55:UInt8),(56:UInt8),(56:UInt8)]:Array UInt8 }:ByteArray }),.int .i64 ((3:Int)),.int .i64 ((10:Int)),.string ({ data:={ toList:=[(85:UInt8),(83:UInt8),(68:UInt8)]:Array UInt8 }:ByteArray }),.string ({ data:={ toList:=[(56:UInt8),(52:UInt8),(48:UInt8)]:Array UInt8 }:ByteArray }),.int .i64 ((2:Int)),.int .i64 ((1:Int))] 163 fun b1 c1 =>
 .ret [.slice (some { block:=b1,off:=(0:Nat):Addr }) ((20:Nat)) (c1)]
theorem fS_l08Table :fits Tryz.prog aS_l08Table 153 [] (tS_l08Table ) :=
 fitK (by kernel_rfl)
def aS_DecOk:An:=⟨[],[],[]⟩
noncomputable def tS_DecOk (x0:Bool × SlV × Int × PUnit):T :=
 .call false 67 [Sh1.val (.g [.b,.l]) ((x0.1),x0.2.1,())] (.v (.o (.b))) fun y1 =>
 .br (y1) (
  .br (decide ((↑x0.2.1.n:Int)≤(6:Int))) (
   .call false 107 [.int .i64 (x0.2.2.1),.int .i64 ((0:Int)),.int .i64 ((30:Int))] (.v (.o (.b))) fun y2 =>
   .ret [.bool (y2)]) <|
  .ret [.bool (false)]) <|
 .ret [.bool (false)]
theorem fS_DecOk (x0:Bool × SlV × Int × PUnit):fits Tryz.prog aS_DecOk 154 [Sh1.val (.g [.b,.l,.i .i64]) (x0)] (tS_DecOk x0) :=
 fitK (by kernel_rfl)
def aS_IntSign:An:=⟨[],[],[]⟩
noncomputable def tS_IntSign (x0:Bool × SlV × PUnit):T :=
 .call false 194 [Sh1.val (.g [.b,.l]) (x0),Sh1.val (.g [.b,.l]) ((false),nilS,())] (.v (.o (.i .i64))) fun y1 =>
 .ret [.int .i64 (y1)]
theorem fS_IntSign (x0:Bool × SlV × PUnit):fits Tryz.prog aS_IntSign 155 [Sh1.val (.g [.b,.l]) (x0)] (tS_IntSign x0) :=
 fitK (by kernel_rfl)
def aS_IntOf:An:=⟨[],[],[]⟩
noncomputable def tS_IntOf (x0:Int):T :=
 .br (x0 == (-9223372036854775808:Int)) (
  .fz ((3:Nat)) [.int .i64 ((854775808:Int)),.int .i64 ((223372036:Int)),.int .i64 ((9:Int))] 3 fun b1 c1 =>
  .call false 80 [.bool (true),.slice (some { block:=b1,off:=(0:Nat):Addr }) ((3:Nat)) (c1)] (.v (.g [.b,.l])) fun y2 =>
  .ret [Sh1.val (.g [.b,.l]) (y2)]) <|
 .br (decide (x0<(0:Int))) (
  .call false 164 [.int .i64 (IntKind.i64.wrap ((0:Int)-x0))] (.v (.o (.l))) fun y1 =>
  .call false 80 [.bool (true),Sc.val .l (y1)] (.v (.g [.b,.l])) fun y2 =>
  .ret [Sh1.val (.g [.b,.l]) (y2)]) <|
 .call false 164 [.int .i64 (x0)] (.v (.o (.l))) fun y1 =>
 .call false 80 [.bool (false),Sc.val .l (y1)] (.v (.g [.b,.l])) fun y2 =>
 .ret [Sh1.val (.g [.b,.l]) (y2)]
theorem fS_IntOf (x0:Int):fits Tryz.prog aS_IntOf 156 [.int .i64 (x0)] (tS_IntOf x0) :=
 fitK (by kernel_rfl)
def aS_l10Step:An:=⟨[],[],[]⟩
noncomputable def tS_l10Step (x0:ByteArray × SlV × PUnit) (x1:ByteArray) (x2:ByteArray):T :=
 .call false 106 [Sc.val .l (x0.2.1),.string (x1),.string (x2)] (.v (.o (.i .i64))) fun y1 =>
 .br (decide (y1≥(0:Int))) (
  .el (x0.2.1.a) (x0.2.1.n) (y1) fun y2 =>
  .ld false ((y2.add (y1.toNat*(5:Nat))).add (2:Nat)) (.g [.b,.l,.i .i64]) fun y3 =>
  .call false 195 [Sh1.val (.g [.b,.l,.i .i64]) (y3)] (.v (.g [.b,.l,.l])) fun y4 =>
  .ret [Sh1.val (.g [.b,.l,.l]) (y4)]) <|
 .call false 156 [.int .i64 ((1:Int))] (.v (.g [.b,.l])) fun y2 =>
 .call false 111 [Sh1.val (.g [.b,.l]) (y2)] (.t [(.g [.b,.l,.l]),(.o (.b))]) fun y3 =>
 .rg <|
 .call true 106 [Sc.val .l (x0.2.1),.string (x2),.string (x1)] (.v (.o (.i .i64))) fun y4 =>
 .el (x0.2.1.a) (x0.2.1.n) (y4) fun y5 =>
 .ld true ((y5.add (y4.toNat*(5:Nat))).add (2:Nat)) (.g [.b,.l,.i .i64]) fun y6 =>
 .call true 195 [Sh1.val (.g [.b,.l,.i .i64]) (y6)] (.v (.g [.b,.l,.l])) fun y7 =>
 .call true 109 [Sh1.val (.g [.b,.l,.l]) (y3.1),Sh1.val (.g [.b,.l,.l]) (y7)] (.t [(.g [.b,.l,.l]),(.o (.b))]) fun y8 =>
 .ret [Sh1.val (.g [.b,.l,.l]) (y8.1)]
theorem fS_l10Step (x0:ByteArray × SlV × PUnit) (x1:ByteArray) (x2:ByteArray):fits Tryz.prog aS_l10Step 157 [Sh1.val (.g [.s,.l]) (x0),.string (x1),.string (x2)] (tS_l10Step x0 x1 x2) :=
 fitK (by kernel_rfl)
def aS_l07Ten:An:=⟨[],[],[]⟩
noncomputable def tS_l07Ten (x0:Int):T :=
 .call false 196 [.int .i64 (x0)] (.v (.o (.l))) fun y1 =>
 .ret [Sh1.val (.g [.b,.l]) ((false),y1,())]
theorem fS_l07Ten (x0:Int):fits Tryz.prog aS_l07Ten 158 [.int .i64 (x0)] (tS_l07Ten x0) :=
 fitK (by kernel_rfl)
def aS_CurPlaces:An:=⟨[],[],[]⟩
noncomputable def tS_CurPlaces (x0:ByteArray):T :=
 .call false 103 [.string (x0)] (.v (.g [.s,.s,.i .i64,.i .i64])) fun y1 =>
 .ret [.int .i64 (y1.2.2.1)]
theorem fS_CurPlaces (x0:ByteArray):fits Tryz.prog aS_CurPlaces 159 [.string (x0)] (tS_CurPlaces x0) :=
 fitK (by kernel_rfl)
def aS_RatMake:An:=⟨[],[],[]⟩
noncomputable def tS_RatMake (x0:Bool × SlV × PUnit) (x1:Bool × SlV × PUnit):T :=
 .call false 67 [Sh1.val (.g [.b,.l]) (x0)] (.v (.o (.b))) fun y1 =>
 .br (!y1) (
  .ret [Sh1.val (.g [.b,.l,.l]) ((false),nilS,nilS,()),.bool (false)]) <|
 .call false 67 [Sh1.val (.g [.b,.l]) (x1)] (.v (.o (.b))) fun y2 =>
 .br (!y2) (
  .ret [Sh1.val (.g [.b,.l,.l]) ((false),nilS,nilS,()),.bool (false)]) <|
 .call false 83 [.bool (!x0.1 == x1.1),Sc.val .l (x0.2.1),Sc.val .l (x1.2.1)] (.t [(.g [.b,.l,.l]),(.o (.b))]) fun y3 =>
 .ret [Sh1.val (.g [.b,.l,.l]) (y3.1),.bool (y3.2.1)]
theorem fS_RatMake (x0:Bool × SlV × PUnit) (x1:Bool × SlV × PUnit):fits Tryz.prog aS_RatMake 160 [Sh1.val (.g [.b,.l]) (x0),Sh1.val (.g [.b,.l]) (x1)] (tS_RatMake x0 x1) :=
 fitK (by kernel_rfl)
def aS_l06Round:An:=⟨[],[],[]⟩
noncomputable def tS_l06Round (x0:Bool × SlV × SlV × PUnit) (x1:Int):T :=
 .call false 123 [Sc.val .l (x0.2.1),Sc.val .l (x0.2.2.1)] (.t [(.o (.l)),(.o (.l))]) fun y1 =>
 .br (decide ((↑y1.2.1.n:Int) > (0:Int))) (
  .call false 197 [.bool (x0.1),Sc.val .l (y1.1),Sc.val .l (y1.2.1),Sc.val .l (x0.2.2.1),.int .i64 (x1)] (.v (.o (.b))) fun y2 =>
  .br (y2) (
   .fz ((1:Nat)) [.int .i64 ((1:Int))] 3 fun b3 c3 =>
   .call false 120 [Sc.val .l (y1.1),.slice (some { block:=b3,off:=(0:Nat):Addr }) ((1:Nat)) (c3)] (.v (.o (.l))) fun y4 =>
   .call false 80 [.bool (x0.1),Sc.val .l (y4)] (.v (.g [.b,.l])) fun y5 =>
   .ret [Sh1.val (.g [.b,.l]) (y5)]) <|
  .call false 80 [.bool (x0.1),Sc.val .l (y1.1)] (.v (.g [.b,.l])) fun y3 =>
  .ret [Sh1.val (.g [.b,.l]) (y3)]) <|
 .call false 80 [.bool (x0.1),Sc.val .l (y1.1)] (.v (.g [.b,.l])) fun y2 =>
 .ret [Sh1.val (.g [.b,.l]) (y2)]
theorem fS_l06Round (x0:Bool × SlV × SlV × PUnit) (x1:Int):fits Tryz.prog aS_l06Round 161 [Sh1.val (.g [.b,.l,.l]) (x0),.int .i64 (x1)] (tS_l06Round x0 x1) :=
 fitK (by kernel_rfl)
def aS_RatNeg:An:=⟨[],[],[]⟩
noncomputable def tS_RatNeg (x0:Bool × SlV × SlV × PUnit):T :=
 .call false 79 [Sh1.val (.g [.b,.l,.l]) (x0)] (.v (.o (.b))) fun y1 =>
 .br (!y1) (
  .ret [Sh1.val (.g [.b,.l,.l]) ((false),nilS,nilS,()),.bool (false)]) <|
 .rg <|
 .call true 198 [Sh1.val (.g [.b,.l]) ((x0.1),x0.2.1,())] (.v (.g [.b,.l])) fun y2 =>
 .es [] 3 fun b3 =>
 .ra ({ a:=x0.2.2.1.a,n:=x0.2.2.1.n,c:=x0.2.2.1.c:SlV }) ((1:Nat)) fun y4 =>
 .rq (one y4=true∧x0.2.2.1.n*(8:Nat)≤(140737488355328:Nat)∧x0.2.2.1.n≤(9223372036854775807:Nat)) <|
 .br (decide (x0.2.2.1.n=(0:Nat))) (
  .ret [Sh1.val (.g [.b,.l,.l]) ((y2.1),y2.2.1,(⟨(some { block:=b3,off:=(0:Nat):Addr }),((0:Nat)),((0:Nat))⟩:SlV),()),.bool (true)]) <|
 .fz (x0.2.2.1.n) (y4) 3 fun b5 c5 =>
 .ret [Sh1.val (.g [.b,.l,.l]) ((y2.1),y2.2.1,(⟨(some { block:=b5,off:=(0:Nat):Addr }),(x0.2.2.1.n),(c5)⟩:SlV),()),.bool (true)]
theorem fS_RatNeg (x0:Bool × SlV × SlV × PUnit):fits Tryz.prog aS_RatNeg 162 [Sh1.val (.g [.b,.l,.l]) (x0)] (tS_RatNeg x0) :=
 fitK (by kernel_rfl)
def aS_l03Small:An:=⟨[(4,[.s 6,.s 7,.s 8],[.a 3,.o (.o (.i .i64)),.o (.o (.i .i64))])],[],[]⟩
noncomputable def tS_l03Small (x0:SlV) (x1:Int):T :=
 .rq ((0:Int)≤(↑x0.n:Int)∧(↑x0.n:Int)≤(↑x0.n:Int)∧(↑(8:Nat):Int)*(↑x0.n:Int)≤(281474976710656:Int)∧(↑x0.n:Int)≤(9223372036854775807:Int)) <|
 .lp [.a 3,.o (.o (.i .i64)),.o (.o (.i .i64))] [.a 3 ((↑x0.n:Int).toNat) ((madeCells { toList:=[Value.int IntKind.i64 (0:Int)]:Array Value } ((↑x0.n:Int).toNat*(1:Nat))).toList),.v (.int .i64 ((0:Int))),.v (.int .i64 (IntKind.i64.wrap ((↑x0.n:Int)-(1:Int))))] fun y1 =>
 .br (decide (y1.2.2.1≥(0:Int))) (
  .el (x0.a) (x0.n) (y1.2.2.1) fun y2 =>
  .ld false (y2.add (Int.toNat y1.2.2.1*(1:Nat))) (.o (.i .i64)) fun y3 =>
  .rq (x1≠(0:Int)) <|
  .rq ((0:Int)≤y1.2.2.1∧y1.2.2.1<(↑y1.1.1:Int)) <|
  .rq (Int.toNat y1.2.2.1*(1:Nat)+[Value.int IntKind.i64 (IntKind.i64.wrap ((IntKind.i64.wrap (IntKind.i64.wrap (y1.2.1*(1000000000:Int))+y3)).tdiv x1))].length≤y1.1.2.length) <|
  .rq (x1≠(0:Int)) <|
  .nx 0 [.a 3 (y1.1.1) (setl y1.1.2 (Int.toNat y1.2.2.1*(1:Nat)) [Value.int IntKind.i64 (IntKind.i64.wrap ((IntKind.i64.wrap (IntKind.i64.wrap (y1.2.1*(1000000000:Int))+y3)).tdiv x1))]),.v (.int .i64 ((IntKind.i64.wrap (IntKind.i64.wrap (y1.2.1*(1000000000:Int))+y3)).tmod x1)),.v (.int .i64 (IntKind.i64.wrap (y1.2.2.1-(1:Int))))]) <|
 .fz (y1.1.1) (y1.1.2) 3 fun b2 c2 =>
 .call false 119 [.slice (some { block:=b2,off:=(0:Nat):Addr }) (y1.1.1) (c2)] (.v (.o (.l))) fun y3 =>
 .ret [Sc.val .l (y3),.int .i64 (y1.2.1)]
theorem fS_l03Small (x0:SlV) (x1:Int):fits Tryz.prog aS_l03Small 163 [Sc.val .l (x0),.int .i64 (x1)] (tS_l03Small x0 x1) :=
 fitK (by kernel_rfl)
def aS_NatOf:An:=⟨[(2,[.s 0,.s 3],[.o (.o (.i .i64)),.a 3])],[],[]⟩
noncomputable def tS_NatOf (x0:Int):T :=
 .lp [.o (.o (.i .i64)),.a 3] [.v (.int .i64 (x0)),.a 3 ((0:Nat)) []] fun y1 =>
 .br (decide (y1.1 > (0:Int))) (
  .rq ((1000000000:Int)≠(0:Int)) <|
  .rq ([Value.int IntKind.i64 (Int.tmod y1.1 (1000000000:Int))].length=(1:Nat)*(1:Nat)) <|
  .rq (one [Value.int IntKind.i64 (Int.tmod y1.1 (1000000000:Int))]=true∧(y1.2.1.1+(1:Nat))*(8:Nat)≤(140737488355328:Nat)∧y1.2.1.1+(1:Nat)≤(9223372036854775807:Nat)) <|
  .rq ((1000000000:Int)≠(0:Int)) <|
  .nx 0 [.v (.int .i64 (IntKind.i64.wrap (Int.tdiv y1.1 (1000000000:Int)))),.a 3 (y1.2.1.1+(1:Nat)) (y1.2.1.2++[Value.int IntKind.i64 (Int.tmod y1.1 (1000000000:Int))])]) <|
 .fz (y1.2.1.1) (y1.2.1.2) 3 fun b2 c2 =>
 .ret [.slice (some { block:=b2,off:=(0:Nat):Addr }) (y1.2.1.1) (c2)]
theorem fS_NatOf (x0:Int):fits Tryz.prog aS_NatOf 164 [.int .i64 (x0)] (tS_NatOf x0) :=
 fitK (by kernel_rfl)
def aS_l03Digit:An:=⟨[(3,[.s 5,.s 6],[.o (.o (.i .i64)),.o (.o (.i .i64))])],[],[]⟩
noncomputable def tS_l03Digit (x0:SlV) (x1:SlV):T :=
 .lp [.o (.o (.i .i64)),.o (.o (.i .i64))] [.v (.int .i64 ((0:Int))),.v (.int .i64 ((999999999:Int)))] fun y1 =>
 .br (decide (y1.1<y1.2.1)) (
  .rq ((2:Int)≠(0:Int)) <|
  .call false 164 [.int .i64 (IntKind.i64.wrap ((IntKind.i64.wrap (IntKind.i64.wrap (y1.1+y1.2.1)+(1:Int))).tdiv (2:Int)))] (.v (.o (.l))) fun y2 =>
  .call false 81 [Sc.val .l (x1),Sc.val .l (y2)] (.v (.o (.l))) fun y3 =>
  .call false 116 [Sc.val .l (y3),Sc.val .l (x0)] (.v (.o (.i .i64))) fun y4 =>
  .br (decide (y4≤(0:Int))) (
   .nx 0 [.v (.int .i64 (IntKind.i64.wrap ((IntKind.i64.wrap (IntKind.i64.wrap (y1.1+y1.2.1)+(1:Int))).tdiv (2:Int)))),.v (.int .i64 (y1.2.1))]) <|
  .nx 0 [.v (.int .i64 (y1.1)),.v (.int .i64 (IntKind.i64.wrap (IntKind.i64.wrap ((IntKind.i64.wrap (IntKind.i64.wrap (y1.1+y1.2.1)+(1:Int))).tdiv (2:Int))-(1:Int))))]) <|
 .ret [.int .i64 (y1.1)]
theorem fS_l03Digit (x0:SlV) (x1:SlV):fits Tryz.prog aS_l03Digit 165 [Sc.val .l (x0),Sc.val .l (x1)] (tS_l03Digit x0 x1) :=
 fitK (by kernel_rfl)
def aI_currencyOf:An:=⟨[(2,[.s 7,.c 2 0,.c 2 1,.c 2 2,.c 2 3],[.o (.o (.i .i64)),.o (.o (.s)),.o (.o (.s)),.o (.o (.i .i64)),.o (.o (.i .i64))])],[],[]⟩
noncomputable def tI_currencyOf (x0:ByteArray):T :=
 .ld false ({ block:=(1:Nat),off:=(0:Nat):Addr }) (.g [.s,.s,.i .i64,.i .i64,.s,.s,.i .i64,.i .i64,.s,.s,.i .i64,.i .i64,.s,.s,.i .i64,.i .i64,.s,.s,.i .i64,.i .i64,.s,.s,.i .i64,.i .i64,.s,.s,.i .i64,.i .i64,.s,.s,.i .i64,.i .i64,.s,.s,.i .i64,.i .i64,.s,.s,.i .i64,.i .i64,.s,.s,.i .i64,.i .i64,.s,.s,.i .i64,.i .i64,.s,.s,.i .i64,.i .i64,.s,.s,.i .i64,.i .i64,.s,.s,.i .i64,.i .i64,.s,.s,.i .i64,.i .i64,.s,.s,.i .i64,.i .i64,.s,.s,.i .i64,.i .i64,.s,.s,.i .i64,.i .i64,.s,.s,.i .i64,.i .i64]) fun y1 =>
 .lp [.o (.o (.i .i64)),.o (.o (.s)),.o (.o (.s)),.o (.o (.i .i64)),.o (.o (.i .i64))] [.v (.int .i64 ((0:Int))),.v (.string ({ data:={ toList:=[]:Array UInt8 }:ByteArray })),.v (.string ({ data:={ toList:=[]:Array UInt8 }:ByteArray })),.v (.int .i64 ((0:Int))),.v (.int .i64 ((0:Int)))] fun y2 =>
 .br (decide (y2.1<(20:Int))) (
  .rq ((0:Int)≤y2.1∧y2.1<(↑(20:Nat):Int)) <|
  .xs [.string (y1.1),.string (y1.2.1),.int .i64 (y1.2.2.1),.int .i64 (y1.2.2.2.1),.string (y1.2.2.2.2.1),.string (y1.2.2.2.2.2.1),.int .i64 (y1.2.2.2.2.2.2.1),.int .i64 (y1.2.2.2.2.2.2.2.1),.string (y1.2.2.2.2.2.2.2.2.1),.string (y1.2.2.2.2.2.2.2.2.2.1),.int .i64 (y1.2.2.2.2.2.2.2.2.2.2.1),.int .i64 (y1.2.2.2.2.2.2.2.2.2.2.2.1),.string (y1.2.2.2.2.2.2.2.2.2.2.2.2.1),.string (y1.2.2.2.2.2.2.2.2.2.2.2.2.2.1),.int .i64 (y1.2.2.2.2.2.2.2.2.2.2.2.2.2.2.1),.int .i64 (y1.2.2.2.2.2.2.2.2.2.2.2.2.2.2.2.1),.string (y1.2.2.2.2.2.2.2.2.2.2.2.2.2.2.2.2.1),.string (y1.2.2.2.2.2.2.2.2.2.2.2.2.2.2.2.2.2.1),.int .i64 (y1.2.2.2.2.2.2.2.2.2.2.2.2.2.2.2.2.2.2.1),.int .i64 (y1.2.2.2.2.2.2.2.2.2.2.2.2.2.2.2.2.2.2.2.1),.string (y1.2.2.2.2.2.2.2.2.2.2.2.2.2.2.2.2.2.2.2.2.1),.string (y1.2.2.2.2.2.2.2.2.2.2.2.2.2.2.2.2.2.2.2.2.2.1),.int .i64 (y1.2.2.2.2.2.2.2.2.2.2.2.2.2.2.2.2.2.2.2.2.2.2.1),.int .i64 (y1.2.2.2.2.2.2.2.2.2.2.2.2.2.2.2.2.2.2.2.2.2.2.2.1),.string (y1.2.2.2.2.2.2.2.2.2.2.2.2.2.2.2.2.2.2.2.2.2.2.2.2.1),.string (y1.2.2.2.2.2.2.2.2.2.2.2.2.2.2.2.2.2.2.2.2.2.2.2.2.2.1),.int .i64 (y1.2.2.2.2.2.2.2.2.2.2.2.2.2.2.2.2.2.2.2.2.2.2.2.2.2.2.1),.int .i64 (y1.2.2.2.2.2.2.2.2.2.2.2.2.2.2.2.2.2.2.2.2.2.2.2.2.2.2.2.1),.string (y1.2.2.2.2.2.2.2.2.2.2.2.2.2.2.2.2.2.2.2.2.2.2.2.2.2.2.2.2.1),.string (y1.2.2.2.2.2.2.2.2.2.2.2.2.2.2.2.2.2.2.2.2.2.2.2.2.2.2.2.2.2.1),.int .i64 (y1.2.2.2.2.2.2.2.2.2.2.2.2.2.2.2.2.2.2.2.2.2.2.2.2.2.2.2.2.2.2.1),.int .i64 (y1.2.2.2.2.2.2.2.2.2.2.2.2.2.2.2.2.2.2.2.2.2.2.2.2.2.2.2.2.2.2.2.1),.string (y1.2.2.2.2.2.2.2.2.2.2.2.2.2.2.2.2.2.2.2.2.2.2.2.2.2.2.2.2.2.2.2.2.1),.string (y1.2.2.2.2.2.2.2.2.2.2.2.2.2.2.2.2.2.2.2.2.2.2.2.2.2.2.2.2.2.2.2.2.2.1),.int .i64 (y1.2.2.2.2.2.2.2.2.2.2.2.2.2.2.2.2.2.2.2.2.2.2.2.2.2.2.2.2.2.2.2.2.2.2.1),.int .i64 (y1.2.2.2.2.2.2.2.2.2.2.2.2.2.2.2.2.2.2.2.2.2.2.2.2.2.2.2.2.2.2.2.2.2.2.2.1),.string (y1.2.2.2.2.2.2.2.2.2.2.2.2.2.2.2.2.2.2.2.2.2.2.2.2.2.2.2.2.2.2.2.2.2.2.2.2.1),.string (y1.2.2.2.2.2.2.2.2.2.2.2.2.2.2.2.2.2.2.2.2.2.2.2.2.2.2.2.2.2.2.2.2.2.2.2.2.2.1),.int .i64 (y1.2.2.2.2.2.2.2.2.2.2.2.2.2.2.2.2.2.2.2.2.2.2.2.2.2.2.2.2.2.2.2.2.2.2.2.2.2.2.1),.int .i64 (y1.2.2.2.2.2.2.2.2.2.2.2.2.2.2.2.2.2.2.2.2.2.2.2.2.2.2.2.2.2.2.2.2.2.2.2.2.2.2.2.1),.string (y1.2.2.2.2.2.2.2.2.2.2.2.2.2.2.2.2.2.2.2.2.2.2.2.2.2.2.2.2.2.2.2.2.2.2.2.2.2.2.2.2.1),.string (y1.2.2.2.2.2.2.2.2.2.2.2.2.2.2.2.2.2.2.2.2.2.2.2.2.2.2.2.2.2.2.2.2.2.2.2.2.2.2.2.2.2.1),.int .i64 (y1.2.2.2.2.2.2.2.2.2.2.2.2.2.2.2.2.2.2.2.2.2.2.2.2.2.2.2.2.2.2.2.2.2.2.2.2.2.2.2.2.2.2.1),.int .i64 (y1.2.2.2.2.2.2.2.2.2.2.2.2.2.2.2.2.2.2.2.2.2.2.2.2.2.2.2.2.2.2.2.2.2.2.2.2.2.2.2.2.2.2.2.1),.string (y1.2.2.2.2.2.2.2.2.2.2.2.2.2.2.2.2.2.2.2.2.2.2.2.2.2.2.2.2.2.2.2.2.2.2.2.2.2.2.2.2.2.2.2.2.1),.string (y1.2.2.2.2.2.2.2.2.2.2.2.2.2.2.2.2.2.2.2.2.2.2.2.2.2.2.2.2.2.2.2.2.2.2.2.2.2.2.2.2.2.2.2.2.2.1),.int .i64 (y1.2.2.2.2.2.2.2.2.2.2.2.2.2.2.2.2.2.2.2.2.2.2.2.2.2.2.2.2.2.2.2.2.2.2.2.2.2.2.2.2.2.2.2.2.2.2.1),.int .i64 (y1.2.2.2.2.2.2.2.2.2.2.2.2.2.2.2.2.2.2.2.2.2.2.2.2.2.2.2.2.2.2.2.2.2.2.2.2.2.2.2.2.2.2.2.2.2.2.2.1),.string (y1.2.2.2.2.2.2.2.2.2.2.2.2.2.2.2.2.2.2.2.2.2.2.2.2.2.2.2.2.2.2.2.2.2.2.2.2.2.2.2.2.2.2.2.2.2.2.2.2.1),.string (y1.2.2.2.2.2.2.2.2.2.2.2.2.2.2.2.2.2.2.2.2.2.2.2.2.2.2.2.2.2.2.2.2.2.2.2.2.2.2.2.2.2.2.2.2.2.2.2.2.2.1),.int .i64 (y1.2.2.2.2.2.2.2.2.2.2.2.2.2.2.2.2.2.2.2.2.2.2.2.2.2.2.2.2.2.2.2.2.2.2.2.2.2.2.2.2.2.2.2.2.2.2.2.2.2.2.1),.int .i64 (y1.2.2.2.2.2.2.2.2.2.2.2.2.2.2.2.2.2.2.2.2.2.2.2.2.2.2.2.2.2.2.2.2.2.2.2.2.2.2.2.2.2.2.2.2.2.2.2.2.2.2.2.1),.string (y1.2.2.2.2.2.2.2.2.2.2.2.2.2.2.2.2.2.2.2.2.2.2.2.2.2.2.2.2.2.2.2.2.2.2.2.2.2.2.2.2.2.2.2.2.2.2.2.2.2.2.2.2.1),.string (y1.2.2.2.2.2.2.2.2.2.2.2.2.2.2.2.2.2.2.2.2.2.2.2.2.2.2.2.2.2.2.2.2.2.2.2.2.2.2.2.2.2.2.2.2.2.2.2.2.2.2.2.2.2.1),.int .i64 (y1.2.2.2.2.2.2.2.2.2.2.2.2.2.2.2.2.2.2.2.2.2.2.2.2.2.2.2.2.2.2.2.2.2.2.2.2.2.2.2.2.2.2.2.2.2.2.2.2.2.2.2.2.2.2.1),.int .i64 (y1.2.2.2.2.2.2.2.2.2.2.2.2.2.2.2.2.2.2.2.2.2.2.2.2.2.2.2.2.2.2.2.2.2.2.2.2.2.2.2.2.2.2.2.2.2.2.2.2.2.2.2.2.2.2.2.1),.string (y1.2.2.2.2.2.2.2.2.2.2.2.2.2.2.2.2.2.2.2.2.2.2.2.2.2.2.2.2.2.2.2.2.2.2.2.2.2.2.2.2.2.2.2.2.2.2.2.2.2.2.2.2.2.2.2.2.1),.string (y1.2.2.2.2.2.2.2.2.2.2.2.2.2.2.2.2.2.2.2.2.2.2.2.2.2.2.2.2.2.2.2.2.2.2.2.2.2.2.2.2.2.2.2.2.2.2.2.2.2.2.2.2.2.2.2.2.2.1),.int .i64 (y1.2.2.2.2.2.2.2.2.2.2.2.2.2.2.2.2.2.2.2.2.2.2.2.2.2.2.2.2.2.2.2.2.2.2.2.2.2.2.2.2.2.2.2.2.2.2.2.2.2.2.2.2.2.2.2.2.2.2.1),.int .i64 (y1.2.2.2.2.2.2.2.2.2.2.2.2.2.2.2.2.2.2.2.2.2.2.2.2.2.2.2.2.2.2.2.2.2.2.2.2.2.2.2.2.2.2.2.2.2.2.2.2.2.2.2.2.2.2.2.2.2.2.2.1),.string (y1.2.2.2.2.2.2.2.2.2.2.2.2.2.2.2.2.2.2.2.2.2.2.2.2.2.2.2.2.2.2.2.2.2.2.2.2.2.2.2.2.2.2.2.2.2.2.2.2.2.2.2.2.2.2.2.2.2.2.2.2.1),.string (y1.2.2.2.2.2.2.2.2.2.2.2.2.2.2.2.2.2.2.2.2.2.2.2.2.2.2.2.2.2.2.2.2.2.2.2.2.2.2.2.2.2.2.2.2.2.2.2.2.2.2.2.2.2.2.2.2.2.2.2.2.2.1),.int .i64 (y1.2.2.2.2.2.2.2.2.2.2.2.2.2.2.2.2.2.2.2.2.2.2.2.2.2.2.2.2.2.2.2.2.2.2.2.2.2.2.2.2.2.2.2.2.2.2.2.2.2.2.2.2.2.2.2.2.2.2.2.2.2.2.1),.int .i64 (y1.2.2.2.2.2.2.2.2.2.2.2.2.2.2.2.2.2.2.2.2.2.2.2.2.2.2.2.2.2.2.2.2.2.2.2.2.2.2.2.2.2.2.2.2.2.2.2.2.2.2.2.2.2.2.2.2.2.2.2.2.2.2.2.1),.string (y1.2.2.2.2.2.2.2.2.2.2.2.2.2.2.2.2.2.2.2.2.2.2.2.2.2.2.2.2.2.2.2.2.2.2.2.2.2.2.2.2.2.2.2.2.2.2.2.2.2.2.2.2.2.2.2.2.2.2.2.2.2.2.2.2.1),.string (y1.2.2.2.2.2.2.2.2.2.2.2.2.2.2.2.2.2.2.2.2.2.2.2.2.2.2.2.2.2.2.2.2.2.2.2.2.2.2.2.2.2.2.2.2.2.2.2.2.2.2.2.2.2.2.2.2.2.2.2.2.2.2.2.2.2.1),.int .i64 (y1.2.2.2.2.2.2.2.2.2.2.2.2.2.2.2.2.2.2.2.2.2.2.2.2.2.2.2.2.2.2.2.2.2.2.2.2.2.2.2.2.2.2.2.2.2.2.2.2.2.2.2.2.2.2.2.2.2.2.2.2.2.2.2.2.2.2.1),.int .i64 (y1.2.2.2.2.2.2.2.2.2.2.2.2.2.2.2.2.2.2.2.2.2.2.2.2.2.2.2.2.2.2.2.2.2.2.2.2.2.2.2.2.2.2.2.2.2.2.2.2.2.2.2.2.2.2.2.2.2.2.2.2.2.2.2.2.2.2.2.1),.string (y1.2.2.2.2.2.2.2.2.2.2.2.2.2.2.2.2.2.2.2.2.2.2.2.2.2.2.2.2.2.2.2.2.2.2.2.2.2.2.2.2.2.2.2.2.2.2.2.2.2.2.2.2.2.2.2.2.2.2.2.2.2.2.2.2.2.2.2.2.1),.string (y1.2.2.2.2.2.2.2.2.2.2.2.2.2.2.2.2.2.2.2.2.2.2.2.2.2.2.2.2.2.2.2.2.2.2.2.2.2.2.2.2.2.2.2.2.2.2.2.2.2.2.2.2.2.2.2.2.2.2.2.2.2.2.2.2.2.2.2.2.2.1),.int .i64 (y1.2.2.2.2.2.2.2.2.2.2.2.2.2.2.2.2.2.2.2.2.2.2.2.2.2.2.2.2.2.2.2.2.2.2.2.2.2.2.2.2.2.2.2.2.2.2.2.2.2.2.2.2.2.2.2.2.2.2.2.2.2.2.2.2.2.2.2.2.2.2.1),.int .i64 (y1.2.2.2.2.2.2.2.2.2.2.2.2.2.2.2.2.2.2.2.2.2.2.2.2.2.2.2.2.2.2.2.2.2.2.2.2.2.2.2.2.2.2.2.2.2.2.2.2.2.2.2.2.2.2.2.2.2.2.2.2.2.2.2.2.2.2.2.2.2.2.2.1),.string (y1.2.2.2.2.2.2.2.2.2.2.2.2.2.2.2.2.2.2.2.2.2.2.2.2.2.2.2.2.2.2.2.2.2.2.2.2.2.2.2.2.2.2.2.2.2.2.2.2.2.2.2.2.2.2.2.2.2.2.2.2.2.2.2.2.2.2.2.2.2.2.2.2.1),.string (y1.2.2.2.2.2.2.2.2.2.2.2.2.2.2.2.2.2.2.2.2.2.2.2.2.2.2.2.2.2.2.2.2.2.2.2.2.2.2.2.2.2.2.2.2.2.2.2.2.2.2.2.2.2.2.2.2.2.2.2.2.2.2.2.2.2.2.2.2.2.2.2.2.2.1),.int .i64 (y1.2.2.2.2.2.2.2.2.2.2.2.2.2.2.2.2.2.2.2.2.2.2.2.2.2.2.2.2.2.2.2.2.2.2.2.2.2.2.2.2.2.2.2.2.2.2.2.2.2.2.2.2.2.2.2.2.2.2.2.2.2.2.2.2.2.2.2.2.2.2.2.2.2.2.1),.int .i64 (y1.2.2.2.2.2.2.2.2.2.2.2.2.2.2.2.2.2.2.2.2.2.2.2.2.2.2.2.2.2.2.2.2.2.2.2.2.2.2.2.2.2.2.2.2.2.2.2.2.2.2.2.2.2.2.2.2.2.2.2.2.2.2.2.2.2.2.2.2.2.2.2.2.2.2.2.1),.string (y1.2.2.2.2.2.2.2.2.2.2.2.2.2.2.2.2.2.2.2.2.2.2.2.2.2.2.2.2.2.2.2.2.2.2.2.2.2.2.2.2.2.2.2.2.2.2.2.2.2.2.2.2.2.2.2.2.2.2.2.2.2.2.2.2.2.2.2.2.2.2.2.2.2.2.2.2.1),.string (y1.2.2.2.2.2.2.2.2.2.2.2.2.2.2.2.2.2.2.2.2.2.2.2.2.2.2.2.2.2.2.2.2.2.2.2.2.2.2.2.2.2.2.2.2.2.2.2.2.2.2.2.2.2.2.2.2.2.2.2.2.2.2.2.2.2.2.2.2.2.2.2.2.2.2.2.2.2.1),.int .i64 (y1.2.2.2.2.2.2.2.2.2.2.2.2.2.2.2.2.2.2.2.2.2.2.2.2.2.2.2.2.2.2.2.2.2.2.2.2.2.2.2.2.2.2.2.2.2.2.2.2.2.2.2.2.2.2.2.2.2.2.2.2.2.2.2.2.2.2.2.2.2.2.2.2.2.2.2.2.2.2.1),.int .i64 (y1.2.2.2.2.2.2.2.2.2.2.2.2.2.2.2.2.2.2.2.2.2.2.2.2.2.2.2.2.2.2.2.2.2.2.2.2.2.2.2.2.2.2.2.2.2.2.2.2.2.2.2.2.2.2.2.2.2.2.2.2.2.2.2.2.2.2.2.2.2.2.2.2.2.2.2.2.2.2.2.1)] (Int.toNat y2.1*(4:Nat)) (.g [.s,.s,.i .i64,.i .i64]) fun y3 =>
  .br (ByteArray.toList y3.1 == x0.toList) (
   .ret [Sh1.val (.g [.s,.s,.i .i64,.i .i64]) (y3),.bool (true)]) <|
  .nx 0 [.v (.int .i64 (IntKind.i64.wrap (y2.1+(1:Int)))),.v (.string (y2.2.1)),.v (.string (y2.2.2.1)),.v (.int .i64 (y2.2.2.2.1)),.v (.int .i64 (y2.2.2.2.2.1))]) <|
 .ret [Sh1.val (.g [.s,.s,.i .i64,.i .i64]) (({ data:={ toList:=[]:Array UInt8 }:ByteArray }),({ data:={ toList:=[]:Array UInt8 }:ByteArray }),(((0:Int)):Int),(((0:Int)):Int),()),.bool (false)]
theorem fI_currencyOf (x0:ByteArray):fits Tryz.prog aI_currencyOf 166 [.string (x0)] (tI_currencyOf x0) :=
 fitK (by kernel_rfl)
def aI_IntOk:An:=⟨[],[],[]⟩
noncomputable def tI_IntOk (x0:Bool × SlV × PUnit):T :=
 .call false 191 [Sc.val .l (x0.2.1)] (.v (.o (.b))) fun y1 =>
 .br (y1) (
  .br (!x0.1) (
   .ret [.bool (true)]) <|
  .ret [.bool (decide ((↑x0.2.1.n:Int) > (0:Int)))]) <|
 .ret [.bool (false)]
theorem fI_IntOk (x0:Bool × SlV × PUnit):fits Tryz.prog aI_IntOk 167 [Sh1.val (.g [.b,.l]) (x0)] (tI_IntOk x0) :=
 fitK (by kernel_rfl)
def aI_Rates__simple:An:=⟨[],[],[]⟩
noncomputable def tI_Rates__simple (x0:ByteArray × SlV × PUnit) (x1:ByteArray) (x2:ByteArray):T :=
 .call false 199 [Sh1.val (.g [.s,.l]) (x0),Sh1.val (.g [.s,.s]) ((x1),(x2),())] (.t [(.g [.b,.l,.i .i64]),(.o (.b))]) fun y1 =>
 .br (y1.2.1) (
  .ret [.int .i64 ((2:Int))]) <|
 .call false 199 [Sh1.val (.g [.s,.l]) (x0),Sh1.val (.g [.s,.s]) ((x2),(x1),())] (.t [(.g [.b,.l,.i .i64]),(.o (.b))]) fun y2 =>
 .br (y2.2.1) (
  .ret [.int .i64 ((3:Int))]) <|
 .ret [.int .i64 ((0:Int))]
theorem fI_Rates__simple (x0:ByteArray × SlV × PUnit) (x1:ByteArray) (x2:ByteArray):fits Tryz.prog aI_Rates__simple 168 [Sh1.val (.g [.s,.l]) (x0),.string (x1),.string (x2)] (tI_Rates__simple x0 x1 x2) :=
 fitK (by kernel_rfl)
def aI_RateOf:An:=⟨[],[],[]⟩
noncomputable def tI_RateOf (x0:ByteArray × SlV × PUnit) (x1:ByteArray) (x2:ByteArray):T :=
 .call false 127 [Sh1.val (.g [.s,.l]) (x0),.string (x1),.string (x2)] (.v (.o (.i .i64))) fun y1 =>
 .br (y1 == (1:Int)) (
  .call false 200 [.int .i64 ((1:Int))] (.v (.g [.b,.l])) fun y2 =>
  .call false 182 [Sh1.val (.g [.b,.l]) (y2)] (.t [(.g [.b,.l,.l]),(.o (.b))]) fun y3 =>
  .ret [Sh1.val (.g [.b,.l,.l]) (y3.1),.bool (y3.2.1)]) <|
 .br (y1 == (2:Int)) (
  .call false 199 [Sh1.val (.g [.s,.l]) (x0),Sh1.val (.g [.s,.s]) ((x1),(x2),())] (.t [(.g [.b,.l,.i .i64]),(.o (.b))]) fun y2 =>
  .call false 201 [Sh1.val (.g [.b,.l,.i .i64]) (y2.1)] (.v (.g [.b,.l,.l])) fun y3 =>
  .ret [Sh1.val (.g [.b,.l,.l]) (y3),.bool (true)]) <|
 .br (y1 == (3:Int)) (
  .call false 199 [Sh1.val (.g [.s,.l]) (x0),Sh1.val (.g [.s,.s]) ((x2),(x1),())] (.t [(.g [.b,.l,.i .i64]),(.o (.b))]) fun y2 =>
  .rg <|
  .call true 200 [.int .i64 ((1:Int))] (.v (.g [.b,.l])) fun y3 =>
  .call true 201 [Sh1.val (.g [.b,.l,.i .i64]) ((y3.1),y3.2.1,(((0:Int)):Int),())] (.v (.g [.b,.l,.l])) fun y4 =>
  .call true 201 [Sh1.val (.g [.b,.l,.i .i64]) (y2.1)] (.v (.g [.b,.l,.l])) fun y5 =>
  .call true 202 [Sh1.val (.g [.b,.l,.l]) (y4),Sh1.val (.g [.b,.l,.l]) (y5)] (.t [(.g [.b,.l,.l]),(.o (.b))]) fun y6 =>
  .ret [Sh1.val (.g [.b,.l,.l]) (y6.1),.bool (y6.2.1)]) <|
 .br (y1 == (4:Int)) (
  .call false 169 [Sh1.val (.g [.s,.l]) (x0),.string (x1),.string (x0.1)] (.t [(.g [.b,.l,.l]),(.o (.b))]) fun y2 =>
  .call false 169 [Sh1.val (.g [.s,.l]) (x0),.string (x0.1),.string (x2)] (.t [(.g [.b,.l,.l]),(.o (.b))]) fun y3 =>
  .br (y2.2.1) (
   .br (y3.2.1) (
    .call false 129 [Sh1.val (.g [.b,.l,.l]) (y2.1),Sh1.val (.g [.b,.l,.l]) (y3.1)] (.t [(.g [.b,.l,.l]),(.o (.b))]) fun y4 =>
    .ret [Sh1.val (.g [.b,.l,.l]) (y4.1),.bool (y4.2.1)]) <|
   .ret [Sh1.val (.g [.b,.l,.l]) ((false),nilS,nilS,()),.bool (false)]) <|
  .ret [Sh1.val (.g [.b,.l,.l]) ((false),nilS,nilS,()),.bool (false)]) <|
 .ret [Sh1.val (.g [.b,.l,.l]) ((false),nilS,nilS,()),.bool (false)]
theorem fI_RateOf (x0:ByteArray × SlV × PUnit) (x1:ByteArray) (x2:ByteArray):fits Tryz.prog aI_RateOf 169 [Sh1.val (.g [.s,.l]) (x0),.string (x1),.string (x2)] (tI_RateOf x0 x1 x2) :=
 fitK (by kernel_rfl)
def aI_natTen:An:=⟨[(4,[.s 4,.s 13],[.o (.o (.i .i64)),.o (.o (.i .i64))])],[],[]⟩
noncomputable def tI_natTen (x0:Int):T :=
 .rq ((9:Int)≠(0:Int)) <|
 .rq ((9:Int)≠(0:Int)) <|
 .rq ((0:Int)≤IntKind.i64.wrap (x0.tdiv (9:Int))∧IntKind.i64.wrap (x0.tdiv (9:Int))≤IntKind.i64.wrap (IntKind.i64.wrap (x0.tdiv (9:Int))+(1:Int))∧(↑(8:Nat):Int)*IntKind.i64.wrap (IntKind.i64.wrap (x0.tdiv (9:Int))+(1:Int))≤(281474976710656:Int)∧IntKind.i64.wrap (IntKind.i64.wrap (x0.tdiv (9:Int))+(1:Int))≤(9223372036854775807:Int)) <|
 .rq ((9:Int)≠(0:Int)) <|
 .lp [.o (.o (.i .i64)),.o (.o (.i .i64))] [.v (.int .i64 ((1:Int))),.v (.int .i64 ((0:Int)))] fun y1 =>
 .br (decide (y1.2.1<x0.tmod (9:Int))) (
  .nx 0 [.v (.int .i64 (IntKind.i64.wrap (y1.1*(10:Int)))),.v (.int .i64 (IntKind.i64.wrap (y1.2.1+(1:Int))))]) <|
 .rq ([(Sh1.o (Sc.i IntKind.i64)).val y1.1].length=(1:Nat)*(1:Nat)) <|
 .rq (one [(Sh1.o (Sc.i IntKind.i64)).val y1.1]=true∧((IntKind.i64.wrap (x0.tdiv (9:Int))).toNat+(1:Nat))*(8:Nat)≤(140737488355328:Nat)∧(IntKind.i64.wrap (x0.tdiv (9:Int))).toNat+(1:Nat)≤(9223372036854775807:Nat)) <|
 .fz ((IntKind.i64.wrap (x0.tdiv (9:Int))).toNat+(1:Nat)) ((madeCells { toList:=[Value.int IntKind.i64 (0:Int)]:Array Value } ((IntKind.i64.wrap (x0.tdiv (9:Int))).toNat*(1:Nat))).toList++[(Sh1.o (Sc.i IntKind.i64)).val y1.1]) 3 fun b2 c2 =>
 .ret [.slice (some { block:=b2,off:=(0:Nat):Addr }) ((IntKind.i64.wrap (x0.tdiv (9:Int))).toNat+(1:Nat)) (c2)]
theorem fI_natTen (x0:Int):fits Tryz.prog aI_natTen 170 [.int .i64 (x0)] (tI_natTen x0) :=
 fitK (by kernel_rfl)
def aI_CurPlaces:An:=⟨[],[],[]⟩
noncomputable def tI_CurPlaces (x0:ByteArray):T :=
 .call false 166 [.string (x0)] (.t [(.g [.s,.s,.i .i64,.i .i64]),(.o (.b))]) fun y1 =>
 .ret [.int .i64 (y1.1.2.2.1)]
theorem fI_CurPlaces (x0:ByteArray):fits Tryz.prog aI_CurPlaces 171 [.string (x0)] (tI_CurPlaces x0) :=
 fitK (by kernel_rfl)
def aI_signed:An:=⟨[],[],[]⟩
noncomputable def tI_signed (x0:Bool) (x1:SlV):T :=
 .br (x0) (
  .ret [Sh1.val (.g [.b,.l]) ((decide ((↑x1.n:Int) > (0:Int))),x1,())]) <|
 .ret [Sh1.val (.g [.b,.l]) ((false),x1,())]
theorem fI_signed (x0:Bool) (x1:SlV):fits Tryz.prog aI_signed 172 [.bool (x0),Sc.val .l (x1)] (tI_signed x0 x1) :=
 fitK (by kernel_rfl)
def aI_intMul:An:=⟨[],[],[]⟩
noncomputable def tI_intMul (x0:Bool × SlV × PUnit) (x1:Bool × SlV × PUnit):T :=
 .rg <|
 .call true 135 [Sc.val .l (x0.2.1),Sc.val .l (x1.2.1)] (.v (.o (.l))) fun y1 =>
 .call true 172 [.bool (!x0.1 == x1.1),Sc.val .l (y1)] (.v (.g [.b,.l])) fun y2 =>
 .ret [Sh1.val (.g [.b,.l]) (y2)]
theorem fI_intMul (x0:Bool × SlV × PUnit) (x1:Bool × SlV × PUnit):fits Tryz.prog aI_intMul 173 [Sh1.val (.g [.b,.l]) (x0),Sh1.val (.g [.b,.l]) (x1)] (tI_intMul x0 x1) :=
 fitK (by kernel_rfl)
def aI_intCopy:An:=⟨[],[],[]⟩
noncomputable def tI_intCopy (x0:Bool × SlV × PUnit):T :=
 .rg <|
 .call true 203 [Sc.val .l (x0.2.1)] (.v (.o (.l))) fun y1 =>
 .ret [Sh1.val (.g [.b,.l]) ((x0.1),y1,())]
theorem fI_intCopy (x0:Bool × SlV × PUnit):fits Tryz.prog aI_intCopy 174 [Sh1.val (.g [.b,.l]) (x0)] (tI_intCopy x0) :=
 fitK (by kernel_rfl)
def aI_natGcd:An:=⟨[(1,[.s 0,.s 1],[.o (.o (.l)),.o (.o (.l))])],[],[]⟩
noncomputable def tI_natGcd (x0:SlV) (x1:SlV):T :=
 .lp [.o (.o (.l)),.o (.o (.l))] [.v (Sc.val .l (x0)),.v (Sc.val .l (x1))] fun y1 =>
 .br (decide ((↑y1.2.1.n:Int) > (0:Int))) (
  .call false 176 [Sc.val .l (y1.1),Sc.val .l (y1.2.1)] (.t [(.o (.l)),(.o (.l))]) fun y2 =>
  .nx 0 [.v (Sc.val .l (y1.2.1)),.v (Sc.val .l (y2.2.1))]) <|
 .call false 203 [Sc.val .l (y1.1)] (.v (.o (.l))) fun y2 =>
 .ret [Sc.val .l (y2)]
theorem fI_natGcd (x0:SlV) (x1:SlV):fits Tryz.prog aI_natGcd 175 [Sc.val .l (x0),Sc.val .l (x1)] (tI_natGcd x0 x1) :=
 fitK (by kernel_rfl)
def aI_natDiv:An:=⟨[(9,[.s 9],[.o (.o (.l))]),(14,[.s 12,.s 13],[.a 3,.o (.o (.i .i64))])],[],[]⟩
noncomputable def tI_natDiv (x0:SlV) (x1:SlV):T :=
 .call false 178 [Sc.val .l (x0),Sc.val .l (x1)] (.v (.o (.i .i64))) fun y1 =>
 .br (decide (y1<(0:Int))) (
  .call false 203 [Sc.val .l (x0)] (.v (.o (.l))) fun y2 =>
  .fz ((0:Nat)) [] 3 fun b3 c3 =>
  .ret [.slice (some { block:=b3,off:=(0:Nat):Addr }) ((0:Nat)) (c3),Sc.val .l (y2)]) <|
 .br ((↑x1.n:Int) == (1:Int)) (
  .el (x1.a) (x1.n) ((0:Int)) fun y2 =>
  .ld false (y2.add (Int.toNat (0:Int)*(1:Nat))) (.o (.i .i64)) fun y3 =>
  .call false 204 [Sc.val .l (x0),.int .i64 (y3)] (.t [(.o (.l)),(.o (.i .i64))]) fun y4 =>
  .call false 205 [.int .i64 (y4.2.1)] (.v (.o (.l))) fun y5 =>
  .ret [Sc.val .l (y4.1),Sc.val .l (y5)]) <|
 .el (x1.a) (x1.n) (IntKind.i64.wrap ((↑x1.n:Int)-(1:Int))) fun y2 =>
 .ld false (y2.add ((IntKind.i64.wrap ((↑x1.n:Int)-(1:Int))).toNat*(1:Nat))) (.o (.i .i64)) fun y3 =>
 .rq (IntKind.i64.wrap (y3+(1:Int))≠(0:Int)) <|
 .fz ((1:Nat)) [.int .i64 (IntKind.i64.wrap (Int.tdiv (1000000000:Int) (IntKind.i64.wrap (y3+(1:Int)))))] 3 fun b4 c4 =>
 .call false 135 [Sc.val .l (x0),.slice (some { block:=b4,off:=(0:Nat):Addr }) ((1:Nat)) (c4)] (.v (.o (.l))) fun y5 =>
 .fz ((1:Nat)) [.int .i64 (IntKind.i64.wrap (Int.tdiv (1000000000:Int) (IntKind.i64.wrap (y3+(1:Int)))))] 3 fun b6 c6 =>
 .call false 135 [Sc.val .l (x1),.slice (some { block:=b6,off:=(0:Nat):Addr }) ((1:Nat)) (c6)] (.v (.o (.l))) fun y7 =>
 .lp [.o (.o (.l))] [.v (Sc.val .l (y5))] fun y8 =>
 .br (decide ((↑y8.1.n:Int)≤(↑x0.n:Int))) (
  .rq ([Value.int IntKind.i64 (0:Int)].length=(1:Nat)*(1:Nat)) <|
  .rq (one [Value.int IntKind.i64 (0:Int)]=true) <|
  .ap ({ a:=y8.1.a,n:=y8.1.n,c:=y8.1.c:SlV }) 1 8 [.int .i64 ((0:Int))] ((1:Nat)) 3 fun y9 =>
  .nx 0 [.v (Sc.val .l (y9))]) <|
 .rq ((0:Int)≤IntKind.i64.wrap ((↑y8.1.n:Int)-(↑y7.n:Int))∧IntKind.i64.wrap ((↑y8.1.n:Int)-(↑y7.n:Int))≤IntKind.i64.wrap ((↑y8.1.n:Int)-(↑y7.n:Int))∧(↑(8:Nat):Int)*IntKind.i64.wrap ((↑y8.1.n:Int)-(↑y7.n:Int))≤(281474976710656:Int)∧IntKind.i64.wrap ((↑y8.1.n:Int)-(↑y7.n:Int))≤(9223372036854775807:Int)) <|
 .lp [.a 3,.o (.o (.i .i64))] [.a 3 ((IntKind.i64.wrap ((↑y8.1.n:Int)-(↑y7.n:Int))).toNat) ((madeCells { toList:=[Value.int IntKind.i64 (0:Int)]:Array Value } ((IntKind.i64.wrap ((↑y8.1.n:Int)-(↑y7.n:Int))).toNat*(1:Nat))).toList),.v (.int .i64 (IntKind.i64.wrap ((↑(IntKind.i64.wrap ((↑y8.1.n:Int)-(↑y7.n:Int))).toNat:Int)-(1:Int))))] fun y9 =>
 .br (decide (y9.2.1≥(0:Int))) (
  .rq ((0:Int)≤y9.2.1∧y9.2.1≤IntKind.i64.wrap (IntKind.i64.wrap (y9.2.1+(↑y7.n:Int))+(1:Int))∧IntKind.i64.wrap (IntKind.i64.wrap (y9.2.1+(↑y7.n:Int))+(1:Int))≤(↑y8.1.c:Int)∧(↑y8.1.c:Int)≤(↑y8.1.c:Int)) <|
  .call false 206 [.slice (if (↑y8.1.c:Int).toNat=Int.toNat y9.2.1 then y8.1.a else Option.map (fun x=>x.add (Int.toNat y9.2.1*Proofs.Tryz.prog.types[(3:Nat)].size)) y8.1.a) ((IntKind.i64.wrap (IntKind.i64.wrap (y9.2.1+(↑y7.n:Int))+(1:Int))).toNat-Int.toNat y9.2.1) ((↑y8.1.c:Int).toNat-Int.toNat y9.2.1),Sc.val .l (y7)] (.v (.o (.i .i64))) fun y10 =>
  .rq ((0:Int)≤y9.2.1∧y9.2.1<(↑y9.1.1:Int)) <|
  .rq (Int.toNat y9.2.1*(1:Nat)+[(Sh1.o (Sc.i IntKind.i64)).val y10].length≤y9.1.2.length) <|
  .nx 1 [.a 3 (y9.1.1) (setl y9.1.2 (Int.toNat y9.2.1*(1:Nat)) [(Sh1.o (Sc.i IntKind.i64)).val y10]),.v (.int .i64 (IntKind.i64.wrap (y9.2.1-(1:Int))))]) <|
 .call false 180 [Sc.val .l (y8.1)] (.v (.o (.l))) fun y10 =>
 .call false 204 [Sc.val .l (y10),.int .i64 (IntKind.i64.wrap (Int.tdiv (1000000000:Int) (IntKind.i64.wrap (y3+(1:Int)))))] (.t [(.o (.l)),(.o (.i .i64))]) fun y11 =>
 .fz (y9.1.1) (y9.1.2) 3 fun b12 c12 =>
 .call false 180 [.slice (some { block:=b12,off:=(0:Nat):Addr }) (y9.1.1) (c12)] (.v (.o (.l))) fun y13 =>
 .ret [Sc.val .l (y13),Sc.val .l (y11.1)]
theorem fI_natDiv (x0:SlV) (x1:SlV):fits Tryz.prog aI_natDiv 176 [Sc.val .l (x0),Sc.val .l (x1)] (tI_natDiv x0 x1) :=
 fitK (by kernel_rfl)
def aI_natAdd:An:=⟨[(4,[.s 5,.s 6,.s 7],[.a 3,.o (.o (.i .i64)),.o (.o (.i .i64))])],[],[]⟩
noncomputable def tI_natAdd (x0:SlV) (x1:SlV):T :=
 .rq ((0:Int)≤(0:Int)∧(0:Int)≤IntKind.i64.wrap ((if (↑x1.n:Int) > (↑x0.n:Int) then (↑x1.n:Int) else (↑x0.n:Int))+(1:Int))∧(↑(8:Nat):Int)*IntKind.i64.wrap ((if (↑x1.n:Int) > (↑x0.n:Int) then (↑x1.n:Int) else (↑x0.n:Int))+(1:Int))≤(281474976710656:Int)∧IntKind.i64.wrap ((if (↑x1.n:Int) > (↑x0.n:Int) then (↑x1.n:Int) else (↑x0.n:Int))+(1:Int))≤(9223372036854775807:Int)) <|
 .lp [.a 3,.o (.o (.i .i64)),.o (.o (.i .i64))] [.a 3 (Int.toNat (0:Int)) [],.v (.int .i64 ((0:Int))),.v (.int .i64 ((0:Int)))] fun y1 =>
 .br (decide (y1.2.2.1<if (↑x1.n:Int) > (↑x0.n:Int) then (↑x1.n:Int) else (↑x0.n:Int))) (
  .br (decide (y1.2.2.1<(↑x0.n:Int))) (
   .el (x0.a) (x0.n) (y1.2.2.1) fun y2 =>
   .ld false (y2.add (Int.toNat y1.2.2.1*(1:Nat))) (.o (.i .i64)) fun y3 =>
   .br (decide (y1.2.2.1<(↑x1.n:Int))) (
    .el (x1.a) (x1.n) (y1.2.2.1) fun y4 =>
    .ld false (y4.add (Int.toNat y1.2.2.1*(1:Nat))) (.o (.i .i64)) fun y5 =>
    .rq ((1000000000:Int)≠(0:Int)) <|
    .rq ([Value.int IntKind.i64 ((IntKind.i64.wrap (IntKind.i64.wrap (y1.2.1+y3)+y5)).tmod (1000000000:Int))].length=(1:Nat)*(1:Nat)) <|
    .rq (one [Value.int IntKind.i64 ((IntKind.i64.wrap (IntKind.i64.wrap (y1.2.1+y3)+y5)).tmod (1000000000:Int))]=true∧(y1.1.1+(1:Nat))*(8:Nat)≤(140737488355328:Nat)∧y1.1.1+(1:Nat)≤(9223372036854775807:Nat)) <|
    .rq ((1000000000:Int)≠(0:Int)) <|
    .nx 0 [.a 3 (y1.1.1+(1:Nat)) (y1.1.2++[Value.int IntKind.i64 ((IntKind.i64.wrap (IntKind.i64.wrap (y1.2.1+y3)+y5)).tmod (1000000000:Int))]),.v (.int .i64 (IntKind.i64.wrap ((IntKind.i64.wrap (IntKind.i64.wrap (y1.2.1+y3)+y5)).tdiv (1000000000:Int)))),.v (.int .i64 (IntKind.i64.wrap (y1.2.2.1+(1:Int))))]) <|
   .rq ((1000000000:Int)≠(0:Int)) <|
   .rq ([Value.int IntKind.i64 ((IntKind.i64.wrap (y1.2.1+y3)).tmod (1000000000:Int))].length=(1:Nat)*(1:Nat)) <|
   .rq (one [Value.int IntKind.i64 ((IntKind.i64.wrap (y1.2.1+y3)).tmod (1000000000:Int))]=true∧(y1.1.1+(1:Nat))*(8:Nat)≤(140737488355328:Nat)∧y1.1.1+(1:Nat)≤(9223372036854775807:Nat)) <|
   .rq ((1000000000:Int)≠(0:Int)) <|
   .nx 0 [.a 3 (y1.1.1+(1:Nat)) (y1.1.2++[Value.int IntKind.i64 ((IntKind.i64.wrap (y1.2.1+y3)).tmod (1000000000:Int))]),.v (.int .i64 (IntKind.i64.wrap ((IntKind.i64.wrap (y1.2.1+y3)).tdiv (1000000000:Int)))),.v (.int .i64 (IntKind.i64.wrap (y1.2.2.1+(1:Int))))]) <|
  .br (decide (y1.2.2.1<(↑x1.n:Int))) (
   .el (x1.a) (x1.n) (y1.2.2.1) fun y2 =>
   .ld false (y2.add (Int.toNat y1.2.2.1*(1:Nat))) (.o (.i .i64)) fun y3 =>
   .rq ((1000000000:Int)≠(0:Int)) <|
   .rq ([Value.int IntKind.i64 ((IntKind.i64.wrap (y1.2.1+y3)).tmod (1000000000:Int))].length=(1:Nat)*(1:Nat)) <|
   .rq (one [Value.int IntKind.i64 ((IntKind.i64.wrap (y1.2.1+y3)).tmod (1000000000:Int))]=true∧(y1.1.1+(1:Nat))*(8:Nat)≤(140737488355328:Nat)∧y1.1.1+(1:Nat)≤(9223372036854775807:Nat)) <|
   .rq ((1000000000:Int)≠(0:Int)) <|
   .nx 0 [.a 3 (y1.1.1+(1:Nat)) (y1.1.2++[Value.int IntKind.i64 ((IntKind.i64.wrap (y1.2.1+y3)).tmod (1000000000:Int))]),.v (.int .i64 (IntKind.i64.wrap ((IntKind.i64.wrap (y1.2.1+y3)).tdiv (1000000000:Int)))),.v (.int .i64 (IntKind.i64.wrap (y1.2.2.1+(1:Int))))]) <|
  .rq ((1000000000:Int)≠(0:Int)) <|
  .rq ([Value.int IntKind.i64 (Int.tmod y1.2.1 (1000000000:Int))].length=(1:Nat)*(1:Nat)) <|
  .rq (one [Value.int IntKind.i64 (Int.tmod y1.2.1 (1000000000:Int))]=true∧(y1.1.1+(1:Nat))*(8:Nat)≤(140737488355328:Nat)∧y1.1.1+(1:Nat)≤(9223372036854775807:Nat)) <|
  .rq ((1000000000:Int)≠(0:Int)) <|
  .nx 0 [.a 3 (y1.1.1+(1:Nat)) (y1.1.2++[Value.int IntKind.i64 (Int.tmod y1.2.1 (1000000000:Int))]),.v (.int .i64 (IntKind.i64.wrap (Int.tdiv y1.2.1 (1000000000:Int)))),.v (.int .i64 (IntKind.i64.wrap (y1.2.2.1+(1:Int))))]) <|
 .rq ([(Sh1.o (Sc.i IntKind.i64)).val y1.2.1].length=(1:Nat)*(1:Nat)) <|
 .rq (one [(Sh1.o (Sc.i IntKind.i64)).val y1.2.1]=true∧(y1.1.1+(1:Nat))*(8:Nat)≤(140737488355328:Nat)∧y1.1.1+(1:Nat)≤(9223372036854775807:Nat)) <|
 .fz (y1.1.1+(1:Nat)) (y1.1.2++[(Sh1.o (Sc.i IntKind.i64)).val y1.2.1]) 3 fun b2 c2 =>
 .call false 180 [.slice (some { block:=b2,off:=(0:Nat):Addr }) (y1.1.1+(1:Nat)) (c2)] (.v (.o (.l))) fun y3 =>
 .ret [Sc.val .l (y3)]
theorem fI_natAdd (x0:SlV) (x1:SlV):fits Tryz.prog aI_natAdd 177 [Sc.val .l (x0),Sc.val .l (x1)] (tI_natAdd x0 x1) :=
 fitK (by kernel_rfl)
def aI_natCmp:An:=⟨[(6,[.s 5],[.o (.o (.i .i64))])],[],[]⟩
noncomputable def tI_natCmp (x0:SlV) (x1:SlV):T :=
 .br ((↑x0.n:Int) != (↑x1.n:Int)) (
  .br (decide ((↑x0.n:Int)<(↑x1.n:Int))) (
   .ret [.int .i64 ((-1:Int))]) <|
  .ret [.int .i64 ((1:Int))]) <|
 .lp [.o (.o (.i .i64))] [.v (.int .i64 (IntKind.i64.wrap ((↑x0.n:Int)-(1:Int))))] fun y1 =>
 .br (decide (y1.1≥(0:Int))) (
  .rg <|
  .el (x0.a) (x0.n) (y1.1) fun y2 =>
  .ld true (y2.add (Int.toNat y1.1*(1:Nat))) (.o (.i .i64)) fun y3 =>
  .el (x1.a) (x1.n) (y1.1) fun y4 =>
  .ld true (y4.add (Int.toNat y1.1*(1:Nat))) (.o (.i .i64)) fun y5 =>
  .br (y3 != y5) (
   .rg <|
   .el (x0.a) (x0.n) (y1.1) fun y6 =>
   .ld true (y6.add (Int.toNat y1.1*(1:Nat))) (.o (.i .i64)) fun y7 =>
   .el (x1.a) (x1.n) (y1.1) fun y8 =>
   .ld true (y8.add (Int.toNat y1.1*(1:Nat))) (.o (.i .i64)) fun y9 =>
   .br (decide (y7<y9)) (
    .ret [.int .i64 ((-1:Int))]) <|
   .ret [.int .i64 ((1:Int))]) <|
  .nx 0 [.v (.int .i64 (IntKind.i64.wrap (y1.1-(1:Int))))]) <|
 .ret [.int .i64 ((0:Int))]
theorem fI_natCmp (x0:SlV) (x1:SlV):fits Tryz.prog aI_natCmp 178 [Sc.val .l (x0),Sc.val .l (x1)] (tI_natCmp x0 x1) :=
 fitK (by kernel_rfl)
def aI_natSub:An:=⟨[(4,[.s 5,.s 6,.s 14],[.a 3,.o (.o (.i .i64)),.o (.o (.i .i64))])],[],[]⟩
noncomputable def tI_natSub (x0:SlV) (x1:SlV):T :=
 .rq ((0:Int)≤(↑x0.n:Int)∧(↑x0.n:Int)≤(↑x0.n:Int)∧(↑(8:Nat):Int)*(↑x0.n:Int)≤(281474976710656:Int)∧(↑x0.n:Int)≤(9223372036854775807:Int)) <|
 .lp [.a 3,.o (.o (.i .i64)),.o (.o (.i .i64))] [.a 3 ((↑x0.n:Int).toNat) ((madeCells { toList:=[Value.int IntKind.i64 (0:Int)]:Array Value } ((↑x0.n:Int).toNat*(1:Nat))).toList),.v (.int .i64 ((0:Int))),.v (.int .i64 ((0:Int)))] fun y1 =>
 .br (decide (y1.2.2.1<(↑x0.n:Int))) (
  .el (x0.a) (x0.n) (y1.2.2.1) fun y2 =>
  .ld false (y2.add (Int.toNat y1.2.2.1*(1:Nat))) (.o (.i .i64)) fun y3 =>
  .br (decide (y1.2.2.1<(↑x1.n:Int))) (
   .el (x1.a) (x1.n) (y1.2.2.1) fun y4 =>
   .ld false (y4.add (Int.toNat y1.2.2.1*(1:Nat))) (.o (.i .i64)) fun y5 =>
   .br (decide (IntKind.i64.wrap (IntKind.i64.wrap (y3-y1.2.1)-y5)<(0:Int))) (
    .rq ((0:Int)≤y1.2.2.1∧y1.2.2.1<(↑y1.1.1:Int)) <|
    .rq (Int.toNat y1.2.2.1*(1:Nat)+[Value.int IntKind.i64 (IntKind.i64.wrap (IntKind.i64.wrap (IntKind.i64.wrap (y3-y1.2.1)-y5)+(1000000000:Int)))].length≤y1.1.2.length) <|
    .nx 0 [.a 3 (y1.1.1) (setl y1.1.2 (Int.toNat y1.2.2.1*(1:Nat)) [Value.int IntKind.i64 (IntKind.i64.wrap (IntKind.i64.wrap (IntKind.i64.wrap (y3-y1.2.1)-y5)+(1000000000:Int)))]),.v (.int .i64 ((1:Int))),.v (.int .i64 (IntKind.i64.wrap (y1.2.2.1+(1:Int))))]) <|
   .rq ((0:Int)≤y1.2.2.1∧y1.2.2.1<(↑y1.1.1:Int)) <|
   .rq (Int.toNat y1.2.2.1*(1:Nat)+[Value.int IntKind.i64 (IntKind.i64.wrap (IntKind.i64.wrap (y3-y1.2.1)-y5))].length≤y1.1.2.length) <|
   .nx 0 [.a 3 (y1.1.1) (setl y1.1.2 (Int.toNat y1.2.2.1*(1:Nat)) [Value.int IntKind.i64 (IntKind.i64.wrap (IntKind.i64.wrap (y3-y1.2.1)-y5))]),.v (.int .i64 ((0:Int))),.v (.int .i64 (IntKind.i64.wrap (y1.2.2.1+(1:Int))))]) <|
  .br (decide (IntKind.i64.wrap (y3-y1.2.1)<(0:Int))) (
   .rq ((0:Int)≤y1.2.2.1∧y1.2.2.1<(↑y1.1.1:Int)) <|
   .rq (Int.toNat y1.2.2.1*(1:Nat)+[Value.int IntKind.i64 (IntKind.i64.wrap (IntKind.i64.wrap (y3-y1.2.1)+(1000000000:Int)))].length≤y1.1.2.length) <|
   .nx 0 [.a 3 (y1.1.1) (setl y1.1.2 (Int.toNat y1.2.2.1*(1:Nat)) [Value.int IntKind.i64 (IntKind.i64.wrap (IntKind.i64.wrap (y3-y1.2.1)+(1000000000:Int)))]),.v (.int .i64 ((1:Int))),.v (.int .i64 (IntKind.i64.wrap (y1.2.2.1+(1:Int))))]) <|
  .rq ((0:Int)≤y1.2.2.1∧y1.2.2.1<(↑y1.1.1:Int)) <|
  .rq (Int.toNat y1.2.2.1*(1:Nat)+[Value.int IntKind.i64 (IntKind.i64.wrap (y3-y1.2.1))].length≤y1.1.2.length) <|
  .nx 0 [.a 3 (y1.1.1) (setl y1.1.2 (Int.toNat y1.2.2.1*(1:Nat)) [Value.int IntKind.i64 (IntKind.i64.wrap (y3-y1.2.1))]),.v (.int .i64 ((0:Int))),.v (.int .i64 (IntKind.i64.wrap (y1.2.2.1+(1:Int))))]) <|
 .fz (y1.1.1) (y1.1.2) 3 fun b2 c2 =>
 .call false 180 [.slice (some { block:=b2,off:=(0:Nat):Addr }) (y1.1.1) (c2)] (.v (.o (.l))) fun y3 =>
 .ret [Sc.val .l (y3)]
theorem fI_natSub (x0:SlV) (x1:SlV):fits Tryz.prog aI_natSub 179 [Sc.val .l (x0),Sc.val .l (x1)] (tI_natSub x0 x1) :=
 fitK (by kernel_rfl)
def aI_trim:An:=⟨[(1,[.s 0],[.o (.o (.l))])],[],[]⟩
noncomputable def tI_trim (x0:SlV):T :=
 .lp [.o (.o (.l))] [.v (Sc.val .l (x0))] fun y1 =>
 .br (decide ((↑y1.1.n:Int) > (0:Int))) (
  .el (y1.1.a) (y1.1.n) (IntKind.i64.wrap ((↑y1.1.n:Int)-(1:Int))) fun y2 =>
  .ld false (y2.add ((IntKind.i64.wrap ((↑y1.1.n:Int)-(1:Int))).toNat*(1:Nat))) (.o (.i .i64)) fun y3 =>
  .br (y3 == (0:Int)) (
   .rq ((0:Int)≤(0:Int)∧(0:Int)≤IntKind.i64.wrap ((↑y1.1.n:Int)-(1:Int))∧IntKind.i64.wrap ((↑y1.1.n:Int)-(1:Int))≤(↑y1.1.c:Int)∧(↑y1.1.c:Int)≤(↑y1.1.c:Int)) <|
   .nx 0 [.v (.slice (if (↑y1.1.c:Int).toNat=Int.toNat (0:Int) then y1.1.a else Option.map (fun x=>x.add (Int.toNat (0:Int)*Proofs.Tryz.prog.types[(3:Nat)].size)) y1.1.a) ((IntKind.i64.wrap ((↑y1.1.n:Int)-(1:Int))).toNat-Int.toNat (0:Int)) ((↑y1.1.c:Int).toNat-Int.toNat (0:Int)))]) <|
  .ret [Sc.val .l (y1.1)]) <|
 .ret [Sc.val .l (y1.1)]
theorem fI_trim (x0:SlV):fits Tryz.prog aI_trim 180 [Sc.val .l (x0)] (tI_trim x0) :=
 fitK (by kernel_rfl)
def aI_RatRound:An:=⟨[],[],[]⟩
noncomputable def tI_RatRound (x0:Bool × SlV × SlV × PUnit) (x1:Int):T :=
 .call false 149 [Sh1.val (.g [.b,.l,.l]) (x0)] (.v (.o (.b))) fun y1 =>
 .br (!y1) (
  .ret [Sh1.val (.g [.b,.l]) ((false),nilS,()),.bool (false)]) <|
 .call false 125 [.int .i64 (x1)] (.v (.o (.b))) fun y2 =>
 .br (!y2) (
  .ret [Sh1.val (.g [.b,.l]) ((false),nilS,()),.bool (false)]) <|
 .call false 207 [Sh1.val (.g [.b,.l]) ((x0.1),x0.2.1,()),Sc.val .l (x0.2.2.1),.int .i64 (x1)] (.v (.g [.b,.l])) fun y3 =>
 .ret [Sh1.val (.g [.b,.l]) (y3),.bool (true)]
theorem fI_RatRound (x0:Bool × SlV × SlV × PUnit) (x1:Int):fits Tryz.prog aI_RatRound 181 [Sh1.val (.g [.b,.l,.l]) (x0),.int .i64 (x1)] (tI_RatRound x0 x1) :=
 fitK (by kernel_rfl)
def aI_RatInt:An:=⟨[],[],[]⟩
noncomputable def tI_RatInt (x0:Bool × SlV × PUnit):T :=
 .rg <|
 .call true 200 [.int .i64 ((1:Int))] (.v (.g [.b,.l])) fun y1 =>
 .call true 208 [Sh1.val (.g [.b,.l]) (x0),Sh1.val (.g [.b,.l]) (y1)] (.t [(.g [.b,.l,.l]),(.o (.b))]) fun y2 =>
 .ret [Sh1.val (.g [.b,.l,.l]) (y2.1),.bool (y2.2.1)]
theorem fI_RatInt (x0:Bool × SlV × PUnit):fits Tryz.prog aI_RatInt 182 [Sh1.val (.g [.b,.l]) (x0)] (tI_RatInt x0) :=
 fitK (by kernel_rfl)
def aI_RatSub:An:=⟨[],[],[]⟩
noncomputable def tI_RatSub (x0:Bool × SlV × SlV × PUnit) (x1:Bool × SlV × SlV × PUnit):T :=
 .call false 131 [Sh1.val (.g [.b,.l,.l]) (x0),Sh1.val (.g [.b,.l,.l]) (x1)] (.v (.o (.b))) fun y1 =>
 .br (!y1) (
  .ret [Sh1.val (.g [.b,.l,.l]) ((false),nilS,nilS,()),.bool (false)]) <|
 .rg <|
 .call true 209 [Sh1.val (.g [.b,.l,.l]) (x1)] (.v (.g [.b,.l,.l])) fun y2 =>
 .call true 87 [Sh1.val (.g [.b,.l,.l]) (x0),Sh1.val (.g [.b,.l,.l]) (y2)] (.t [(.g [.b,.l,.l]),(.o (.b))]) fun y3 =>
 .ret [Sh1.val (.g [.b,.l,.l]) (y3.1),.bool (y3.2.1)]
theorem fI_RatSub (x0:Bool × SlV × SlV × PUnit) (x1:Bool × SlV × SlV × PUnit):fits Tryz.prog aI_RatSub 183 [Sh1.val (.g [.b,.l,.l]) (x0),Sh1.val (.g [.b,.l,.l]) (x1)] (tI_RatSub x0 x1) :=
 fitK (by kernel_rfl)
def aS_l01All:An:=⟨[(2,[.s 11],[.o (.o (.i .i64))])],[],[]⟩
noncomputable def tS_l01All (x0:ByteArray) (x1:Int) (x2:Int) (x3:Int) (x4:Int):T :=
 .lp [.o (.o (.i .i64))] [.v (.int .i64 ((0:Int)))] fun y1 =>
 .br (decide (y1.1<(↑x0.size:Int))) (
  .rq ((0:Int)≤y1.1∧y1.1<(↑x0.size:Int)) <|
  .br (decide (at0 x0 (Int.toNat y1.1)<x1)) (
   .rq ((0:Int)≤y1.1∧y1.1<(↑x0.size:Int)) <|
   .br (decide (at0 x0 (Int.toNat y1.1)<x3)) (
    .ret [.bool (false)]) <|
   .rq ((0:Int)≤y1.1∧y1.1<(↑x0.size:Int)) <|
   .br (decide (at0 x0 (Int.toNat y1.1) > x4)) (
    .ret [.bool (false)]) <|
   .nx 0 [.v (.int .i64 (IntKind.i64.wrap (y1.1+(1:Int))))]) <|
  .rq ((0:Int)≤y1.1∧y1.1<(↑x0.size:Int)) <|
  .br (decide (at0 x0 (Int.toNat y1.1) > x2)) (
   .rq ((0:Int)≤y1.1∧y1.1<(↑x0.size:Int)) <|
   .br (decide (at0 x0 (Int.toNat y1.1)<x3)) (
    .ret [.bool (false)]) <|
   .rq ((0:Int)≤y1.1∧y1.1<(↑x0.size:Int)) <|
   .br (decide (at0 x0 (Int.toNat y1.1) > x4)) (
    .ret [.bool (false)]) <|
   .nx 0 [.v (.int .i64 (IntKind.i64.wrap (y1.1+(1:Int))))]) <|
  .nx 0 [.v (.int .i64 (IntKind.i64.wrap (y1.1+(1:Int))))]) <|
 .ret [.bool (decide ((↑x0.size:Int) > (0:Int)))]
theorem fS_l01All (x0:ByteArray) (x1:Int) (x2:Int) (x3:Int) (x4:Int):fits Tryz.prog aS_l01All 187 [.string (x0),.int .u8 (x1),.int .u8 (x2),.int .u8 (x3),.int .u8 (x4)] (tS_l01All x0 x1 x2 x3 x4) :=
 fitK (by kernel_rfl)
def aS_RatCmp:An:=⟨[],[],[]⟩
noncomputable def tS_RatCmp (x0:Bool × SlV × SlV × PUnit) (x1:Bool × SlV × SlV × PUnit):T :=
 .call false 79 [Sh1.val (.g [.b,.l,.l]) (x0)] (.v (.o (.b))) fun y1 =>
 .br (!y1) (
  .ret [.int .i64 ((0:Int))]) <|
 .call false 79 [Sh1.val (.g [.b,.l,.l]) (x1)] (.v (.o (.b))) fun y2 =>
 .br (!y2) (
  .ret [.int .i64 ((0:Int))]) <|
 .rg <|
 .call true 81 [Sc.val .l (x0.2.1),Sc.val .l (x1.2.2.1)] (.v (.o (.l))) fun y3 =>
 .call true 80 [.bool (x0.1),Sc.val .l (y3)] (.v (.g [.b,.l])) fun y4 =>
 .call true 81 [Sc.val .l (x1.2.1),Sc.val .l (x0.2.2.1)] (.v (.o (.l))) fun y5 =>
 .call true 80 [.bool (x1.1),Sc.val .l (y5)] (.v (.g [.b,.l])) fun y6 =>
 .call true 194 [Sh1.val (.g [.b,.l]) (y4),Sh1.val (.g [.b,.l]) (y6)] (.v (.o (.i .i64))) fun y7 =>
 .ret [.int .i64 (y7)]
theorem fS_RatCmp (x0:Bool × SlV × SlV × PUnit) (x1:Bool × SlV × SlV × PUnit):fits Tryz.prog aS_RatCmp 188 [Sh1.val (.g [.b,.l,.l]) (x0),Sh1.val (.g [.b,.l,.l]) (x1)] (tS_RatCmp x0 x1) :=
 fitK (by kernel_rfl)
def aI_isLower:An:=⟨[],[],[]⟩
noncomputable def tI_isLower (x0:Int):T :=
 .br (decide (x0≥(97:Int))) (
  .ret [.bool (decide (x0≤(122:Int)))]) <|
 .ret [.bool (false)]
theorem fI_isLower (x0:Int):fits Tryz.prog aI_isLower 189 [.int .u8 (x0)] (tI_isLower x0) :=
 fitK (by kernel_rfl)
def aI_isDigit:An:=⟨[],[],[]⟩
noncomputable def tI_isDigit (x0:Int):T :=
 .br (decide (x0≥(48:Int))) (
  .ret [.bool (decide (x0≤(57:Int)))]) <|
 .ret [.bool (false)]
theorem fI_isDigit (x0:Int):fits Tryz.prog aI_isDigit 190 [.int .u8 (x0)] (tI_isDigit x0) :=
 fitK (by kernel_rfl)
def aI_NatOk:An:=⟨[(4,[.s 24],[.o (.o (.i .i64))])],[],[]⟩
noncomputable def tI_NatOk (x0:SlV):T :=
 .br (decide ((↑x0.n:Int) > (50:Int))) (
  .ret [.bool (false)]) <|
 .br (decide ((↑x0.n:Int) > (0:Int))) (
  .el (x0.a) (x0.n) (IntKind.i64.wrap ((↑x0.n:Int)-(1:Int))) fun y1 =>
  .ld false (y1.add ((IntKind.i64.wrap ((↑x0.n:Int)-(1:Int))).toNat*(1:Nat))) (.o (.i .i64)) fun y2 =>
  .br (y2 == (0:Int)) (
   .ret [.bool (false)]) <|
  .lp [.o (.o (.i .i64))] [.v (.int .i64 ((0:Int)))] fun y3 =>
  .br (decide (y3.1<(↑x0.n:Int))) (
   .el (x0.a) (x0.n) (y3.1) fun y4 =>
   .ld false (y4.add (Int.toNat y3.1*(1:Nat))) (.o (.i .i64)) fun y5 =>
   .br (decide (y5<(0:Int))) (
    .ret [.bool (false)]) <|
   .br (decide (y5≥(1000000000:Int))) (
    .ret [.bool (false)]) <|
   .nx 0 [.v (.int .i64 (IntKind.i64.wrap (y3.1+(1:Int))))]) <|
  .ret [.bool (true)]) <|
 .lp [.o (.o (.i .i64))] [.v (.int .i64 ((0:Int)))] fun y1 =>
 .br (decide (y1.1<(↑x0.n:Int))) (
  .el (x0.a) (x0.n) (y1.1) fun y2 =>
  .ld false (y2.add (Int.toNat y1.1*(1:Nat))) (.o (.i .i64)) fun y3 =>
  .br (decide (y3<(0:Int))) (
   .ret [.bool (false)]) <|
  .br (decide (y3≥(1000000000:Int))) (
   .ret [.bool (false)]) <|
  .nx 0 [.v (.int .i64 (IntKind.i64.wrap (y1.1+(1:Int))))]) <|
 .ret [.bool (true)]
theorem fI_NatOk (x0:SlV):fits Tryz.prog aI_NatOk 191 [Sc.val .l (x0)] (tI_NatOk x0) :=
 fitK (by kernel_rfl)
def aI_intSign:An:=⟨[],[],[]⟩
noncomputable def tI_intSign (x0:Bool × SlV × PUnit):T :=
 .br ((↑x0.2.1.n:Int) == (0:Int)) (
  .ret [.int .i64 ((0:Int))]) <|
 .br (x0.1) (
  .ret [.int .i64 ((-1:Int))]) <|
 .ret [.int .i64 ((1:Int))]
theorem fI_intSign (x0:Bool × SlV × PUnit):fits Tryz.prog aI_intSign 192 [Sh1.val (.g [.b,.l]) (x0)] (tI_intSign x0) :=
 fitK (by kernel_rfl)
def aI_DecOk:An:=⟨[],[],[]⟩
noncomputable def tI_DecOk (x0:Bool × SlV × Int × PUnit):T :=
 .call false 167 [Sh1.val (.g [.b,.l]) ((x0.1),x0.2.1,())] (.v (.o (.b))) fun y1 =>
 .br (y1) (
  .br (decide ((↑x0.2.1.n:Int)≤(6:Int))) (
   .call false 210 [.int .i64 (x0.2.2.1)] (.v (.o (.b))) fun y2 =>
   .ret [.bool (y2)]) <|
  .ret [.bool (false)]) <|
 .ret [.bool (false)]
theorem fI_DecOk (x0:Bool × SlV × Int × PUnit):fits Tryz.prog aI_DecOk 193 [Sh1.val (.g [.b,.l,.i .i64]) (x0)] (tI_DecOk x0) :=
 fitK (by kernel_rfl)
def aS_IntCmp:An:=⟨[],[],[]⟩
noncomputable def tS_IntCmp (x0:Bool × SlV × PUnit) (x1:Bool × SlV × PUnit):T :=
 .call false 67 [Sh1.val (.g [.b,.l]) (x0)] (.v (.o (.b))) fun y1 =>
 .br (!y1) (
  .ret [.int .i64 ((0:Int))]) <|
 .call false 67 [Sh1.val (.g [.b,.l]) (x1)] (.v (.o (.b))) fun y2 =>
 .br (!y2) (
  .ret [.int .i64 ((0:Int))]) <|
 .br (x0.1) (
  .br (!x1.1) (
   .ret [.int .i64 ((-1:Int))]) <|
  .br (!x0.1) (
   .br (x1.1) (
    .ret [.int .i64 ((1:Int))]) <|
   .br (x0.1) (
    .call false 116 [Sc.val .l (x1.2.1),Sc.val .l (x0.2.1)] (.v (.o (.i .i64))) fun y3 =>
    .ret [.int .i64 (y3)]) <|
   .call false 116 [Sc.val .l (x0.2.1),Sc.val .l (x1.2.1)] (.v (.o (.i .i64))) fun y3 =>
   .ret [.int .i64 (y3)]) <|
  .br (x0.1) (
   .call false 116 [Sc.val .l (x1.2.1),Sc.val .l (x0.2.1)] (.v (.o (.i .i64))) fun y3 =>
   .ret [.int .i64 (y3)]) <|
  .call false 116 [Sc.val .l (x0.2.1),Sc.val .l (x1.2.1)] (.v (.o (.i .i64))) fun y3 =>
  .ret [.int .i64 (y3)]) <|
 .br (!x0.1) (
  .br (x1.1) (
   .ret [.int .i64 ((1:Int))]) <|
  .br (x0.1) (
   .call false 116 [Sc.val .l (x1.2.1),Sc.val .l (x0.2.1)] (.v (.o (.i .i64))) fun y3 =>
   .ret [.int .i64 (y3)]) <|
  .call false 116 [Sc.val .l (x0.2.1),Sc.val .l (x1.2.1)] (.v (.o (.i .i64))) fun y3 =>
  .ret [.int .i64 (y3)]) <|
 .br (x0.1) (
  .call false 116 [Sc.val .l (x1.2.1),Sc.val .l (x0.2.1)] (.v (.o (.i .i64))) fun y3 =>
  .ret [.int .i64 (y3)]) <|
 .call false 116 [Sc.val .l (x0.2.1),Sc.val .l (x1.2.1)] (.v (.o (.i .i64))) fun y3 =>
 .ret [.int .i64 (y3)]
theorem fS_IntCmp (x0:Bool × SlV × PUnit) (x1:Bool × SlV × PUnit):fits Tryz.prog aS_IntCmp 194 [Sh1.val (.g [.b,.l]) (x0),Sh1.val (.g [.b,.l]) (x1)] (tS_IntCmp x0 x1) :=
 fitK (by kernel_rfl)
def aS_DecRat:An:=⟨[],[],[]⟩
noncomputable def tS_DecRat (x0:Bool × SlV × Int × PUnit):T :=
 .call false 154 [Sh1.val (.g [.b,.l,.i .i64]) (x0)] (.v (.o (.b))) fun y1 =>
 .br (!y1) (
  .ret [Sh1.val (.g [.b,.l,.l]) ((false),nilS,nilS,())]) <|
 .rg <|
 .call true 158 [.int .i64 (x0.2.2.1)] (.v (.g [.b,.l])) fun y2 =>
 .call true 160 [Sh1.val (.g [.b,.l]) ((x0.1),x0.2.1,()),Sh1.val (.g [.b,.l]) (y2)] (.t [(.g [.b,.l,.l]),(.o (.b))]) fun y3 =>
 .ret [Sh1.val (.g [.b,.l,.l]) (y3.1)]
theorem fS_DecRat (x0:Bool × SlV × Int × PUnit):fits Tryz.prog aS_DecRat 195 [Sh1.val (.g [.b,.l,.i .i64]) (x0)] (tS_DecRat x0) :=
 fitK (by kernel_rfl)
def aS_NatTen:An:=⟨[(6,[.s 4,.s 5],[.o (.o (.i .i64)),.o (.o (.i .i64))])],[],[]⟩
noncomputable def tS_NatTen (x0:Int):T :=
 .call false 107 [.int .i64 (x0),.int .i64 ((0:Int)),.int .i64 ((449:Int))] (.v (.o (.b))) fun y1 =>
 .br (!y1) (
  .ret [.slice (none) ((0:Nat)) ((0:Nat))]) <|
 .rq ((9:Int)≠(0:Int)) <|
 .rq ((0:Int)≤IntKind.i64.wrap (x0.tdiv (9:Int))∧IntKind.i64.wrap (x0.tdiv (9:Int))≤IntKind.i64.wrap (x0.tdiv (9:Int))∧(↑(8:Nat):Int)*IntKind.i64.wrap (x0.tdiv (9:Int))≤(281474976710656:Int)∧IntKind.i64.wrap (x0.tdiv (9:Int))≤(9223372036854775807:Int)) <|
 .lp [.o (.o (.i .i64)),.o (.o (.i .i64))] [.v (.int .i64 ((1:Int))),.v (.int .i64 ((0:Int)))] fun y2 =>
 .rq ((9:Int)≠(0:Int)) <|
 .br (decide (y2.2.1<x0.tmod (9:Int))) (
  .nx 0 [.v (.int .i64 (IntKind.i64.wrap (y2.1*(10:Int)))),.v (.int .i64 (IntKind.i64.wrap (y2.2.1+(1:Int))))]) <|
 .rq ([(Sh1.o (Sc.i IntKind.i64)).val y2.1].length=(1:Nat)*(1:Nat)) <|
 .rq (one [(Sh1.o (Sc.i IntKind.i64)).val y2.1]=true∧((IntKind.i64.wrap (x0.tdiv (9:Int))).toNat+(1:Nat))*(8:Nat)≤(140737488355328:Nat)∧(IntKind.i64.wrap (x0.tdiv (9:Int))).toNat+(1:Nat)≤(9223372036854775807:Nat)) <|
 .fz ((IntKind.i64.wrap (x0.tdiv (9:Int))).toNat+(1:Nat)) ((madeCells { toList:=[Value.int IntKind.i64 (0:Int)]:Array Value } ((IntKind.i64.wrap (x0.tdiv (9:Int))).toNat*(1:Nat))).toList++[(Sh1.o (Sc.i IntKind.i64)).val y2.1]) 3 fun b3 c3 =>
 .ret [.slice (some { block:=b3,off:=(0:Nat):Addr }) ((IntKind.i64.wrap (x0.tdiv (9:Int))).toNat+(1:Nat)) (c3)]
theorem fS_NatTen (x0:Int):fits Tryz.prog aS_NatTen 196 [.int .i64 (x0)] (tS_NatTen x0) :=
 fitK (by kernel_rfl)
def aS_l06Away:An:=⟨[],[],[]⟩
noncomputable def tS_l06Away (x0:Bool) (x1:SlV) (x2:SlV) (x3:SlV) (x4:Int):T :=
 .call false 120 [Sc.val .l (x2),Sc.val .l (x2)] (.v (.o (.l))) fun y1 =>
 .call false 116 [Sc.val .l (y1),Sc.val .l (x3)] (.v (.o (.i .i64))) fun y2 =>
 .br (x4 == (0:Int)) (
  .ret [.bool (false)]) <|
 .br (x4 == (1:Int)) (
  .ret [.bool (true)]) <|
 .br (x4 == (2:Int)) (
  .ret [.bool (x0)]) <|
 .br (x4 == (3:Int)) (
  .ret [.bool (!x0)]) <|
 .br (x4 == (4:Int)) (
  .ret [.bool (decide (y2 > (0:Int)))]) <|
 .br (x4 == (5:Int)) (
  .ret [.bool (decide (y2≥(0:Int)))]) <|
 .br (decide (y2 > (0:Int))) (
  .ret [.bool (true)]) <|
 .br (y2 == (0:Int)) (
  .call false 211 [Sc.val .l (x1)] (.v (.o (.b))) fun y3 =>
  .ret [.bool (!y3)]) <|
 .ret [.bool (false)]
theorem fS_l06Away (x0:Bool) (x1:SlV) (x2:SlV) (x3:SlV) (x4:Int):fits Tryz.prog aS_l06Away 197 [.bool (x0),Sc.val .l (x1),Sc.val .l (x2),Sc.val .l (x3),.int .i64 (x4)] (tS_l06Away x0 x1 x2 x3 x4) :=
 fitK (by kernel_rfl)
def aS_IntNeg:An:=⟨[],[],[]⟩
noncomputable def tS_IntNeg (x0:Bool × SlV × PUnit):T :=
 .call false 67 [Sh1.val (.g [.b,.l]) (x0)] (.v (.o (.b))) fun y1 =>
 .br (!y1) (
  .ret [Sh1.val (.g [.b,.l]) ((false),nilS,())]) <|
 .call false 80 [.bool (!x0.1),Sc.val .l (x0.2.1)] (.v (.g [.b,.l])) fun y2 =>
 .ret [Sh1.val (.g [.b,.l]) (y2)]
theorem fS_IntNeg (x0:Bool × SlV × PUnit):fits Tryz.prog aS_IntNeg 198 [Sh1.val (.g [.b,.l]) (x0)] (tS_IntNeg x0) :=
 fitK (by kernel_rfl)
def aI_Rates__listed:An:=⟨[(2,[.s 11],[.o (.o (.i .i64))])],[],[]⟩
noncomputable def tI_Rates__listed (x0:ByteArray × SlV × PUnit) (x1:ByteArray × ByteArray × PUnit):T :=
 .lp [.o (.o (.i .i64))] [.v (.int .i64 ((0:Int)))] fun y1 =>
 .br (decide (y1.1<(↑x0.2.1.n:Int))) (
  .el (x0.2.1.a) (x0.2.1.n) (y1.1) fun y2 =>
  .ld false (y2.add (Int.toNat y1.1*(5:Nat))) (.g [.s,.s,.b,.l,.i .i64]) fun y3 =>
  .br (y3.1 == x1.1 && y3.2.1 == x1.2.1) (
   .ret [Sh1.val (.g [.b,.l,.i .i64]) (y3.2.2),.bool (true)]) <|
  .nx 0 [.v (.int .i64 (IntKind.i64.wrap (y1.1+(1:Int))))]) <|
 .ret [Sh1.val (.g [.b,.l,.i .i64]) ((false),nilS,(((0:Int)):Int),()),.bool (false)]
theorem fI_Rates__listed (x0:ByteArray × SlV × PUnit) (x1:ByteArray × ByteArray × PUnit):fits Tryz.prog aI_Rates__listed 199 [Sh1.val (.g [.s,.l]) (x0),Sh1.val (.g [.s,.s]) (x1)] (tI_Rates__listed x0 x1) :=
 fitK (by kernel_rfl)
def aI_IntOf:An:=⟨[],[],[]⟩
noncomputable def tI_IntOf (x0:Int):T :=
 .br (decide (x0<(0:Int))) (
  .call false 212 [.int .u64 (IntKind.u64.wrap ((0:Int)-IntKind.u64.wrap x0))] (.v (.o (.l))) fun y1 =>
  .ret [Sh1.val (.g [.b,.l]) ((true),y1,())]) <|
 .call false 212 [.int .u64 (IntKind.u64.wrap x0)] (.v (.o (.l))) fun y1 =>
 .ret [Sh1.val (.g [.b,.l]) ((false),y1,())]
theorem fI_IntOf (x0:Int):fits Tryz.prog aI_IntOf 200 [.int .i64 (x0)] (tI_IntOf x0) :=
 fitK (by kernel_rfl)
def aI_DecRat:An:=⟨[],[],[]⟩
noncomputable def tI_DecRat (x0:Bool × SlV × Int × PUnit):T :=
 .call false 193 [Sh1.val (.g [.b,.l,.i .i64]) (x0)] (.v (.o (.b))) fun y1 =>
 .br (!y1) (
  .ret [Sh1.val (.g [.b,.l,.l]) ((false),nilS,nilS,())]) <|
 .rg <|
 .call true 170 [.int .i64 (x0.2.2.1)] (.v (.o (.l))) fun y2 =>
 .call true 133 [Sh1.val (.g [.b,.l]) ((x0.1),x0.2.1,()),Sc.val .l (y2)] (.t [(.g [.b,.l,.l]),(.o (.b))]) fun y3 =>
 .ret [Sh1.val (.g [.b,.l,.l]) (y3.1)]
theorem fI_DecRat (x0:Bool × SlV × Int × PUnit):fits Tryz.prog aI_DecRat 201 [Sh1.val (.g [.b,.l,.i .i64]) (x0)] (tI_DecRat x0) :=
 fitK (by kernel_rfl)
def aI_RatDiv:An:=⟨[],[],[]⟩
noncomputable def tI_RatDiv (x0:Bool × SlV × SlV × PUnit) (x1:Bool × SlV × SlV × PUnit):T :=
 .call false 131 [Sh1.val (.g [.b,.l,.l]) (x0),Sh1.val (.g [.b,.l,.l]) (x1)] (.v (.o (.b))) fun y1 =>
 .br (!y1) (
  .ret [Sh1.val (.g [.b,.l,.l]) ((false),nilS,nilS,()),.bool (false)]) <|
 .br ((↑x1.2.1.n:Int) == (0:Int)) (
  .ret [Sh1.val (.g [.b,.l,.l]) ((false),nilS,nilS,()),.bool (false)]) <|
 .rg <|
 .call true 135 [Sc.val .l (x0.2.1),Sc.val .l (x1.2.2.1)] (.v (.o (.l))) fun y2 =>
 .call true 172 [.bool (!x0.1 == x1.1),Sc.val .l (y2)] (.v (.g [.b,.l])) fun y3 =>
 .call true 135 [Sc.val .l (x0.2.2.1),Sc.val .l (x1.2.1)] (.v (.o (.l))) fun y4 =>
 .call true 133 [Sh1.val (.g [.b,.l]) (y3),Sc.val .l (y4)] (.t [(.g [.b,.l,.l]),(.o (.b))]) fun y5 =>
 .ret [Sh1.val (.g [.b,.l,.l]) (y5.1),.bool (y5.2.1)]
theorem fI_RatDiv (x0:Bool × SlV × SlV × PUnit) (x1:Bool × SlV × SlV × PUnit):fits Tryz.prog aI_RatDiv 202 [Sh1.val (.g [.b,.l,.l]) (x0),Sh1.val (.g [.b,.l,.l]) (x1)] (tI_RatDiv x0 x1) :=
 fitK (by kernel_rfl)
def aI_natCopy:An:=⟨[],[],[]⟩
noncomputable def tI_natCopy (x0:SlV):T :=
 .rd ({ a:=x0.a,n:=x0.n,c:=x0.c:SlV }) ((1:Nat)) fun y1 =>
 .rq (one y1=true∧((0:Nat)+x0.n)*(8:Nat)≤(140737488355328:Nat)∧(0:Nat)+x0.n≤(9223372036854775807:Nat)) <|
 .fz ((0:Nat)+x0.n) ([]++y1) 3 fun b2 c2 =>
 .ret [.slice (some { block:=b2,off:=(0:Nat):Addr }) ((0:Nat)+x0.n) (c2)]
theorem fI_natCopy (x0:SlV):fits Tryz.prog aI_natCopy 203 [Sc.val .l (x0)] (tI_natCopy x0) :=
 fitK (by kernel_rfl)
def aI_natSmall:An:=⟨[(4,[.s 6,.s 7,.s 8],[.a 3,.o (.o (.i .i64)),.o (.o (.i .i64))])],[],[]⟩
noncomputable def tI_natSmall (x0:SlV) (x1:Int):T :=
 .rq ((0:Int)≤(↑x0.n:Int)∧(↑x0.n:Int)≤(↑x0.n:Int)∧(↑(8:Nat):Int)*(↑x0.n:Int)≤(281474976710656:Int)∧(↑x0.n:Int)≤(9223372036854775807:Int)) <|
 .lp [.a 3,.o (.o (.i .i64)),.o (.o (.i .i64))] [.a 3 ((↑x0.n:Int).toNat) ((madeCells { toList:=[Value.int IntKind.i64 (0:Int)]:Array Value } ((↑x0.n:Int).toNat*(1:Nat))).toList),.v (.int .i64 ((0:Int))),.v (.int .i64 (IntKind.i64.wrap ((↑x0.n:Int)-(1:Int))))] fun y1 =>
 .br (decide (y1.2.2.1≥(0:Int))) (
  .el (x0.a) (x0.n) (y1.2.2.1) fun y2 =>
  .ld false (y2.add (Int.toNat y1.2.2.1*(1:Nat))) (.o (.i .i64)) fun y3 =>
  .rq (x1≠(0:Int)) <|
  .rq ((0:Int)≤y1.2.2.1∧y1.2.2.1<(↑y1.1.1:Int)) <|
  .rq (Int.toNat y1.2.2.1*(1:Nat)+[Value.int IntKind.i64 (IntKind.i64.wrap ((IntKind.i64.wrap (IntKind.i64.wrap (y1.2.1*(1000000000:Int))+y3)).tdiv x1))].length≤y1.1.2.length) <|
  .rq (x1≠(0:Int)) <|
  .nx 0 [.a 3 (y1.1.1) (setl y1.1.2 (Int.toNat y1.2.2.1*(1:Nat)) [Value.int IntKind.i64 (IntKind.i64.wrap ((IntKind.i64.wrap (IntKind.i64.wrap (y1.2.1*(1000000000:Int))+y3)).tdiv x1))]),.v (.int .i64 ((IntKind.i64.wrap (IntKind.i64.wrap (y1.2.1*(1000000000:Int))+y3)).tmod x1)),.v (.int .i64 (IntKind.i64.wrap (y1.2.2.1-(1:Int))))]) <|
 .fz (y1.1.1) (y1.1.2) 3 fun b2 c2 =>
 .call false 180 [.slice (some { block:=b2,off:=(0:Nat):Addr }) (y1.1.1) (c2)] (.v (.o (.l))) fun y3 =>
 .ret [Sc.val .l (y3),.int .i64 (y1.2.1)]
theorem fI_natSmall (x0:SlV) (x1:Int):fits Tryz.prog aI_natSmall 204 [Sc.val .l (x0),.int .i64 (x1)] (tI_natSmall x0 x1) :=
 fitK (by kernel_rfl)
def aI_NatOf:An:=⟨[],[],[]⟩
noncomputable def tI_NatOf (x0:Int):T :=
 .br (decide (x0<(0:Int))) (
  .ret [.slice (none) ((0:Nat)) ((0:Nat))]) <|
 .call false 212 [.int .u64 (IntKind.u64.wrap x0)] (.v (.o (.l))) fun y1 =>
 .ret [Sc.val .l (y1)]
theorem fI_NatOf (x0:Int):fits Tryz.prog aI_NatOf 205 [.int .i64 (x0)] (tI_NatOf x0) :=
 fitK (by kernel_rfl)
def aI_divStep:An:=⟨[(4,[.s 7],[.o (.o (.i .i64))])],[],[]⟩
noncomputable def tI_divStep (x0:SlV) (x1:SlV):T :=
 .rg <|
 .el (x0.a) (x0.n) ((↑x1.n:Int)) fun y1 =>
 .ld true (y1.add ((↑x1.n:Int).toNat*(1:Nat))) (.o (.i .i64)) fun y2 =>
 .el (x0.a) (x0.n) (IntKind.i64.wrap ((↑x1.n:Int)-(1:Int))) fun y3 =>
 .ld true (y3.add ((IntKind.i64.wrap ((↑x1.n:Int)-(1:Int))).toNat*(1:Nat))) (.o (.i .i64)) fun y4 =>
 .el (x1.a) (x1.n) (IntKind.i64.wrap ((↑x1.n:Int)-(1:Int))) fun y5 =>
 .ld false (y5.add ((IntKind.i64.wrap ((↑x1.n:Int)-(1:Int))).toNat*(1:Nat))) (.o (.i .i64)) fun y6 =>
 .rq (y6≠(0:Int)) <|
 .lp [.o (.o (.i .i64))] [.v (.int .i64 (if (999999999:Int)<IntKind.i64.wrap ((IntKind.i64.wrap (IntKind.i64.wrap (y2*(1000000000:Int))+y4)).tdiv y6) then (999999999:Int) else IntKind.i64.wrap ((IntKind.i64.wrap (IntKind.i64.wrap (y2*(1000000000:Int))+y4)).tdiv y6)))] fun y7 =>
 .rg <|
 .br (decide (y7.1 > (0:Int))) (
  .el (x1.a) (x1.n) (IntKind.i64.wrap ((↑x1.n:Int)-(1:Int))) fun y8 =>
  .ld true (y8.add ((IntKind.i64.wrap ((↑x1.n:Int)-(1:Int))).toNat*(1:Nat))) (.o (.i .i64)) fun y9 =>
  .br (decide (IntKind.i64.wrap (IntKind.i64.wrap (IntKind.i64.wrap (y2*(1000000000:Int))+y4)-IntKind.i64.wrap (y7.1*y9))<(1000000000:Int))) (
   .el (x1.a) (x1.n) (IntKind.i64.wrap ((↑x1.n:Int)-(2:Int))) fun y10 =>
   .ld true (y10.add ((IntKind.i64.wrap ((↑x1.n:Int)-(2:Int))).toNat*(1:Nat))) (.o (.i .i64)) fun y11 =>
   .el (x1.a) (x1.n) (IntKind.i64.wrap ((↑x1.n:Int)-(1:Int))) fun y12 =>
   .ld true (y12.add ((IntKind.i64.wrap ((↑x1.n:Int)-(1:Int))).toNat*(1:Nat))) (.o (.i .i64)) fun y13 =>
   .el (x0.a) (x0.n) (IntKind.i64.wrap ((↑x1.n:Int)-(2:Int))) fun y14 =>
   .ld true (y14.add ((IntKind.i64.wrap ((↑x1.n:Int)-(2:Int))).toNat*(1:Nat))) (.o (.i .i64)) fun y15 =>
   .br (decide (IntKind.i64.wrap (y7.1*y11) > IntKind.i64.wrap (IntKind.i64.wrap (IntKind.i64.wrap (IntKind.i64.wrap (IntKind.i64.wrap (y2*(1000000000:Int))+y4)-IntKind.i64.wrap (y7.1*y13))*(1000000000:Int))+y15))) (
    .nx 0 [.v (.int .i64 (IntKind.i64.wrap (y7.1-(1:Int))))]) <|
   .call false 213 [Sc.val .l (x0),Sc.val .l (x1),.int .i64 (y7.1)] (.v (.o (.b))) fun y16 =>
   .br (y16) (
    .call false 214 [Sc.val .l (x0),Sc.val .l (x1)] (.t []) fun _ =>
    .ret [.int .i64 (IntKind.i64.wrap (y7.1-(1:Int)))]) <|
   .ret [.int .i64 (y7.1)]) <|
  .call false 213 [Sc.val .l (x0),Sc.val .l (x1),.int .i64 (y7.1)] (.v (.o (.b))) fun y10 =>
  .br (y10) (
   .call false 214 [Sc.val .l (x0),Sc.val .l (x1)] (.t []) fun _ =>
   .ret [.int .i64 (IntKind.i64.wrap (y7.1-(1:Int)))]) <|
  .ret [.int .i64 (y7.1)]) <|
 .call false 213 [Sc.val .l (x0),Sc.val .l (x1),.int .i64 (y7.1)] (.v (.o (.b))) fun y8 =>
 .br (y8) (
  .call false 214 [Sc.val .l (x0),Sc.val .l (x1)] (.t []) fun _ =>
  .ret [.int .i64 (IntKind.i64.wrap (y7.1-(1:Int)))]) <|
 .ret [.int .i64 (y7.1)]
theorem fI_divStep (x0:SlV) (x1:SlV):fits Tryz.prog aI_divStep 206 [Sc.val .l (x0),Sc.val .l (x1)] (tI_divStep x0 x1) :=
 fitK (by kernel_rfl)
def aI_roundQuotient:An:=⟨[],[],[]⟩
noncomputable def tI_roundQuotient (x0:Bool × SlV × PUnit) (x1:SlV) (x2:Int):T :=
 .call false 176 [Sc.val .l (x0.2.1),Sc.val .l (x1)] (.t [(.o (.l)),(.o (.l))]) fun y1 =>
 .rg <|
 .br (decide ((↑y1.2.1.n:Int) > (0:Int))) (
  .call true 215 [] (.v (.g [.s,.f,.s,.f,.s,.f,.s,.f,.s,.f,.s,.f,.s,.f])) fun y2 =>
  .rq ((0:Int)≤x2∧x2<(↑(7:Nat):Int)) <|
  .xs [.string (y2.1),(Value.func (Fn.func y2.2.1) { toList:=[]:Array Value } { toList:=[]:Array Value }),.string (y2.2.2.1),(Value.func (Fn.func y2.2.2.2.1) { toList:=[]:Array Value } { toList:=[]:Array Value }),.string (y2.2.2.2.2.1),(Value.func (Fn.func y2.2.2.2.2.2.1) { toList:=[]:Array Value } { toList:=[]:Array Value }),.string (y2.2.2.2.2.2.2.1),(Value.func (Fn.func y2.2.2.2.2.2.2.2.1) { toList:=[]:Array Value } { toList:=[]:Array Value }),.string (y2.2.2.2.2.2.2.2.2.1),(Value.func (Fn.func y2.2.2.2.2.2.2.2.2.2.1) { toList:=[]:Array Value } { toList:=[]:Array Value }),.string (y2.2.2.2.2.2.2.2.2.2.2.1),(Value.func (Fn.func y2.2.2.2.2.2.2.2.2.2.2.2.1) { toList:=[]:Array Value } { toList:=[]:Array Value }),.string (y2.2.2.2.2.2.2.2.2.2.2.2.2.1),(Value.func (Fn.func y2.2.2.2.2.2.2.2.2.2.2.2.2.2.1) { toList:=[]:Array Value } { toList:=[]:Array Value })] (x2.toNat*(2:Nat)) (.g [.s,.f]) fun y3 =>
  .call true 177 [Sc.val .l (y1.2.1),Sc.val .l (y1.2.1)] (.v (.o (.l))) fun y4 =>
  .call true 178 [Sc.val .l (y4),Sc.val .l (x1)] (.v (.o (.i .i64))) fun y5 =>
  .call true 216 [Sc.val .l (y1.1)] (.v (.o (.b))) fun y6 =>
  .call true (y3.2.1) [.bool (x0.1),.int .i64 (y5),.bool (!y6)] (.v (.o (.b))) fun y7 =>
  .br (y7) (
   .fz ((1:Nat)) [.int .i64 ((1:Int))] 3 fun b8 c8 =>
   .call false 177 [Sc.val .l (y1.1),.slice (some { block:=b8,off:=(0:Nat):Addr }) ((1:Nat)) (c8)] (.v (.o (.l))) fun y9 =>
   .call false 172 [.bool (x0.1),Sc.val .l (y9)] (.v (.g [.b,.l])) fun y10 =>
   .ret [Sh1.val (.g [.b,.l]) (y10)]) <|
  .call false 172 [.bool (x0.1),Sc.val .l (y1.1)] (.v (.g [.b,.l])) fun y8 =>
  .ret [Sh1.val (.g [.b,.l]) (y8)]) <|
 .call false 172 [.bool (x0.1),Sc.val .l (y1.1)] (.v (.g [.b,.l])) fun y2 =>
 .ret [Sh1.val (.g [.b,.l]) (y2)]
theorem fI_roundQuotient (x0:Bool × SlV × PUnit) (x1:SlV) (x2:Int):fits Tryz.prog aI_roundQuotient 207 [Sh1.val (.g [.b,.l]) (x0),Sc.val .l (x1),.int .i64 (x2)] (tI_roundQuotient x0 x1 x2) :=
 fitK (by kernel_rfl)
def aI_RatMake:An:=⟨[],[],[]⟩
noncomputable def tI_RatMake (x0:Bool × SlV × PUnit) (x1:Bool × SlV × PUnit):T :=
 .call false 217 [Sh1.val (.g [.b,.l]) (x0),Sh1.val (.g [.b,.l]) (x1)] (.v (.o (.b))) fun y1 =>
 .br (!y1) (
  .ret [Sh1.val (.g [.b,.l,.l]) ((false),nilS,nilS,()),.bool (false)]) <|
 .br ((↑x1.2.1.n:Int) == (0:Int)) (
  .ret [Sh1.val (.g [.b,.l,.l]) ((false),nilS,nilS,()),.bool (false)]) <|
 .rg <|
 .call true 172 [.bool (!x0.1 == x1.1),Sc.val .l (x0.2.1)] (.v (.g [.b,.l])) fun y2 =>
 .call true 133 [Sh1.val (.g [.b,.l]) (y2),Sc.val .l (x1.2.1)] (.t [(.g [.b,.l,.l]),(.o (.b))]) fun y3 =>
 .ret [Sh1.val (.g [.b,.l,.l]) (y3.1),.bool (y3.2.1)]
theorem fI_RatMake (x0:Bool × SlV × PUnit) (x1:Bool × SlV × PUnit):fits Tryz.prog aI_RatMake 208 [Sh1.val (.g [.b,.l]) (x0),Sh1.val (.g [.b,.l]) (x1)] (tI_RatMake x0 x1) :=
 fitK (by kernel_rfl)
def aI_ratNeg:An:=⟨[],[],[]⟩
noncomputable def tI_ratNeg (x0:Bool × SlV × SlV × PUnit):T :=
 .rg <|
 .call true 218 [Sh1.val (.g [.b,.l]) ((x0.1),x0.2.1,())] (.v (.g [.b,.l])) fun y1 =>
 .call true 203 [Sc.val .l (x0.2.2.1)] (.v (.o (.l))) fun y2 =>
 .ret [Sh1.val (.g [.b,.l,.l]) ((y1.1),y1.2.1,y2,())]
theorem fI_ratNeg (x0:Bool × SlV × SlV × PUnit):fits Tryz.prog aI_ratNeg 209 [Sh1.val (.g [.b,.l,.l]) (x0)] (tI_ratNeg x0) :=
 fitK (by kernel_rfl)
def aI_isScale:An:=⟨[],[],[]⟩
noncomputable def tI_isScale (x0:Int):T :=
 .br (decide (x0≥(0:Int))) (
  .ret [.bool (decide (x0≤(30:Int)))]) <|
 .ret [.bool (false)]
theorem fI_isScale (x0:Int):fits Tryz.prog aI_isScale 210 [.int .i64 (x0)] (tI_isScale x0) :=
 fitK (by kernel_rfl)
def aS_NatEven:An:=⟨[],[],[]⟩
noncomputable def tS_NatEven (x0:SlV):T :=
 .call false 104 [Sc.val .l (x0)] (.v (.o (.b))) fun y1 =>
 .br (y1) (
  .br ((↑x0.n:Int) == (0:Int)) (
   .ret [.bool (true)]) <|
  .el (x0.a) (x0.n) ((0:Int)) fun y2 =>
  .ld false (y2.add (Int.toNat (0:Int)*(1:Nat))) (.o (.i .i64)) fun y3 =>
  .rq ((2:Int)≠(0:Int)) <|
  .ret [.bool (y3.tmod (2:Int) == (0:Int))]) <|
 .ret [.bool (false)]
theorem fS_NatEven (x0:SlV):fits Tryz.prog aS_NatEven 211 [Sc.val .l (x0)] (tS_NatEven x0) :=
 fitK (by kernel_rfl)
def aI_natOf:An:=⟨[(2,[.s 0,.s 3],[.o (.o (.i .u64)),.a 3])],[],[]⟩
noncomputable def tI_natOf (x0:Int):T :=
 .lp [.o (.o (.i .u64)),.a 3] [.v (.int .u64 (x0)),.a 3 ((0:Nat)) []] fun y1 =>
 .br (decide (y1.1 > (0:Int))) (
  .rq ((1000000000:Int)≠(0:Int)) <|
  .rq ([Value.int IntKind.i64 (IntKind.i64.wrap (Int.tmod y1.1 (1000000000:Int)))].length=(1:Nat)*(1:Nat)) <|
  .rq (one [Value.int IntKind.i64 (IntKind.i64.wrap (Int.tmod y1.1 (1000000000:Int)))]=true∧(y1.2.1.1+(1:Nat))*(8:Nat)≤(140737488355328:Nat)∧y1.2.1.1+(1:Nat)≤(9223372036854775807:Nat)) <|
  .rq ((1000000000:Int)≠(0:Int)) <|
  .nx 0 [.v (.int .u64 (IntKind.u64.wrap (Int.tdiv y1.1 (1000000000:Int)))),.a 3 (y1.2.1.1+(1:Nat)) (y1.2.1.2++[Value.int IntKind.i64 (IntKind.i64.wrap (Int.tmod y1.1 (1000000000:Int)))])]) <|
 .fz (y1.2.1.1) (y1.2.1.2) 3 fun b2 c2 =>
 .ret [.slice (some { block:=b2,off:=(0:Nat):Addr }) (y1.2.1.1) (c2)]
theorem fI_natOf (x0:Int):fits Tryz.prog aI_natOf 212 [.int .u64 (x0)] (tI_natOf x0) :=
 fitK (by kernel_rfl)
def aI_subTimes:An:=⟨[(3,[.s 0,.s 7,.s 13],[.o (.o (.l)),.o (.o (.i .i64)),.o (.o (.i .i64))])],[],[]⟩
noncomputable def tI_subTimes (x0:SlV) (x1:SlV) (x2:Int):T :=
 .lp [.o (.o (.l)),.o (.o (.i .i64)),.o (.o (.i .i64))] [.v (Sc.val .l (x0)),.v (.int .i64 ((0:Int))),.v (.int .i64 ((0:Int)))] fun y1 =>
 .br (decide (y1.2.2.1<(↑x1.n:Int))) (
  .el (x1.a) (x1.n) (y1.2.2.1) fun y2 =>
  .ld false (y2.add (Int.toNat y1.2.2.1*(1:Nat))) (.o (.i .i64)) fun y3 =>
  .el (y1.1.a) (y1.1.n) (y1.2.2.1) fun y4 =>
  .ld false (y4.add (Int.toNat y1.2.2.1*(1:Nat))) (.o (.i .i64)) fun y5 =>
  .br (decide (IntKind.i64.wrap (IntKind.i64.wrap (y5-IntKind.i64.wrap (y3*x2))-y1.2.1)<(0:Int))) (
   .rq ((1000000000:Int)≠(0:Int)) <|
   .el (y1.1.a) (y1.1.n) (y1.2.2.1) fun y6 =>
   .st (y6.add (Int.toNat y1.2.2.1*(1:Nat))) [.int .i64 (IntKind.i64.wrap (IntKind.i64.wrap (IntKind.i64.wrap (y5-IntKind.i64.wrap (y3*x2))-y1.2.1)+IntKind.i64.wrap (IntKind.i64.wrap ((IntKind.i64.wrap (IntKind.i64.wrap (IntKind.i64.wrap ((0:Int)-IntKind.i64.wrap (IntKind.i64.wrap (y5-IntKind.i64.wrap (y3*x2))-y1.2.1))+(1000000000:Int))-(1:Int))).tdiv (1000000000:Int))*(1000000000:Int))))] <|
   .nx 0 [.v (Sc.val .l (y1.1)),.v (.int .i64 (IntKind.i64.wrap ((IntKind.i64.wrap (IntKind.i64.wrap (IntKind.i64.wrap ((0:Int)-IntKind.i64.wrap (IntKind.i64.wrap (y5-IntKind.i64.wrap (y3*x2))-y1.2.1))+(1000000000:Int))-(1:Int))).tdiv (1000000000:Int)))),.v (.int .i64 (IntKind.i64.wrap (y1.2.2.1+(1:Int))))]) <|
  .el (y1.1.a) (y1.1.n) (y1.2.2.1) fun y6 =>
  .st (y6.add (Int.toNat y1.2.2.1*(1:Nat))) [.int .i64 (IntKind.i64.wrap (IntKind.i64.wrap (y5-IntKind.i64.wrap (y3*x2))-y1.2.1))] <|
  .nx 0 [.v (Sc.val .l (y1.1)),.v (.int .i64 ((0:Int))),.v (.int .i64 (IntKind.i64.wrap (y1.2.2.1+(1:Int))))]) <|
 .el (y1.1.a) (y1.1.n) ((↑x1.n:Int)) fun y2 =>
 .ld false (y2.add ((↑x1.n:Int).toNat*(1:Nat))) (.o (.i .i64)) fun y3 =>
 .el (y1.1.a) (y1.1.n) ((↑x1.n:Int)) fun y4 =>
 .st (y4.add ((↑x1.n:Int).toNat*(1:Nat))) [.int .i64 (IntKind.i64.wrap (y3-y1.2.1))] <|
 .el (y1.1.a) (y1.1.n) ((↑x1.n:Int)) fun y5 =>
 .ld false (y5.add ((↑x1.n:Int).toNat*(1:Nat))) (.o (.i .i64)) fun y6 =>
 .ret [.bool (decide (y6<(0:Int)))]
theorem fI_subTimes (x0:SlV) (x1:SlV) (x2:Int):fits Tryz.prog aI_subTimes 213 [Sc.val .l (x0),Sc.val .l (x1),.int .i64 (x2)] (tI_subTimes x0 x1 x2) :=
 fitK (by kernel_rfl)
def aI_addBack:An:=⟨[(2,[.s 0,.s 4,.s 9],[.o (.o (.l)),.o (.o (.i .i64)),.o (.o (.i .i64))])],[],[]⟩
noncomputable def tI_addBack (x0:SlV) (x1:SlV):T :=
 .lp [.o (.o (.l)),.o (.o (.i .i64)),.o (.o (.i .i64))] [.v (Sc.val .l (x0)),.v (.int .i64 ((0:Int))),.v (.int .i64 ((0:Int)))] fun y1 =>
 .br (decide (y1.2.2.1<(↑x1.n:Int))) (
  .el (x1.a) (x1.n) (y1.2.2.1) fun y2 =>
  .ld false (y2.add (Int.toNat y1.2.2.1*(1:Nat))) (.o (.i .i64)) fun y3 =>
  .el (y1.1.a) (y1.1.n) (y1.2.2.1) fun y4 =>
  .ld false (y4.add (Int.toNat y1.2.2.1*(1:Nat))) (.o (.i .i64)) fun y5 =>
  .rq ((1000000000:Int)≠(0:Int)) <|
  .el (y1.1.a) (y1.1.n) (y1.2.2.1) fun y6 =>
  .st (y6.add (Int.toNat y1.2.2.1*(1:Nat))) [.int .i64 ((IntKind.i64.wrap (y1.2.1+IntKind.i64.wrap (y5+y3))).tmod (1000000000:Int))] <|
  .rq ((1000000000:Int)≠(0:Int)) <|
  .nx 0 [.v (Sc.val .l (y1.1)),.v (.int .i64 (IntKind.i64.wrap ((IntKind.i64.wrap (y1.2.1+IntKind.i64.wrap (y5+y3))).tdiv (1000000000:Int)))),.v (.int .i64 (IntKind.i64.wrap (y1.2.2.1+(1:Int))))]) <|
 .el (y1.1.a) (y1.1.n) ((↑x1.n:Int)) fun y2 =>
 .ld false (y2.add ((↑x1.n:Int).toNat*(1:Nat))) (.o (.i .i64)) fun y3 =>
 .el (y1.1.a) (y1.1.n) ((↑x1.n:Int)) fun y4 =>
 .st (y4.add ((↑x1.n:Int).toNat*(1:Nat))) [.int .i64 (IntKind.i64.wrap (y3+y1.2.1))] <|
 .ret []
theorem fI_addBack (x0:SlV) (x1:SlV):fits Tryz.prog aI_addBack 214 [Sc.val .l (x0),Sc.val .l (x1)] (tI_addBack x0 x1) :=
 fitK (by kernel_rfl)
def aI_roundModes:An:=⟨[],[],[]⟩
noncomputable def tI_roundModes :T :=
 .ret [.agg #[.string ({ data:={ toList:=[(100:UInt8),(111:UInt8),(119:UInt8),(110:UInt8)]:Array UInt8 }:ByteArray }),(Value.func (Fn.func (219:Nat)) { toList:=[]:Array Value } { toList:=[]:Array Value }),.string ({ data:={ toList:=[(117:UInt8),(112:UInt8)]:Array UInt8 }:ByteArray }),(Value.func (Fn.func (220:Nat)) { toList:=[]:Array Value } { toList:=[]:Array Value }),.string ({ data:={ toList:=[(102:UInt8),(108:UInt8),(111:UInt8),(111:UInt8),(114:UInt8)]:Array UInt8 }:ByteArray }),(Value.func (Fn.func (221:Nat)) { toList:=[]:Array Value } { toList:=[]:Array Value }),.string ({ data:={ toList:=[(99:UInt8),(101:UInt8),(105:UInt8),(108:UInt8)]:Array UInt8 }:ByteArray }),(Value.func (Fn.func (222:Nat)) { toList:=[]:Array Value } { toList:=[]:Array Value }),.string ({ data:={ toList:=[(104:UInt8),(97:UInt8),(108:UInt8),(102:UInt8),(100:UInt8),(111:UInt8),(119:UInt8),(110:UInt8)]:Array UInt8 }:ByteArray }),(Value.func (Fn.func (223:Nat)) { toList:=[]:Array Value } { toList:=[]:Array Value }),.string ({ data:={ toList:=[(104:UInt8),(97:UInt8),(108:UInt8),(102:UInt8),(117:UInt8),(112:UInt8)]:Array UInt8 }:ByteArray }),(Value.func (Fn.func (224:Nat)) { toList:=[]:Array Value } { toList:=[]:Array Value }),.string ({ data:={ toList:=[(104:UInt8),(97:UInt8),(108:UInt8),(102:UInt8),(101:UInt8),(118:UInt8),(101:UInt8),(110:UInt8)]:Array UInt8 }:ByteArray }),(Value.func (Fn.func (225:Nat)) { toList:=[]:Array Value } { toList:=[]:Array Value })]]
theorem fI_roundModes :fits Tryz.prog aI_roundModes 215 [] (tI_roundModes ) :=
 fitK (by kernel_rfl)
def aI_NatEven:An:=⟨[],[],[]⟩
noncomputable def tI_NatEven (x0:SlV):T :=
 .call false 191 [Sc.val .l (x0)] (.v (.o (.b))) fun y1 =>
 .br (y1) (
  .br ((↑x0.n:Int) == (0:Int)) (
   .ret [.bool (true)]) <|
  .el (x0.a) (x0.n) ((0:Int)) fun y2 =>
  .ld false (y2.add (Int.toNat (0:Int)*(1:Nat))) (.o (.i .i64)) fun y3 =>
  .rq ((2:Int)≠(0:Int)) <|
  .ret [.bool (y3.tmod (2:Int) == (0:Int))]) <|
 .ret [.bool (false)]
theorem fI_NatEven (x0:SlV):fits Tryz.prog aI_NatEven 216 [Sc.val .l (x0)] (tI_NatEven x0) :=
 fitK (by kernel_rfl)
def aI_intsOk:An:=⟨[],[],[]⟩
noncomputable def tI_intsOk (x0:Bool × SlV × PUnit) (x1:Bool × SlV × PUnit):T :=
 .call false 167 [Sh1.val (.g [.b,.l]) (x0)] (.v (.o (.b))) fun y1 =>
 .br (y1) (
  .call false 167 [Sh1.val (.g [.b,.l]) (x1)] (.v (.o (.b))) fun y2 =>
  .ret [.bool (y2)]) <|
 .ret [.bool (false)]
theorem fI_intsOk (x0:Bool × SlV × PUnit) (x1:Bool × SlV × PUnit):fits Tryz.prog aI_intsOk 217 [Sh1.val (.g [.b,.l]) (x0),Sh1.val (.g [.b,.l]) (x1)] (tI_intsOk x0 x1) :=
 fitK (by kernel_rfl)
def aI_intNeg:An:=⟨[],[],[]⟩
noncomputable def tI_intNeg (x0:Bool × SlV × PUnit):T :=
 .rg <|
 .call true 203 [Sc.val .l (x0.2.1)] (.v (.o (.l))) fun y1 =>
 .call true 172 [.bool (!x0.1),Sc.val .l (y1)] (.v (.g [.b,.l])) fun y2 =>
 .ret [Sh1.val (.g [.b,.l]) (y2)]
theorem fI_intNeg (x0:Bool × SlV × PUnit):fits Tryz.prog aI_intNeg 218 [Sh1.val (.g [.b,.l]) (x0)] (tI_intNeg x0) :=
 fitK (by kernel_rfl)
def aI_roundModes_1:An:=⟨[],[],[]⟩
noncomputable def tI_roundModes_1 (_x0:Bool) (_x1:Int) (_x2:Bool):T :=
 .ret [.bool (false)]
theorem fI_roundModes_1 (x0:Bool) (x1:Int) (x2:Bool):fits Tryz.prog aI_roundModes_1 219 [.bool (x0),.int .i64 (x1),.bool (x2)] (tI_roundModes_1 x0 x1 x2) :=
 fitK (by kernel_rfl)
def aI_roundModes_2:An:=⟨[],[],[]⟩
noncomputable def tI_roundModes_2 (_x0:Bool) (_x1:Int) (_x2:Bool):T :=
 .ret [.bool (true)]
theorem fI_roundModes_2 (x0:Bool) (x1:Int) (x2:Bool):fits Tryz.prog aI_roundModes_2 220 [.bool (x0),.int .i64 (x1),.bool (x2)] (tI_roundModes_2 x0 x1 x2) :=
 fitK (by kernel_rfl)
def aI_roundModes_3:An:=⟨[],[],[]⟩
noncomputable def tI_roundModes_3 (x0:Bool) (_x1:Int) (_x2:Bool):T :=
 .ret [.bool (x0)]
theorem fI_roundModes_3 (x0:Bool) (x1:Int) (x2:Bool):fits Tryz.prog aI_roundModes_3 221 [.bool (x0),.int .i64 (x1),.bool (x2)] (tI_roundModes_3 x0 x1 x2) :=
 fitK (by kernel_rfl)
def aI_roundModes_4:An:=⟨[],[],[]⟩
noncomputable def tI_roundModes_4 (x0:Bool) (_x1:Int) (_x2:Bool):T :=
 .ret [.bool (!x0)]
theorem fI_roundModes_4 (x0:Bool) (x1:Int) (x2:Bool):fits Tryz.prog aI_roundModes_4 222 [.bool (x0),.int .i64 (x1),.bool (x2)] (tI_roundModes_4 x0 x1 x2) :=
 fitK (by kernel_rfl)
def aI_roundModes_5:An:=⟨[],[],[]⟩
noncomputable def tI_roundModes_5 (_x0:Bool) (x1:Int) (_x2:Bool):T :=
 .ret [.bool (decide (x1 > (0:Int)))]
theorem fI_roundModes_5 (x0:Bool) (x1:Int) (x2:Bool):fits Tryz.prog aI_roundModes_5 223 [.bool (x0),.int .i64 (x1),.bool (x2)] (tI_roundModes_5 x0 x1 x2) :=
 fitK (by kernel_rfl)
def aI_roundModes_6:An:=⟨[],[],[]⟩
noncomputable def tI_roundModes_6 (_x0:Bool) (x1:Int) (_x2:Bool):T :=
 .ret [.bool (decide (x1≥(0:Int)))]
theorem fI_roundModes_6 (x0:Bool) (x1:Int) (x2:Bool):fits Tryz.prog aI_roundModes_6 224 [.bool (x0),.int .i64 (x1),.bool (x2)] (tI_roundModes_6 x0 x1 x2) :=
 fitK (by kernel_rfl)
def aI_roundModes_7:An:=⟨[],[],[]⟩
noncomputable def tI_roundModes_7 (_x0:Bool) (x1:Int) (x2:Bool):T :=
 .br (decide (x1 > (0:Int))) (
  .ret [.bool (true)]) <|
 .br (x1 == (0:Int)) (
  .ret [.bool (x2)]) <|
 .ret [.bool (false)]
theorem fI_roundModes_7 (x0:Bool) (x1:Int) (x2:Bool):fits Tryz.prog aI_roundModes_7 225 [.bool (x0),.int .i64 (x1),.bool (x2)] (tI_roundModes_7 x0 x1 x2) :=
 fitK (by kernel_rfl)
end Go.Proofs.YtagjmmpiglgmhaaGreatDoor
