/-
  What each function of the seat comes to, as a tree; each tree is checked against the code.
-/
import Derived.Test.YtagkjnpggkmehaaGreatDoorEngD
import Derived.Test.YtagkjnpggkmehaaGreatDoorChecked
import Derived.KernelRfl
namespace Go.Proofs.YtagkjnpggkmehaaGreatDoor
open Sx
set_option maxRecDepth 100000
noncomputable section
abbrev qft:=@fits Tryz.prog
abbrev qa0:An:=⟨[],[],[]⟩
abbrev _root_.Sx.T.rF:T:=.ret [.bool false]
abbrev _root_.Sx.T.rT:T:=.ret [.bool true]
abbrev _root_.Sx.T.rM:T:=.ret [.int .i64 (-1)]
abbrev _root_.Sx.T.bF (b:Bool) (y:T):T:=.br (!b) (.ret [.bool false]) y
abbrev _root_.Sx.T.bn (b:Bool) (x:T) (y:T):T:=.br (!b) x y
abbrev _root_.Sx.T.qc0 (g:Nat) (l:List Value) (k:Sh.ty (.v (.g [.l,.l,.s,.l]))→T):T:=.call false g l (.v (.g [.l,.l,.s,.l])) k
abbrev _root_.Sx.T.qc1 (g:Nat) (l:List Value) (k:Sh.ty (.v (.o (.s)))→T):T:=.call false g l (.v (.o (.s))) k
abbrev _root_.Sx.T.qc2 (g:Nat) (l:List Value) (k:Sh.ty (.t [(.g [.l,.l,.s,.l]),(.o (.b))])→T):T:=.call false g l (.t [(.g [.l,.l,.s,.l]),(.o (.b))]) k
abbrev _root_.Sx.T.qc3 (g:Nat) (l:List Value) (k:Sh.ty (.v (.o (.b)))→T):T:=.call true g l (.v (.o (.b))) k
abbrev _root_.Sx.T.qc4 (g:Nat) (l:List Value) (k:Sh.ty (.v (.o (.s)))→T):T:=.call true g l (.v (.o (.s))) k
abbrev _root_.Sx.T.qc5 (g:Nat) (l:List Value) (k:Sh.ty (.v (.o (.b)))→T):T:=.call false g l (.v (.o (.b))) k
abbrev _root_.Sx.T.ql6 (a:Addr) (k:Sh1.ty (.g [.s,.b,.l,.l])→T):T:=.ld false a (.g [.s,.b,.l,.l]) k
abbrev _root_.Sx.T.qc7 (g:Nat) (l:List Value) (k:Sh.ty (.v (.o (.i .i64)))→T):T:=.call true g l (.v (.o (.i .i64))) k
abbrev _root_.Sx.T.ql8 (a:Addr) (k:Sh1.ty (.o (.s))→T):T:=.ld true a (.o (.s)) k
abbrev _root_.Sx.T.qc9 (g:Nat) (l:List Value) (k:Sh.ty (.v (.o (.l)))→T):T:=.call false g l (.v (.o (.l))) k
abbrev _root_.Sx.T.ql10 (a:Addr) (k:Sh1.ty (.o (.s))→T):T:=.ld false a (.o (.s)) k
abbrev _root_.Sx.T.ql11 (a:Addr) (k:Sh1.ty (.g [.l,.l,.s,.l])→T):T:=.ld false a (.g [.l,.l,.s,.l]) k
abbrev _root_.Sx.T.qc12 (g:Nat) (l:List Value) (k:Sh.ty (.v (.o (.p)))→T):T:=.call false g l (.v (.o (.p))) k
abbrev _root_.Sx.T.ql13 (a:Addr) (k:Sh1.ty (.g [.s,.s,.b,.l,.i .i64])→T):T:=.ld false a (.g [.s,.s,.b,.l,.i .i64]) k
abbrev _root_.Sx.T.ql14 (a:Addr) (k:Sh1.ty (.g [.s,.s,.b,.l])→T):T:=.ld false a (.g [.s,.s,.b,.l]) k
abbrev _root_.Sx.T.qc15 (g:Nat) (l:List Value) (k:Sh.ty (.t [(.o (.s)),(.o (.s)),(.o (.b))])→T):T:=.call false g l (.t [(.o (.s)),(.o (.s)),(.o (.b))]) k
abbrev _root_.Sx.T.qc16 (g:Nat) (l:List Value) (k:Sh.ty (.t [(.g [.b,.l,.l]),(.o (.b))])→T):T:=.call false g l (.t [(.g [.b,.l,.l]),(.o (.b))]) k
abbrev _root_.Sx.T.ql17 (a:Addr) (k:Sh1.ty (.o (.i .u8))→T):T:=.ld false a (.o (.i .u8)) k
abbrev _root_.Sx.T.qc18 (g:Nat) (l:List Value) (k:Sh.ty (.t [(.g [.s,.s,.i .i64,.i .i64]),(.o (.b))])→T):T:=.call false g l (.t [(.g [.s,.s,.i .i64,.i .i64]),(.o (.b))]) k
abbrev _root_.Sx.T.ql19 (a:Addr) (k:Sh1.ty (.o (.i .i64))→T):T:=.ld false a (.o (.i .i64)) k
abbrev _root_.Sx.T.qc20 (g:Nat) (l:List Value) (k:Sh.ty (.v (.o (.i .i64)))→T):T:=.call false g l (.v (.o (.i .i64))) k
abbrev _root_.Sx.T.qc21 (g:Nat) (l:List Value) (k:Sh.ty (.t [(.g [.s,.s,.b,.l,.i .i64]),(.o (.b))])→T):T:=.call false g l (.t [(.g [.s,.s,.b,.l,.i .i64]),(.o (.b))]) k
abbrev _root_.Sx.T.ql22 (a:Addr) (k:Sh1.ty (.o (.l))→T):T:=.ld true a (.o (.l)) k
abbrev _root_.Sx.T.qc23 (g:Nat) (l:List Value) (k:Sh.ty (.t [(.g [.s,.b,.l]),(.o (.b))])→T):T:=.call false g l (.t [(.g [.s,.b,.l]),(.o (.b))]) k
abbrev _root_.Sx.T.qc24 (g:Nat) (l:List Value) (k:Sh.ty (.t [(.g [.s,.b,.l,.l]),(.o (.b))])→T):T:=.call false g l (.t [(.g [.s,.b,.l,.l]),(.o (.b))]) k
abbrev _root_.Sx.T.qc25 (g:Nat) (l:List Value) (k:Sh.ty (.v (.g [.l]))→T):T:=.call false g l (.v (.g [.l])) k
abbrev _root_.Sx.T.qc26 (g:Nat) (l:List Value) (k:Sh.ty (.v (.g [.s,.l]))→T):T:=.call false g l (.v (.g [.s,.l])) k
abbrev _root_.Sx.T.qc27 (g:Nat) (l:List Value) (k:Sh.ty (.t [(.o (.l)),(.o (.b))])→T):T:=.call false g l (.t [(.o (.l)),(.o (.b))]) k
abbrev _root_.Sx.T.qc28 (g:Nat) (l:List Value) (k:Sh.ty (.v (.g [.s,.s,.i .i64,.i .i64]))→T):T:=.call false g l (.v (.g [.s,.s,.i .i64,.i .i64])) k
abbrev _root_.Sx.T.qc29 (g:Nat) (l:List Value) (k:Sh.ty (.v (.g [.b,.l,.l]))→T):T:=.call true g l (.v (.g [.b,.l,.l])) k
abbrev _root_.Sx.T.qc30 (g:Nat) (l:List Value) (k:Sh.ty (.t [(.g [.b,.l]),(.o (.b))])→T):T:=.call false g l (.t [(.g [.b,.l]),(.o (.b))]) k
abbrev _root_.Sx.T.qc31 (g:Nat) (l:List Value) (k:Sh.ty (.v (.g [.b,.l]))→T):T:=.call false g l (.v (.g [.b,.l])) k
abbrev _root_.Sx.T.qc32 (g:Nat) (l:List Value) (k:Sh.ty (.v (.g [.b,.l,.l]))→T):T:=.call false g l (.v (.g [.b,.l,.l])) k
abbrev _root_.Sx.T.ql33 (a:Addr) (k:Sh1.ty (.o (.i .i64))→T):T:=.ld true a (.o (.i .i64)) k
abbrev _root_.Sx.T.ql34 (a:Addr) (k:Sh1.ty (.g [.s,.s,.i .i64,.i .i64,.s,.s,.i .i64,.i .i64,.s,.s,.i .i64,.i .i64,.s,.s,.i .i64,.i .i64,.s,.s,.i .i64,.i .i64,.s,.s,.i .i64,.i .i64,.s,.s,.i .i64,.i .i64,.s,.s,.i .i64,.i .i64,.s,.s,.i .i64,.i .i64,.s,.s,.i .i64,.i .i64,.s,.s,.i .i64,.i .i64,.s,.s,.i .i64,.i .i64,.s,.s,.i .i64,.i .i64,.s,.s,.i .i64,.i .i64,.s,.s,.i .i64,.i .i64,.s,.s,.i .i64,.i .i64,.s,.s,.i .i64,.i .i64,.s,.s,.i .i64,.i .i64,.s,.s,.i .i64,.i .i64,.s,.s,.i .i64,.i .i64])→T):T:=.ld false a (.g [.s,.s,.i .i64,.i .i64,.s,.s,.i .i64,.i .i64,.s,.s,.i .i64,.i .i64,.s,.s,.i .i64,.i .i64,.s,.s,.i .i64,.i .i64,.s,.s,.i .i64,.i .i64,.s,.s,.i .i64,.i .i64,.s,.s,.i .i64,.i .i64,.s,.s,.i .i64,.i .i64,.s,.s,.i .i64,.i .i64,.s,.s,.i .i64,.i .i64,.s,.s,.i .i64,.i .i64,.s,.s,.i .i64,.i .i64,.s,.s,.i .i64,.i .i64,.s,.s,.i .i64,.i .i64,.s,.s,.i .i64,.i .i64,.s,.s,.i .i64,.i .i64,.s,.s,.i .i64,.i .i64,.s,.s,.i .i64,.i .i64,.s,.s,.i .i64,.i .i64]) k
abbrev _root_.Sx.T.qc35 (g:Nat) (l:List Value) (k:Sh.ty (.t [(.o (.l)),(.o (.l))])→T):T:=.call false g l (.t [(.o (.l)),(.o (.l))]) k
abbrev _root_.Sx.T.qc36 (g:Nat) (l:List Value) (k:Sh.ty (.t [(.o (.l)),(.o (.i .i64))])→T):T:=.call false g l (.t [(.o (.l)),(.o (.i .i64))]) k
abbrev _root_.Sx.T.qc37 (g:Nat) (l:List Value) (k:Sh.ty (.t [(.g [.b,.l,.i .i64]),(.o (.b))])→T):T:=.call false g l (.t [(.g [.b,.l,.i .i64]),(.o (.b))]) k
abbrev _root_.Sx.T.qc38 (g:Nat) (l:List Value) (k:Sh.ty (.t [(.g [.l]),(.o (.b))])→T):T:=.call false g l (.t [(.g [.l]),(.o (.b))]) k
abbrev _root_.Sx.T.qc39 (g:Nat) (l:List Value) (k:Sh.ty (.v (.g [.b,.l]))→T):T:=.call true g l (.v (.g [.b,.l])) k
abbrev _root_.Sx.T.qc40 (g:Nat) (l:List Value) (k:Sh.ty (.v (.g [.s,.s,.b,.l,.i .i64]))→T):T:=.call false g l (.v (.g [.s,.s,.b,.l,.i .i64])) k
abbrev _root_.Sx.T.qc41 (g:Nat) (l:List Value) (k:Sh.ty (.t [(.g [.s,.l]),(.o (.b))])→T):T:=.call false g l (.t [(.g [.s,.l]),(.o (.b))]) k
abbrev _root_.Sx.T.ql42 (a:Addr) (k:Sh1.ty (.g [.s,.s,.i .i64,.i .i64])→T):T:=.ld false a (.g [.s,.s,.i .i64,.i .i64]) k
abbrev _root_.Sx.T.qc43 (g:Nat) (l:List Value) (k:Sh.ty (.v (.o (.l)))→T):T:=.call true g l (.v (.o (.l))) k
abbrev _root_.Sx.T.ql44 (a:Addr) (k:Sh1.ty (.o (.i .u8))→T):T:=.ld true a (.o (.i .u8)) k
abbrev _root_.Sx.T.qc45 (g:Nat) (l:List Value) (k:Sh.ty (.t [])→T):T:=.call false g l (.t []) k
abbrev _root_.Sx.T.ql46 (a:Addr) (k:Sh1.ty (.g [.s,.b,.l])→T):T:=.ld true a (.g [.s,.b,.l]) k
abbrev _root_.Sx.T.qc47 (g:Nat) (l:List Value) (k:Sh.ty (.v (.g [.s,.s,.b,.l,.i .i64]))→T):T:=.call true g l (.v (.g [.s,.s,.b,.l,.i .i64])) k
abbrev _root_.Sx.T.qc48 (g:Nat) (l:List Value) (k:Sh.ty (.v (.g [.s,.b,.l]))→T):T:=.call true g l (.v (.g [.s,.b,.l])) k
def tL_FnState (x0:SlV):T :=
 .br (decide ((↑x0.n:Int) > (1048576:Int))) (
  .rT) <|
 .qc0 29 [Sc.val .l x0] fun y1 =>
 .qc1 30 [qv7 y1] fun y2 =>
 .qc2 25 [.string y2] fun y3 =>
 .rg <|
 .br y3.2.1 (
  .qc3 31 [qv7 y3.1,qv7 y1] fun y4 =>
  .br y4 (
   .qc4 30 [qv7 y3.1] fun y5 =>
   .qc1 30 [qv7 y1] fun y6 =>
   .ret [.bool (y5.toList == y6.toList)]) <|
 .rF) <|
 .rF
theorem fL_FnState x0:qft qa0 6 [Sc.val .l x0] (tL_FnState x0) :=fitK (by kernel_rfl)
def tI_RestsSame (x0:SlV) (x1:SlV):T :=
 .qc5 49 [Sc.val .l x0,Sc.val .l x1,(Value.func (Fn.func (50:Nat)) { toList:=[]:Array Value } { toList:=[]:Array Value })] fun y1 =>
 .ret [.bool y1]
theorem fI_RestsSame x0 x1:qft qa0 16 [Sc.val .l x0,Sc.val .l x1] (tI_RestsSame x0 x1) :=fitK (by kernel_rfl)
def aI_RestsOk:An:=⟨[(2,[.s 7],[.o (.o (.i .i64))])],[],[]⟩
def tI_RestsOk (x0:SlV):T :=
 .lp [.o (.o (.i .i64))] [.v (.int .i64 0)] fun y1 =>
 .br (decide (y1.1<(↑x0.n:Int))) (
  .el x0.1 (x0.n) y1.1 fun y2 =>
  .ql6 (y2.add (Int.toNat y1.1*(4:Nat))) fun y3 =>
  .rg <|
 .qc3 52 [.string y3.1] fun y4 =>
  .bF y4 <|
 .qc3 53 [qv1 y3.2] fun y5 =>
  .bF y5 <|
 .qc7 54 [qv1 y3.2] fun y6 =>
  .br (y6 == (0:Int)) (
   .rF) <|
 .br (decide (y1.1 > (0:Int))) (
   .el x0.1 (x0.n) (IntKind.i64.wrap (y1.1-(1:Int))) fun y7 =>
   .ql8 ((y7.add ((IntKind.i64.wrap (y1.1-(1:Int))).toNat*(4:Nat))).add (0:Nat)) fun y8 =>
   .br (!Op.bytesLess y8.toList (ByteArray.toList y3.1)) (
    .rF) <|
 .nx 0 [.v (.int .i64 (IntKind.i64.wrap (y1.1+(1:Int))))]) <|
 .nx 0 [.v (.int .i64 (IntKind.i64.wrap (y1.1+(1:Int))))]) <|
 .rT
theorem fI_RestsOk x0:qft aI_RestsOk 17 [Sc.val .l x0] (tI_RestsOk x0) :=fitK (by kernel_rfl)
def aI_TextLedger:An:=⟨[(6,[.s 16],[.o (.o (.i .i64))])],[],[(2000006,[.s 4])]⟩
def tI_TextLedger (x0:ByteArray):T :=
 .qc9 70 [.string x0] fun y1 =>
 .br (decide ((↑y1.n:Int) > (45:Int))) (
  .ret [qv7 (nilS,nilS,({ data:={ toList:=[]:Array UInt8 }:ByteArray }),nilS,()),.bool (false)]) <|
 .es [.slice none 0 0,.slice none 0 0,.string ({ data:={ toList:=[]:Array UInt8 }:ByteArray }),.slice none 0 0] 56 fun b2 =>
 .lp [.o (.o (.i .i64))] [.v (.int .i64 0)] fun y3 =>
 .br (decide (y3.1<(↑y1.n:Int))) (
  .el y1.1 (y1.n) y3.1 fun y4 =>
  .ql10 (y4.add (Int.toNat y3.1*(1:Nat))) fun y5 =>
  .qc5 71 [.pointer (some { block:=b2,off:=(0:Nat):Addr }),.string y5] fun y6 =>
  .bn y6 (.ret [qv7 (nilS,nilS,({ data:={ toList:=[]:Array UInt8 }:ByteArray }),nilS,()),.bool (false)]) <|
 .nx 0 [.v (.int .i64 (IntKind.i64.wrap (y3.1+(1:Int))))]) <|
 .ql11 ({ block:=b2,off:=(0:Nat):Addr }) fun y4 =>
 .qc5 72 [qv7 y4] fun y5 =>
 .bn y5 (.ret [qv7 (nilS,nilS,({ data:={ toList:=[]:Array UInt8 }:ByteArray }),nilS,()),.bool (false)]) <|
 .ql11 ({ block:=b2,off:=(0:Nat):Addr }) fun y6 =>
 .qc1 30 [qv7 y6] fun y7 =>
 .br (!y7.toList == x0.toList) (
  .ret [qv7 (nilS,nilS,({ data:={ toList:=[]:Array UInt8 }:ByteArray }),nilS,()),.bool (false)]) <|
 .ql11 ({ block:=b2,off:=(0:Nat):Addr }) fun y8 =>
 .ret [qv7 y8,.bool (true)]
theorem fI_TextLedger x0:qft aI_TextLedger 25 [.string x0] (tI_TextLedger x0) :=fitK (by kernel_rfl)
def tS_MakeLedger (x0:SlV):T :=
 .qc12 43 [Sc.val .l x0] fun y1 =>
 .qc0 79 [.pointer (some y1)] fun y2 =>
 .ret [qv7 y2]
theorem fS_MakeLedger x0:qft qa0 29 [Sc.val .l x0] (tS_MakeLedger x0) :=fitK (by kernel_rfl)
def aI_LedgerText:An:=⟨[(5,[.s 3,.s 22],[.o (.o (.s)),.o (.o (.i .i64))]),(10,[.s 3,.s 37],[.o (.o (.s)),.o (.o (.i .i64))]),(15,[.s 3,.s 56],[.o (.o (.s)),.o (.o (.i .i64))])],[],[]⟩
def tI_LedgerText (x0:qy6):T :=
 .qc5 72 [qv7 x0] fun y1 =>
 .bn y1 (.ret [.string ({ data:={ toList:=[]:Array UInt8 }:ByteArray })]) <|
 .rq ({ data:={ toList:=[(112:UInt8),(105:UInt8),(118:UInt8),(111:UInt8),(116:UInt8),(32:UInt8)]:Array UInt8 }:ByteArray }.size+ByteArray.size x0.2.2.1≤(9223372036854775807:Nat)) <|
 .rq (({ data:={ toList:=[(112:UInt8),(105:UInt8),(118:UInt8),(111:UInt8),(116:UInt8),(32:UInt8)]:Array UInt8 }:ByteArray }++x0.2.2.1).size+{ data:={ toList:=[(10:UInt8)]:Array UInt8 }:ByteArray }.size≤(9223372036854775807:Nat)) <|
 .lp [.o (.o (.s)),.o (.o (.i .i64))] [.v (.string ({ data:={ toList:=[(112:UInt8),(105:UInt8),(118:UInt8),(111:UInt8),(116:UInt8),(32:UInt8)]:Array UInt8 }:ByteArray }++x0.2.2.1++{ data:={ toList:=[(10:UInt8)]:Array UInt8 }:ByteArray })),.v (.int .i64 0)] fun y2 =>
 .br (decide (y2.2.1<(↑x0.2.2.2.1.n:Int))) (
  .el x0.2.2.2.1.1 (x0.2.2.2.1.n) y2.2.1 fun y3 =>
  .ql13 (y3.add (Int.toNat y2.2.1*(5:Nat))) fun y4 =>
  .qc1 80 [qv5 y4] fun y5 =>
  .rq ({ data:={ toList:=[(114:UInt8),(97:UInt8),(116:UInt8),(101:UInt8),(32:UInt8)]:Array UInt8 }:ByteArray }.size+y5.size≤(9223372036854775807:Nat)) <|
 .rq (({ data:={ toList:=[(114:UInt8),(97:UInt8),(116:UInt8),(101:UInt8),(32:UInt8)]:Array UInt8 }:ByteArray }++y5).size+{ data:={ toList:=[(10:UInt8)]:Array UInt8 }:ByteArray }.size≤(9223372036854775807:Nat)) <|
 .rq (ByteArray.size y2.1+({ data:={ toList:=[(114:UInt8),(97:UInt8),(116:UInt8),(101:UInt8),(32:UInt8)]:Array UInt8 }:ByteArray }++y5++{ data:={ toList:=[(10:UInt8)]:Array UInt8 }:ByteArray }).size≤(9223372036854775807:Nat)) <|
 .nx 0 [.v (.string (y2.1++({ data:={ toList:=[(114:UInt8),(97:UInt8),(116:UInt8),(101:UInt8),(32:UInt8)]:Array UInt8 }:ByteArray }++y5++{ data:={ toList:=[(10:UInt8)]:Array UInt8 }:ByteArray }))),.v (.int .i64 (IntKind.i64.wrap (y2.2.1+(1:Int))))]) <|
 .lp [.o (.o (.s)),.o (.o (.i .i64))] [.v (.string y2.1),.v (.int .i64 0)] fun y3 =>
 .br (decide (y3.2.1<(↑x0.1.n:Int))) (
  .el x0.1.1 (x0.1.n) y3.2.1 fun y4 =>
  .ql14 (y4.add (Int.toNat y3.2.1*(4:Nat))) fun y5 =>
  .rg <|
 .rq ({ data:={ toList:=[(97:UInt8),(99:UInt8),(99:UInt8),(116:UInt8),(32:UInt8)]:Array UInt8 }:ByteArray }.size+ByteArray.size y5.1≤(9223372036854775807:Nat)) <|
 .rq (({ data:={ toList:=[(97:UInt8),(99:UInt8),(99:UInt8),(116:UInt8),(32:UInt8)]:Array UInt8 }:ByteArray }++y5.1).size+{ data:={ toList:=[(32:UInt8)]:Array UInt8 }:ByteArray }.size≤(9223372036854775807:Nat)) <|
 .qc4 81 [qv3 y5.2] fun y6 =>
  .rq (({ data:={ toList:=[(97:UInt8),(99:UInt8),(99:UInt8),(116:UInt8),(32:UInt8)]:Array UInt8 }:ByteArray }++y5.1++{ data:={ toList:=[(32:UInt8)]:Array UInt8 }:ByteArray }).size+y6.size≤(9223372036854775807:Nat)) <|
 .rq (({ data:={ toList:=[(97:UInt8),(99:UInt8),(99:UInt8),(116:UInt8),(32:UInt8)]:Array UInt8 }:ByteArray }++y5.1++{ data:={ toList:=[(32:UInt8)]:Array UInt8 }:ByteArray }++y6).size+{ data:={ toList:=[(10:UInt8)]:Array UInt8 }:ByteArray }.size≤(9223372036854775807:Nat)) <|
 .rq (ByteArray.size y3.1+({ data:={ toList:=[(97:UInt8),(99:UInt8),(99:UInt8),(116:UInt8),(32:UInt8)]:Array UInt8 }:ByteArray }++y5.1++{ data:={ toList:=[(32:UInt8)]:Array UInt8 }:ByteArray }++y6++{ data:={ toList:=[(10:UInt8)]:Array UInt8 }:ByteArray }).size≤(9223372036854775807:Nat)) <|
 .nx 1 [.v (.string (y3.1++({ data:={ toList:=[(97:UInt8),(99:UInt8),(99:UInt8),(116:UInt8),(32:UInt8)]:Array UInt8 }:ByteArray }++y5.1++{ data:={ toList:=[(32:UInt8)]:Array UInt8 }:ByteArray }++y6++{ data:={ toList:=[(10:UInt8)]:Array UInt8 }:ByteArray }))),.v (.int .i64 (IntKind.i64.wrap (y3.2.1+(1:Int))))]) <|
 .lp [.o (.o (.s)),.o (.o (.i .i64))] [.v (.string y3.1),.v (.int .i64 0)] fun y4 =>
 .br (decide (y4.2.1<(↑x0.2.1.n:Int))) (
  .el x0.2.1.1 (x0.2.1.n) y4.2.1 fun y5 =>
  .ql6 (y5.add (Int.toNat y4.2.1*(4:Nat))) fun y6 =>
  .qc1 47 [qv8 y6] fun y7 =>
  .rq ({ data:={ toList:=[(114:UInt8),(101:UInt8),(115:UInt8),(116:UInt8),(32:UInt8)]:Array UInt8 }:ByteArray }.size+y7.size≤(9223372036854775807:Nat)) <|
 .rq (({ data:={ toList:=[(114:UInt8),(101:UInt8),(115:UInt8),(116:UInt8),(32:UInt8)]:Array UInt8 }:ByteArray }++y7).size+{ data:={ toList:=[(10:UInt8)]:Array UInt8 }:ByteArray }.size≤(9223372036854775807:Nat)) <|
 .rq (ByteArray.size y4.1+({ data:={ toList:=[(114:UInt8),(101:UInt8),(115:UInt8),(116:UInt8),(32:UInt8)]:Array UInt8 }:ByteArray }++y7++{ data:={ toList:=[(10:UInt8)]:Array UInt8 }:ByteArray }).size≤(9223372036854775807:Nat)) <|
 .nx 2 [.v (.string (y4.1++({ data:={ toList:=[(114:UInt8),(101:UInt8),(115:UInt8),(116:UInt8),(32:UInt8)]:Array UInt8 }:ByteArray }++y7++{ data:={ toList:=[(10:UInt8)]:Array UInt8 }:ByteArray }))),.v (.int .i64 (IntKind.i64.wrap (y4.2.1+(1:Int))))]) <|
 .ret [.string y4.1]
theorem fI_LedgerText x0:qft aI_LedgerText 30 [qv7 x0] (tI_LedgerText x0) :=fitK (by kernel_rfl)
def tI_LedgerSame (x0:qy6) (x1:qy6):T :=
 .qc5 82 [qv4 (x0.1,()),qv4 (x1.1,())] fun y1 =>
 .br y1 (
  .qc5 16 [Sc.val .l x0.2.1,Sc.val .l x1.2.1] fun y2 =>
  .br y2 (
   .br (ByteArray.toList x0.2.2.1 == ByteArray.toList x1.2.2.1) (
    .qc5 83 [Sc.val .l x0.2.2.2.1,Sc.val .l x1.2.2.2.1,(Value.func (Fn.func (84:Nat)) { toList:=[]:Array Value } { toList:=[]:Array Value })] fun y3 =>
    .ret [.bool y3]) <|
 .rF) <|
 .rF) <|
 .rF
theorem fI_LedgerSame x0 x1:qft qa0 31 [qv7 x0,qv7 x1] (tI_LedgerSame x0 x1) :=fitK (by kernel_rfl)
def aS_RestsOk:An:=⟨[(2,[.s 7],[.o (.o (.i .i64))])],[],[]⟩
def tS_RestsOk (x0:SlV):T :=
 .lp [.o (.o (.i .i64))] [.v (.int .i64 0)] fun y1 =>
 .br (decide (y1.1<(↑x0.n:Int))) (
  .el x0.1 (x0.n) y1.1 fun y2 =>
  .ql6 (y2.add (Int.toNat y1.1*(4:Nat))) fun y3 =>
  .rg <|
 .qc3 89 [.string y3.1] fun y4 =>
  .bF y4 <|
 .qc3 90 [qv1 y3.2] fun y5 =>
  .bF y5 <|
 .qc7 91 [qv1 y3.2] fun y6 =>
  .br (y6 == (0:Int)) (
   .rF) <|
 .br (decide (y1.1 > (0:Int))) (
   .el x0.1 (x0.n) (IntKind.i64.wrap (y1.1-(1:Int))) fun y7 =>
   .ql8 ((y7.add ((IntKind.i64.wrap (y1.1-(1:Int))).toNat*(4:Nat))).add (0:Nat)) fun y8 =>
   .br (!Op.bytesLess y8.toList (ByteArray.toList y3.1)) (
    .rF) <|
 .nx 0 [.v (.int .i64 (IntKind.i64.wrap (y1.1+(1:Int))))]) <|
 .nx 0 [.v (.int .i64 (IntKind.i64.wrap (y1.1+(1:Int))))]) <|
 .rT
theorem fS_RestsOk x0:qft aS_RestsOk 35 [Sc.val .l x0] (tS_RestsOk x0) :=fitK (by kernel_rfl)
def tI_textRest (x0:ByteArray):T :=
 .qc15 94 [.string x0,.string ({ data:={ toList:=[(32:UInt8)]:Array UInt8 }:ByteArray })] fun y1 =>
 .qc16 95 [.string y1.2.1] fun y2 =>
 .br y1.2.2.1 (
  .ret [qv8 (y1.1,y2.1.1,y2.1.2.1,y2.1.2.2.1,()),.bool y2.2.1]) <|
 .ret [qv8 (y1.1,y2.1.1,y2.1.2.1,y2.1.2.2.1,()),.bool (false)]
theorem fI_textRest x0:qft qa0 38 [.string x0] (tI_textRest x0) :=fitK (by kernel_rfl)
def aS_l01New:An:=⟨[(3,[.s 3,.s 4],[.o (.o (.i .i64)),.o (.o (.i .i64))])],[],[]⟩
def tS_l01New (x0:SlV):T :=
 .lp [.o (.o (.i .i64)),.o (.o (.i .i64))] [.v (.int .i64 (IntKind.i64.wrap ((1616:Int)+(↑x0.n:Int)))),.v (.int .i64 0)] fun y1 =>
 .br (decide (y1.2.1<(↑x0.n:Int))) (
  .br (decide (y1.2.1<(4000:Int))) (
   .el x0.1 (x0.n) y1.2.1 fun y2 =>
   .ql17 (y2.add (Int.toNat y1.2.1*(1:Nat))) fun y3 =>
   .nx 0 [.v (.int .i64 (IntKind.i64.wrap (↑(BitVec.ofInt (64:Nat) (IntKind.i64.wrap (IntKind.i64.wrap (IntKind.i64.wrap (y1.1*(41:Int))+IntKind.i64.wrap y3)+(7:Int))) &&& BitVec.ofInt (64:Nat) (1073741823:Int)).toNat:Int))),.v (.int .i64 (IntKind.i64.wrap (y1.2.1+(1:Int))))]) <|
 .es [Sc.val .l x0,.int .i64 0,.int .i64 y1.1] 122 fun b2 =>
  .ret [.pointer (some { block:=b2,off:=(0:Nat):Addr })]) <|
 .es [Sc.val .l x0,.int .i64 0,.int .i64 y1.1] 122 fun b2 =>
 .ret [.pointer (some { block:=b2,off:=(0:Nat):Addr })]
theorem fS_l01New x0:qft aS_l01New 43 [Sc.val .l x0] (tS_l01New x0) :=fitK (by kernel_rfl)
def tI_restText (x0:qy8):T :=
 .rg <|
 .rq (ByteArray.size x0.1+{ data:={ toList:=[(32:UInt8)]:Array UInt8 }:ByteArray }.size≤(9223372036854775807:Nat)) <|
 .qc4 103 [qv1 x0.2] fun y1 =>
 .rq ((x0.1++{ data:={ toList:=[(32:UInt8)]:Array UInt8 }:ByteArray }).size+y1.size≤(9223372036854775807:Nat)) <|
 .ret [.string (x0.1++{ data:={ toList:=[(32:UInt8)]:Array UInt8 }:ByteArray }++y1)]
theorem fI_restText x0:qft qa0 47 [qv8 x0] (tI_restText x0) :=fitK (by kernel_rfl)
def tI_Join (x0:SlV) (x1:ByteArray):T :=
 .qc1 104 [Sc.val .l x0,.string x1] fun y1 =>
 .ret [.string y1]
theorem fI_Join x0 x1:qft qa0 48 [Sc.val .l x0,.string x1] (tI_Join x0 x1) :=fitK (by kernel_rfl)
def aX_EqualFunc_Rest:An:=⟨[(4,[.s 17],[.o (.o (.i .i64))])],[],[]⟩
def tX_EqualFunc_Rest (x0:SlV) (x1:SlV) (x2:Nat):T :=
 .br ((↑x0.n:Int) != (↑x1.n:Int)) (
  .rF) <|
 .lp [.o (.o (.i .i64))] [.v (.int .i64 0)] fun y1 =>
 .br (decide (y1.1<(↑x0.n:Int))) (
  .el x0.1 (x0.n) y1.1 fun y2 =>
  .ql6 (y2.add (Int.toNat y1.1*(4:Nat))) fun y3 =>
  .el x1.1 (x1.n) y1.1 fun y4 =>
  .ql6 (y4.add (Int.toNat y1.1*(4:Nat))) fun y5 =>
  .call false x2 [qv8 y3,qv8 y5] (.v (.o (.b))) fun y6 =>
  .bF y6 <|
 .nx 0 [.v (.int .i64 (IntKind.i64.wrap (y1.1+(1:Int))))]) <|
 .rT
theorem fX_EqualFunc_Rest x0 x1 x2:qft aX_EqualFunc_Rest 49 [Sc.val .l x0,Sc.val .l x1,(Value.func (Fn.func x2) { toList:=[]:Array Value } { toList:=[]:Array Value })] (tX_EqualFunc_Rest x0 x1 x2) :=fitK (by kernel_rfl)
def tI_RestsSame_1 (x0:qy8) (x1:qy8):T :=
 .br (ByteArray.toList x0.1 == ByteArray.toList x1.1) (
  .qc5 51 [qv1 x0.2,qv1 x1.2] fun y1 =>
  .ret [.bool y1]) <|
 .rF
theorem fI_RestsSame_1 x0 x1:qft qa0 50 [qv8 x0,qv8 x1] (tI_RestsSame_1 x0 x1) :=fitK (by kernel_rfl)
def tI_ratSame (x0:qy1) (x1:qy1):T :=
 .qc5 105 [qv0 (x0.1,x0.2.1,()),qv0 (x1.1,x1.2.1,())] fun y1 =>
 .br y1 (
  .qc5 106 [Sc.val .l x0.2.2.1,Sc.val .l x1.2.2.1] fun y2 =>
  .ret [.bool y2]) <|
 .rF
theorem fI_ratSame x0 x1:qft qa0 51 [qv1 x0,qv1 x1] (tI_ratSame x0 x1) :=fitK (by kernel_rfl)
def tI_CurKnown (x0:ByteArray):T :=
 .qc18 107 [.string x0] fun y1 =>
 .ret [.bool y1.2.1]
theorem fI_CurKnown x0:qft qa0 52 [.string x0] (tI_CurKnown x0) :=fitK (by kernel_rfl)
def tI_RatOk (x0:qy1):T :=
 .qc5 108 [qv0 (x0.1,x0.2.1,())] fun y1 =>
 .bF y1 <|
 .qc5 109 [Sc.val .l x0.2.2.1] fun y2 =>
 .bF y2 <|
 .br ((↑x0.2.2.1.n:Int) == (0:Int)) (
  .rF) <|
 .br (decide ((↑x0.2.2.1.n:Int) > (18:Int))) (
  .rF) <|
 .br (decide ((↑x0.2.1.n:Int) > (18:Int))) (
  .rF) <|
 .qc9 110 [Sc.val .l x0.2.1,Sc.val .l x0.2.2.1] fun y3 =>
 .br ((↑y3.n:Int) == (1:Int)) (
  .el y3.1 (y3.n) ((0:Int)) fun y4 =>
  .ql19 (y4.add (Int.toNat (0:Int)*(1:Nat))) fun y5 =>
  .ret [.bool (y5 == (1:Int))]) <|
 .rF
theorem fI_RatOk x0:qft qa0 53 [qv1 x0] (tI_RatOk x0) :=fitK (by kernel_rfl)
def tI_RatSign (x0:qy1):T :=
 .qc5 53 [qv1 x0] fun y1 =>
 .bn y1 (.ret [.int .i64 0]) <|
 .qc20 111 [qv0 (x0.1,x0.2.1,())] fun y2 =>
 .ret [.int .i64 y2]
theorem fI_RatSign x0:qft qa0 54 [qv1 x0] (tI_RatSign x0) :=fitK (by kernel_rfl)
def aI_natMul:An:=⟨[(3,[.s 5,.s 21],[.a 3,.o (.o (.i .i64))]),(7,[.s 5,.s 8,.s 28],[.a 3,.o (.o (.i .i64)),.o (.o (.i .i64))]),(14,[.s 5,.s 8,.s 11],[.a 3,.o (.o (.i .i64)),.o (.o (.i .i64))])],[],[]⟩
def tI_natMul (x0:SlV) (x1:SlV):T :=
 .rq ((0:Int)≤IntKind.i64.wrap (IntKind.i64.wrap ((↑x0.n:Int)+(↑x1.n:Int))+(1:Int))∧IntKind.i64.wrap (IntKind.i64.wrap ((↑x0.n:Int)+(↑x1.n:Int))+(1:Int))≤IntKind.i64.wrap (IntKind.i64.wrap ((↑x0.n:Int)+(↑x1.n:Int))+(1:Int))∧(↑(8:Nat):Int)*IntKind.i64.wrap (IntKind.i64.wrap ((↑x0.n:Int)+(↑x1.n:Int))+(1:Int))≤(281474976710656:Int)∧IntKind.i64.wrap (IntKind.i64.wrap ((↑x0.n:Int)+(↑x1.n:Int))+(1:Int))≤(9223372036854775807:Int)) <|
 .lp [.a 3,.o (.o (.i .i64))] [.a 3 ((IntKind.i64.wrap (IntKind.i64.wrap ((↑x0.n:Int)+(↑x1.n:Int))+(1:Int))).toNat) ((madeCells { toList:=[Value.int IntKind.i64 (0:Int)]:Array Value } ((IntKind.i64.wrap (IntKind.i64.wrap ((↑x0.n:Int)+(↑x1.n:Int))+(1:Int))).toNat*(1:Nat))).toList),.v (.int .i64 0)] fun y1 =>
 .br (decide (y1.2.1<(↑x0.n:Int))) (
  .el x0.1 (x0.n) y1.2.1 fun y2 =>
  .ql19 (y2.add (Int.toNat y1.2.1*(1:Nat))) fun y3 =>
  .lp [.a 3,.o (.o (.i .i64)),.o (.o (.i .i64))] [.a 3 y1.1.1 y1.1.2,.v (.int .i64 0),.v (.int .i64 0)] fun y4 =>
  .br (decide (y4.2.2.1<(↑x1.n:Int))) (
   .el x1.1 (x1.n) y4.2.2.1 fun y5 =>
   .ql19 (y5.add (Int.toNat y4.2.2.1*(1:Nat))) fun y6 =>
   .rq ((0:Int)≤IntKind.i64.wrap (y1.2.1+y4.2.2.1)∧IntKind.i64.wrap (y1.2.1+y4.2.2.1)<(↑y4.1.1:Int)) <|
 .xs y4.1.2 ((IntKind.i64.wrap (y1.2.1+y4.2.2.1)).toNat*(1:Nat)) (.o (.i .i64)) fun y7 =>
   .rq ((1000000000:Int)≠(0:Int)) <|
 .rq ((0:Int)≤IntKind.i64.wrap (y1.2.1+y4.2.2.1)∧IntKind.i64.wrap (y1.2.1+y4.2.2.1)<(↑y4.1.1:Int)) <|
 .rq ((IntKind.i64.wrap (y1.2.1+y4.2.2.1)).toNat*(1:Nat)+[Value.int IntKind.i64 ((IntKind.i64.wrap (y4.2.1+IntKind.i64.wrap (y7+IntKind.i64.wrap (y3*y6)))).tmod (1000000000:Int))].length≤y4.1.2.length) <|
 .rq ((1000000000:Int)≠(0:Int)) <|
 .nx 1 [.a 3 y4.1.1 (setl y4.1.2 ((IntKind.i64.wrap (y1.2.1+y4.2.2.1)).toNat*(1:Nat)) [Value.int IntKind.i64 ((IntKind.i64.wrap (y4.2.1+IntKind.i64.wrap (y7+IntKind.i64.wrap (y3*y6)))).tmod (1000000000:Int))]),.v (.int .i64 (IntKind.i64.wrap ((IntKind.i64.wrap (y4.2.1+IntKind.i64.wrap (y7+IntKind.i64.wrap (y3*y6)))).tdiv (1000000000:Int)))),.v (.int .i64 (IntKind.i64.wrap (y4.2.2.1+(1:Int))))]) <|
 .lp [.a 3,.o (.o (.i .i64)),.o (.o (.i .i64))] [.a 3 y4.1.1 y4.1.2,.v (.int .i64 y4.2.1),.v (.int .i64 (IntKind.i64.wrap (y1.2.1+(↑x1.n:Int))))] fun y5 =>
  .br (decide (y5.2.1 > (0:Int))) (
   .rq ((0:Int)≤y5.2.2.1∧y5.2.2.1<(↑y5.1.1:Int)) <|
 .xs y5.1.2 (Int.toNat y5.2.2.1*(1:Nat)) (.o (.i .i64)) fun y6 =>
   .rq ((1000000000:Int)≠(0:Int)) <|
 .rq ((0:Int)≤y5.2.2.1∧y5.2.2.1<(↑y5.1.1:Int)) <|
 .rq (Int.toNat y5.2.2.1*(1:Nat)+[Value.int IntKind.i64 ((IntKind.i64.wrap (y5.2.1+y6)).tmod (1000000000:Int))].length≤y5.1.2.length) <|
 .rq ((1000000000:Int)≠(0:Int)) <|
 .nx 2 [.a 3 y5.1.1 (setl y5.1.2 (Int.toNat y5.2.2.1*(1:Nat)) [Value.int IntKind.i64 ((IntKind.i64.wrap (y5.2.1+y6)).tmod (1000000000:Int))]),.v (.int .i64 (IntKind.i64.wrap ((IntKind.i64.wrap (y5.2.1+y6)).tdiv (1000000000:Int)))),.v (.int .i64 (IntKind.i64.wrap (y5.2.2.1+(1:Int))))]) <|
 .nx 0 [.a 3 y5.1.1 y5.1.2,.v (.int .i64 (IntKind.i64.wrap (y1.2.1+(1:Int))))]) <|
 .fz y1.1.1 y1.1.2 3 fun b2 c2 =>
 .qc9 121 [.slice (some { block:=b2,off:=(0:Nat):Addr }) y1.1.1 (c2)] fun y3 =>
 .ret [Sc.val .l y3]
theorem fI_natMul x0 x1:qft aI_natMul 65 [Sc.val .l x0,Sc.val .l x1] (tI_natMul x0 x1) :=fitK (by kernel_rfl)
def tI_Lines (x0:ByteArray):T :=
 .qc9 129 [.string x0,.string ({ data:={ toList:=[(10:UInt8)]:Array UInt8 }:ByteArray })] fun y1 =>
 .el y1.1 (y1.n) (IntKind.i64.wrap ((↑y1.n:Int)-(1:Int))) fun y2 =>
 .ql10 (y2.add ((IntKind.i64.wrap ((↑y1.n:Int)-(1:Int))).toNat*(1:Nat))) fun y3 =>
 .br (y3.toList == { data:={ toList:=[]:Array UInt8 }:ByteArray }.toList) (
  .rq ((0:Int)≤(0:Int)∧(0:Int)≤IntKind.i64.wrap ((↑y1.n:Int)-(1:Int))∧IntKind.i64.wrap ((↑y1.n:Int)-(1:Int))≤(↑y1.c:Int)∧(↑y1.c:Int)≤(↑y1.c:Int)) <|
 .ret [.slice (if (↑y1.c:Int).toNat=Int.toNat (0:Int) then y1.1 else Option.map (fun x=>x.add (Int.toNat (0:Int)*Go.Proofs.Tryz.prog.types[(9:Nat)].size)) y1.1) ((IntKind.i64.wrap ((↑y1.n:Int)-(1:Int))).toNat-Int.toNat (0:Int)) ((↑y1.c:Int).toNat-Int.toNat (0:Int))]) <|
 .ret [Sc.val .l y1]
theorem fI_Lines x0:qft qa0 70 [.string x0] (tI_Lines x0) :=fitK (by kernel_rfl)
def tI_readLine (x0:Addr) (x1:ByteArray):T :=
 .qc15 94 [.string x1,.string ({ data:={ toList:=[(32:UInt8)]:Array UInt8 }:ByteArray })] fun y1 =>
 .br (ByteArray.toList y1.1 == { data:={ toList:=[(112:UInt8),(105:UInt8),(118:UInt8),(111:UInt8),(116:UInt8)]:Array UInt8 }:ByteArray }.toList) (
  .st ((x0.add (2:Nat)).add (0:Nat)) [.string y1.2.1] <|
 .rT) <|
 .br (ByteArray.toList y1.1 == { data:={ toList:=[(114:UInt8),(97:UInt8),(116:UInt8),(101:UInt8)]:Array UInt8 }:ByteArray }.toList) (
  .qc21 130 [.string y1.2.1] fun y2 =>
  .rg <|
 .ql22 ((x0.add (2:Nat)).add (1:Nat)) fun y3 =>
  .rq ([Value.string y2.1.1,Value.string y2.1.2.1,Value.bool y2.1.2.2.1,Value.slice y2.1.2.2.2.1.1 y2.1.2.2.2.1.n y2.1.2.2.2.1.c,Value.int IntKind.i64 y2.1.2.2.2.2.1].length=(1:Nat)*(5:Nat)) <|
 .rq (one [Value.string y2.1.1,Value.string y2.1.2.1,Value.bool y2.1.2.2.1,Value.slice y2.1.2.2.2.1.1 y2.1.2.2.2.1.n y2.1.2.2.2.1.c,Value.int IntKind.i64 y2.1.2.2.2.2.1]=true) <|
 .ap ({ a:=y3.1,n:=y3.n,c:=y3.c:SlV }) 5 72 [.string y2.1.1,.string y2.1.2.1,.bool y2.1.2.2.1,Sc.val .l y2.1.2.2.2.1,.int .i64 y2.1.2.2.2.2.1] ((1:Nat)) 104 fun y4 =>
  .st ((x0.add (2:Nat)).add (1:Nat)) [Sc.val .l y4] <|
 .ret [.bool y2.2.1]) <|
 .br (ByteArray.toList y1.1 == { data:={ toList:=[(97:UInt8),(99:UInt8),(99:UInt8),(116:UInt8)]:Array UInt8 }:ByteArray }.toList) (
  .qc15 94 [.string y1.2.1,.string ({ data:={ toList:=[(32:UInt8)]:Array UInt8 }:ByteArray })] fun y2 =>
  .qc23 131 [.string y2.2.1] fun y3 =>
  .rg <|
 .ql22 ((x0.add (0:Nat)).add (0:Nat)) fun y4 =>
  .rq ([Value.string y2.1,Value.string y3.1.1,Value.bool y3.1.2.1,Value.slice y3.1.2.2.1.1 y3.1.2.2.1.n y3.1.2.2.1.c].length=(1:Nat)*(4:Nat)) <|
 .rq (one [Value.string y2.1,Value.string y3.1.1,Value.bool y3.1.2.1,Value.slice y3.1.2.2.1.1 y3.1.2.2.1.n y3.1.2.2.1.c]=true) <|
 .ap ({ a:=y4.1,n:=y4.n,c:=y4.c:SlV }) 4 64 [.string y2.1,.string y3.1.1,.bool y3.1.2.1,Sc.val .l y3.1.2.2.1] ((1:Nat)) 109 fun y5 =>
  .st ((x0.add (0:Nat)).add (0:Nat)) [Sc.val .l y5] <|
 .ret [.bool y3.2.1]) <|
 .br (ByteArray.toList y1.1 == { data:={ toList:=[(114:UInt8),(101:UInt8),(115:UInt8),(116:UInt8)]:Array UInt8 }:ByteArray }.toList) (
  .qc24 38 [.string y1.2.1] fun y2 =>
  .rg <|
 .ql22 (x0.add (1:Nat)) fun y3 =>
  .rq ([Value.string y2.1.1,Value.bool y2.1.2.1,Value.slice y2.1.2.2.1.1 y2.1.2.2.1.n y2.1.2.2.1.c,Value.slice y2.1.2.2.2.1.1 y2.1.2.2.2.1.n y2.1.2.2.2.1.c].length=(1:Nat)*(4:Nat)) <|
 .rq (one [Value.string y2.1.1,Value.bool y2.1.2.1,Value.slice y2.1.2.2.1.1 y2.1.2.2.1.n y2.1.2.2.1.c,Value.slice y2.1.2.2.2.1.1 y2.1.2.2.2.1.n y2.1.2.2.2.1.c]=true) <|
 .ap ({ a:=y3.1,n:=y3.n,c:=y3.c:SlV }) 4 72 [.string y2.1.1,.bool y2.1.2.1,Sc.val .l y2.1.2.2.1,Sc.val .l y2.1.2.2.2.1] ((1:Nat)) 40 fun y4 =>
  .st (x0.add (1:Nat)) [Sc.val .l y4] <|
 .ret [.bool y2.2.1]) <|
 .rF
theorem fI_readLine x0 x1:qft qa0 71 [.pointer (some x0),.string x1] (tI_readLine x0 x1) :=fitK (by kernel_rfl)
def tI_LedgerOk (x0:qy6):T :=
 .qc5 132 [qv4 (x0.1,())] fun y1 =>
 .br y1 (
  .qc5 17 [Sc.val .l x0.2.1] fun y2 =>
  .br y2 (
   .qc5 133 [qv6 x0.2.2] fun y3 =>
   .ret [.bool y3]) <|
 .rF) <|
 .rF
theorem fI_LedgerOk x0:qft qa0 72 [qv7 x0] (tI_LedgerOk x0) :=fitK (by kernel_rfl)
def aS_l20Draw:An:=⟨[(3,[.s 4,.c 3 0,.c 3 1,.c 3 2,.c 3 3],[.o (.o (.i .i64)),.o (.o (.l)),.o (.o (.l)),.o (.o (.s)),.o (.o (.l))])],[],[]⟩
def tS_l20Draw (x0:Addr):T :=
 .qc25 140 [.pointer (some x0)] fun y1 =>
 .qc26 141 [.pointer (some x0)] fun y2 =>
 .qc20 97 [.pointer (some x0),.int .i64 3] fun y3 =>
 .lp [.o (.o (.i .i64)),.o (.o (.l)),.o (.o (.l)),.o (.o (.s)),.o (.o (.l))] [.v (.int .i64 y3),.v (Sc.val .l y1.1),.v (.slice none 0 0),.v (.string y2.1),.v (Sc.val .l y2.2.1)] fun y4 =>
 .br (decide (y4.1 > (0:Int))) (
  .rf <|
 .cf 99 [.pointer (some x0)] (.v (.o (.s))) fun y5 =>
  .cf 100 [.pointer (some x0),.int .i64 1] (.v (.g [.b,.l,.l])) fun y6 =>
  .qc27 98 [Sc.val .l y4.2.2.1,.string y5,qv1 y6] fun y7 =>
  .br y7.2.1 (
   .nx 0 [.v (.int .i64 (IntKind.i64.wrap (y4.1-(1:Int)))),.v (Sc.val .l y4.2.1),.v (Sc.val .l y7.1),.v (.string y4.2.2.2.1),.v (Sc.val .l y4.2.2.2.2.1)]) <|
 .nx 0 [.v (.int .i64 (IntKind.i64.wrap (y4.1-(1:Int)))),.v (Sc.val .l y4.2.1),.v (Sc.val .l y4.2.2.1),.v (.string y4.2.2.2.1),.v (Sc.val .l y4.2.2.2.2.1)]) <|
 .ret [qv7 y4.2]
theorem fS_l20Draw x0:qft aS_l20Draw 79 [.pointer (some x0)] (tS_l20Draw x0) :=fitK (by kernel_rfl)
def tI_RateText (x0:qy4):T :=
 .qc5 142 [qv5 x0] fun y1 =>
 .bn y1 (.ret [.string ({ data:={ toList:=[]:Array UInt8 }:ByteArray })]) <|
 .rg <|
 .rq (ByteArray.size x0.1+{ data:={ toList:=[(32:UInt8)]:Array UInt8 }:ByteArray }.size≤(9223372036854775807:Nat)) <|
 .rq ((x0.1++{ data:={ toList:=[(32:UInt8)]:Array UInt8 }:ByteArray }).size+ByteArray.size x0.2.1≤(9223372036854775807:Nat)) <|
 .rq ((x0.1++{ data:={ toList:=[(32:UInt8)]:Array UInt8 }:ByteArray }++x0.2.1).size+{ data:={ toList:=[(32:UInt8)]:Array UInt8 }:ByteArray }.size≤(9223372036854775807:Nat)) <|
 .qc4 143 [qv2 x0.2.2] fun y2 =>
 .rq ((x0.1++{ data:={ toList:=[(32:UInt8)]:Array UInt8 }:ByteArray }++x0.2.1++{ data:={ toList:=[(32:UInt8)]:Array UInt8 }:ByteArray }).size+y2.size≤(9223372036854775807:Nat)) <|
 .ret [.string (x0.1++{ data:={ toList:=[(32:UInt8)]:Array UInt8 }:ByteArray }++x0.2.1++{ data:={ toList:=[(32:UInt8)]:Array UInt8 }:ByteArray }++y2)]
theorem fI_RateText x0:qft qa0 80 [qv5 x0] (tI_RateText x0) :=fitK (by kernel_rfl)
def tI_MoneyText (x0:qy2):T :=
 .qc5 144 [qv3 x0] fun y1 =>
 .bn y1 (.ret [.string ({ data:={ toList:=[]:Array UInt8 }:ByteArray })]) <|
 .rg <|
 .rq (ByteArray.size x0.1+{ data:={ toList:=[(32:UInt8)]:Array UInt8 }:ByteArray }.size≤(9223372036854775807:Nat)) <|
 .qc7 145 [.string x0.1] fun y2 =>
 .qc4 143 [qv2 (x0.2.1,x0.2.2.1,((y2):Int),())] fun y3 =>
 .rq ((x0.1++{ data:={ toList:=[(32:UInt8)]:Array UInt8 }:ByteArray }).size+y3.size≤(9223372036854775807:Nat)) <|
 .ret [.string (x0.1++{ data:={ toList:=[(32:UInt8)]:Array UInt8 }:ByteArray }++y3)]
theorem fI_MoneyText x0:qft qa0 81 [qv3 x0] (tI_MoneyText x0) :=fitK (by kernel_rfl)
def tI_BookSame (x0:qy3) (x1:qy3):T :=
 .qc5 146 [Sc.val .l x0.1,Sc.val .l x1.1,(Value.func (Fn.func (147:Nat)) { toList:=[]:Array Value } { toList:=[]:Array Value })] fun y1 =>
 .ret [.bool y1]
theorem fI_BookSame x0 x1:qft qa0 82 [qv4 x0,qv4 x1] (tI_BookSame x0 x1) :=fitK (by kernel_rfl)
def aX_EqualFunc_Rate:An:=⟨[(4,[.s 17],[.o (.o (.i .i64))])],[],[]⟩
def tX_EqualFunc_Rate (x0:SlV) (x1:SlV) (x2:Nat):T :=
 .br ((↑x0.n:Int) != (↑x1.n:Int)) (
  .rF) <|
 .lp [.o (.o (.i .i64))] [.v (.int .i64 0)] fun y1 =>
 .br (decide (y1.1<(↑x0.n:Int))) (
  .el x0.1 (x0.n) y1.1 fun y2 =>
  .ql13 (y2.add (Int.toNat y1.1*(5:Nat))) fun y3 =>
  .el x1.1 (x1.n) y1.1 fun y4 =>
  .ql13 (y4.add (Int.toNat y1.1*(5:Nat))) fun y5 =>
  .call false x2 [qv5 y3,qv5 y5] (.v (.o (.b))) fun y6 =>
  .bF y6 <|
 .nx 0 [.v (.int .i64 (IntKind.i64.wrap (y1.1+(1:Int))))]) <|
 .rT
theorem fX_EqualFunc_Rate x0 x1 x2:qft aX_EqualFunc_Rate 83 [Sc.val .l x0,Sc.val .l x1,(Value.func (Fn.func x2) { toList:=[]:Array Value } { toList:=[]:Array Value })] (tX_EqualFunc_Rate x0 x1 x2) :=fitK (by kernel_rfl)
def tI_rateSame (x0:qy4) (x1:qy4):T :=
 .br (ByteArray.toList x0.1 == ByteArray.toList x1.1) (
  .br (ByteArray.toList x0.2.1 == ByteArray.toList x1.2.1) (
   .qc5 149 [qv2 x0.2.2,qv2 x1.2.2] fun y1 =>
   .ret [.bool y1]) <|
 .rF) <|
 .rF
theorem fI_rateSame x0 x1:qft qa0 84 [qv5 x0,qv5 x1] (tI_rateSame x0 x1) :=fitK (by kernel_rfl)
def tS_CurKnown (x0:ByteArray):T :=
 .qc28 155 [.string x0] fun y1 =>
 .ret [.bool (!ByteArray.toList y1.1 == { data:={ toList:=[]:Array UInt8 }:ByteArray }.toList)]
theorem fS_CurKnown x0:qft qa0 89 [.string x0] (tS_CurKnown x0) :=fitK (by kernel_rfl)
def tS_RatOk (x0:qy1):T :=
 .qc5 156 [qv0 (x0.1,x0.2.1,())] fun y1 =>
 .bF y1 <|
 .qc5 157 [Sc.val .l x0.2.2.1] fun y2 =>
 .bF y2 <|
 .br ((↑x0.2.2.1.n:Int) == (0:Int)) (
  .rF) <|
 .br (decide ((↑x0.2.2.1.n:Int) > (18:Int))) (
  .rF) <|
 .br (decide ((↑x0.2.1.n:Int) > (18:Int))) (
  .rF) <|
 .qc9 158 [Sc.val .l x0.2.1,Sc.val .l x0.2.2.1] fun y3 =>
 .fz ((1:Nat)) [.int .i64 1] 3 fun b4 c4 =>
 .qc20 152 [Sc.val .l y3,.slice (some { block:=b4,off:=(0:Nat):Addr }) ((1:Nat)) (c4)] fun y5 =>
 .ret [.bool (y5 == (0:Int))]
theorem fS_RatOk x0:qft qa0 90 [qv1 x0] (tS_RatOk x0) :=fitK (by kernel_rfl)
def tS_RatSign (x0:qy1):T :=
 .rg <|
 .qc29 160 [] fun y1 =>
 .qc20 159 [qv1 x0,qv1 y1] fun y2 =>
 .ret [.int .i64 y2]
theorem fS_RatSign x0:qft qa0 91 [qv1 x0] (tS_RatSign x0) :=fitK (by kernel_rfl)
def tI_TextRat (x0:ByteArray):T :=
 .qc9 129 [.string x0,.string ({ data:={ toList:=[(47:UInt8)]:Array UInt8 }:ByteArray })] fun y1 =>
 .fz ((1:Nat)) [.int .i64 1] 3 fun b2 c2 =>
 .el y1.1 (y1.n) ((0:Int)) fun y3 =>
 .ql10 (y3.add (Int.toNat (0:Int)*(1:Nat))) fun y4 =>
 .qc30 165 [.string y4] fun y5 =>
 .bn y5.2.1 (.ret [qv1 ((false),nilS,nilS,()),.bool (false)]) <|
 .br (decide ((↑y1.n:Int) > (2:Int))) (
  .ret [qv1 ((false),nilS,nilS,()),.bool (false)]) <|
 .br ((↑y1.n:Int) == (2:Int)) (
  .el y1.1 (y1.n) ((1:Int)) fun y6 =>
  .ql10 (y6.add (Int.toNat (1:Int)*(1:Nat))) fun y7 =>
  .qc27 166 [.string y7] fun y8 =>
  .bn y8.2.1 (.ret [qv1 ((false),nilS,nilS,()),.bool (false)]) <|
 .qc5 167 [Sc.val .l y8.1] fun y9 =>
  .br y9 (
   .ret [qv1 ((false),nilS,nilS,()),.bool (false)]) <|
 .qc5 53 [qv1 (y5.1.1,y5.1.2.1,y8.1,())] fun y10 =>
  .bn y10 (.ret [qv1 ((false),nilS,nilS,()),.bool (false)]) <|
 .ret [qv1 (y5.1.1,y5.1.2.1,y8.1,()),.bool (true)]) <|
 .qc5 53 [qv1 (y5.1.1,y5.1.2.1,(⟨(some { block:=b2,off:=(0:Nat):Addr }),((1:Nat)),(c2)⟩:SlV),())] fun y6 =>
 .bn y6 (.ret [qv1 ((false),nilS,nilS,()),.bool (false)]) <|
 .ret [qv1 (y5.1.1,y5.1.2.1,(⟨(some { block:=b2,off:=(0:Nat):Addr }),((1:Nat)),(c2)⟩:SlV),()),.bool (true)]
theorem fI_TextRat x0:qft qa0 95 [.string x0] (tI_TextRat x0) :=fitK (by kernel_rfl)
def tS_l01Below (x0:Addr) (x1:Int):T :=
 .br (decide (x1≤(0:Int))) (
  .ret [.int .i64 0]) <|
 .br (decide (x1≤(256:Int))) (
  .qc20 170 [.pointer (some x0)] fun y1 =>
  .rq (x1≠(0:Int)) <|
 .ret [.int .i64 (y1.tmod x1)]) <|
 .qc20 170 [.pointer (some x0)] fun y1 =>
 .qc20 170 [.pointer (some x0)] fun y2 =>
 .qc20 170 [.pointer (some x0)] fun y3 =>
 .qc20 170 [.pointer (some x0)] fun y4 =>
 .rq (x1≠(0:Int)) <|
 .ret [.int .i64 ((IntKind.i64.wrap (IntKind.i64.wrap (IntKind.i64.wrap (IntKind.i64.wrap (y1*(16777216:Int))+IntKind.i64.wrap (y2*(65536:Int)))+IntKind.i64.wrap (y3*(256:Int)))+y4)).tmod x1)]
theorem fS_l01Below x0 x1:qft qa0 97 [.pointer (some x0),.int .i64 x1] (tS_l01Below x0 x1) :=fitK (by kernel_rfl)
def aS_RestAdd:An:=⟨[(7,[.s 10,.s 11,.s 38],[.o (.o (.l)),.o (.o (.b)),.o (.o (.i .i64))])],[(13,[.s 10,.s 11],[.o (.o (.l)),.o (.o (.b))]),(17,[.s 10],[.o (.o (.l))])],[]⟩
def tS_RestAdd (x0:SlV) (x1:ByteArray) (x2:qy1):T :=
 .rg <|
 .qc29 172 [Sc.val .l x0,.string x1] fun y1 =>
 .qc16 171 [qv1 y1,qv1 x2] fun y2 =>
 .qc5 35 [Sc.val .l x0] fun y3 =>
 .bn y3 (.ret [.slice none 0 0,.bool (false)]) <|
 .qc5 89 [.string x1] fun y4 =>
 .bn y4 (.ret [.slice none 0 0,.bool (false)]) <|
 .bn y2.2.1 (.ret [.slice none 0 0,.bool (false)]) <|
 .qc9 173 [Sc.val .l x0] fun y5 =>
 .fz ((0:Nat)) [] 40 fun b6 c6 =>
 .lp [.o (.o (.l)),.o (.o (.b)),.o (.o (.i .i64))] [.v (.slice (some { block:=b6,off:=(0:Nat):Addr }) ((0:Nat)) (c6)),.v (.bool (false)),.v (.int .i64 0)] fun y7 =>
 .br (decide (y7.2.2.1<(↑y5.n:Int))) (
  .el y5.1 (y5.n) y7.2.2.1 fun y8 =>
  .ql6 (y8.add (Int.toNat y7.2.2.1*(4:Nat))) fun y9 =>
  .br (ByteArray.toList y9.1 == x1.toList) (
   .nx 0 [.v (Sc.val .l y7.1),.v (.bool y7.2.1),.v (.int .i64 (IntKind.i64.wrap (y7.2.2.1+(1:Int))))]) <|
 .jn [.o (.o (.l)),.o (.o (.b))] (fun y10 =>
   .rq ([Value.string y9.1,Value.bool y9.2.1,Value.slice y9.2.2.1.1 y9.2.2.1.n y9.2.2.1.c,Value.slice y9.2.2.2.1.1 y9.2.2.2.1.n y9.2.2.2.1.c].length=(1:Nat)*(4:Nat)) <|
 .rq (one [Value.string y9.1,Value.bool y9.2.1,Value.slice y9.2.2.1.1 y9.2.2.1.n y9.2.2.1.c,Value.slice y9.2.2.2.1.1 y9.2.2.2.1.n y9.2.2.2.1.c]=true) <|
 .ap ({ a:=y10.1.1,n:=y10.1.n,c:=y10.1.c:SlV }) 4 72 [.string y9.1,.bool y9.2.1,Sc.val .l y9.2.2.1,Sc.val .l y9.2.2.2.1] ((1:Nat)) 40 fun y11 =>
   .nx 0 [.v (Sc.val .l y11),.v (.bool y10.2.1),.v (.int .i64 (IntKind.i64.wrap (y7.2.2.1+(1:Int))))]) <|
 .bn y7.2.1 (.br (!(Op.bytesLess (ByteArray.toList y9.1) x1.toList || ByteArray.toList y9.1 == x1.toList)) (
    .qc20 91 [qv1 y2.1] fun y10 =>
    .br (y10 != (0:Int)) (
     .rq ([Value.string x1,Value.bool y2.1.1,Value.slice y2.1.2.1.1 y2.1.2.1.n y2.1.2.1.c,Value.slice y2.1.2.2.1.1 y2.1.2.2.1.n y2.1.2.2.1.c].length=(1:Nat)*(4:Nat)) <|
 .rq (one [Value.string x1,Value.bool y2.1.1,Value.slice y2.1.2.1.1 y2.1.2.1.n y2.1.2.1.c,Value.slice y2.1.2.2.1.1 y2.1.2.2.1.n y2.1.2.2.1.c]=true) <|
 .ap ({ a:=y7.1.1,n:=y7.1.n,c:=y7.1.c:SlV }) 4 72 [.string x1,.bool y2.1.1,Sc.val .l y2.1.2.1,Sc.val .l y2.1.2.2.1] ((1:Nat)) 40 fun y11 =>
     .nx 1 [.v (Sc.val .l y11),.v (.bool (true))]) <|
 .nx 1 [.v (Sc.val .l y7.1),.v (.bool y7.2.1)]) <|
 .nx 1 [.v (Sc.val .l y7.1),.v (.bool y7.2.1)]) <|
 .nx 1 [.v (Sc.val .l y7.1),.v (.bool y7.2.1)]) <|
 .jn [.o (.o (.l))] (fun y8 =>
  .ret [Sc.val .l y8.1,.bool (true)]) <|
 .bn y7.2.1 (.qc20 91 [qv1 y2.1] fun y8 =>
  .br (y8 != (0:Int)) (
   .rq ([Value.string x1,Value.bool y2.1.1,Value.slice y2.1.2.1.1 y2.1.2.1.n y2.1.2.1.c,Value.slice y2.1.2.2.1.1 y2.1.2.2.1.n y2.1.2.2.1.c].length=(1:Nat)*(4:Nat)) <|
 .rq (one [Value.string x1,Value.bool y2.1.1,Value.slice y2.1.2.1.1 y2.1.2.1.n y2.1.2.1.c,Value.slice y2.1.2.2.1.1 y2.1.2.2.1.n y2.1.2.2.1.c]=true) <|
 .ap ({ a:=y7.1.1,n:=y7.1.n,c:=y7.1.c:SlV }) 4 72 [.string x1,.bool y2.1.1,Sc.val .l y2.1.2.1,Sc.val .l y2.1.2.2.1] ((1:Nat)) 40 fun y9 =>
   .nx 1 [.v (Sc.val .l y9)]) <|
 .nx 1 [.v (Sc.val .l y7.1)]) <|
 .nx 1 [.v (Sc.val .l y7.1)]
theorem fS_RestAdd x0 x1 x2:qft aS_RestAdd 98 [Sc.val .l x0,.string x1,qv1 x2] (tS_RestAdd x0 x1 x2) :=fitK (by kernel_rfl)
def tS_l08Cur (x0:Addr):T :=
 .fz ((7:Nat)) [.string ({ data:={ toList:=[(67:UInt8),(72:UInt8),(70:UInt8)]:Array UInt8 }:ByteArray }),.string ({ data:={ toList:=[(69:UInt8),(85:UInt8),(82:UInt8)]:Array UInt8 }:ByteArray }),.string ({ data:={ toList:=[(85:UInt8),(83:UInt8),(68:UInt8)]:Array UInt8 }:ByteArray }),.string ({ data:={ toList:=[(74:UInt8),(80:UInt8),(89:UInt8)]:Array UInt8 }:ByteArray }),.string ({ data:={ toList:=[(75:UInt8),(87:UInt8),(68:UInt8)]:Array UInt8 }:ByteArray }),.string ({ data:={ toList:=[(72:UInt8),(85:UInt8),(70:UInt8)]:Array UInt8 }:ByteArray }),.string ({ data:={ toList:=[(67:UInt8),(76:UInt8),(70:UInt8)]:Array UInt8 }:ByteArray })] 9 fun b1 c1 =>
 .qc1 174 [.pointer (some x0),.slice (some { block:=b1,off:=(0:Nat):Addr }) ((7:Nat)) (c1)] fun y2 =>
 .ret [.string y2]
theorem fS_l08Cur x0:qft qa0 99 [.pointer (some x0)] (tS_l08Cur x0) :=fitK (by kernel_rfl)
def tS_l05Draw (x0:Addr) (x1:Int):T :=
 .qc31 175 [.pointer (some x0),.int .i64 x1] fun y1 =>
 .qc20 97 [.pointer (some x0),.int .i64 12] fun y2 =>
 .qc9 176 [.int .i64 (IntKind.i64.wrap ((1:Int)+y2))] fun y3 =>
 .qc5 177 [.pointer (some x0),.int .i64 3] fun y4 =>
 .br y4 (
  .qc9 178 [.pointer (some x0),.int .i64 (IntKind.i64.wrap (x1-(1:Int)))] fun y5 =>
  .qc20 97 [.pointer (some x0),.int .i64 999] fun y6 =>
  .rq ([Value.int IntKind.i64 (IntKind.i64.wrap ((1:Int)+y6))].length=(1:Nat)*(1:Nat)) <|
 .rq (one [Value.int IntKind.i64 (IntKind.i64.wrap ((1:Int)+y6))]=true) <|
 .ap ({ a:=y5.1,n:=y5.n,c:=y5.c:SlV }) 1 8 [.int .i64 (IntKind.i64.wrap ((1:Int)+y6))] ((1:Nat)) 3 fun y7 =>
  .qc16 179 [qv0 y1,qv0 ((false),y7,())] fun y8 =>
  .bn y8.2.1 (.qc32 160 [] fun y9 =>
   .ret [qv1 y9]) <|
 .ret [qv1 y8.1]) <|
 .qc16 179 [qv0 y1,qv0 ((false),y3,())] fun y5 =>
 .bn y5.2.1 (.qc32 160 [] fun y6 =>
  .ret [qv1 y6]) <|
 .ret [qv1 y5.1]
theorem fS_l05Draw x0 x1:qft qa0 100 [.pointer (some x0),.int .i64 x1] (tS_l05Draw x0 x1) :=fitK (by kernel_rfl)
def tI_natCopy (x0:SlV):T :=
 .rd ({ a:=x0.1,n:=x0.n,c:=x0.c:SlV }) ((1:Nat)) fun y1 =>
 .rq (one y1=true∧((0:Nat)+x0.n)*(8:Nat)≤(140737488355328:Nat)∧(0:Nat)+x0.n≤(9223372036854775807:Nat)) <|
 .fz ((0:Nat)+x0.n) ([]++y1) 3 fun b2 c2 =>
 .ret [.slice (some { block:=b2,off:=(0:Nat):Addr }) ((0:Nat)+x0.n) (c2)]
theorem fI_natCopy x0:qft qa0 102 [Sc.val .l x0] (tI_natCopy x0) :=fitK (by kernel_rfl)
def tI_RatText (x0:qy1):T :=
 .qc5 53 [qv1 x0] fun y1 =>
 .bn y1 (.ret [.string ({ data:={ toList:=[]:Array UInt8 }:ByteArray })]) <|
 .qc5 167 [Sc.val .l x0.2.2.1] fun y2 =>
 .br y2 (
  .qc1 180 [qv0 (x0.1,x0.2.1,())] fun y3 =>
  .ret [.string y3]) <|
 .rg <|
 .qc4 180 [qv0 (x0.1,x0.2.1,())] fun y3 =>
 .rq (y3.size+{ data:={ toList:=[(47:UInt8)]:Array UInt8 }:ByteArray }.size≤(9223372036854775807:Nat)) <|
 .qc1 181 [Sc.val .l x0.2.2.1] fun y4 =>
 .rq ((y3++{ data:={ toList:=[(47:UInt8)]:Array UInt8 }:ByteArray }).size+y4.size≤(9223372036854775807:Nat)) <|
 .ret [.string (y3++{ data:={ toList:=[(47:UInt8)]:Array UInt8 }:ByteArray }++y4)]
theorem fI_RatText x0:qft qa0 103 [qv1 x0] (tI_RatText x0) :=fitK (by kernel_rfl)
def tI_intSame (x0:qy0) (x1:qy0):T :=
 .br (x0.1 == x1.1) (
  .qc5 106 [Sc.val .l x0.2.1,Sc.val .l x1.2.1] fun y1 =>
  .ret [.bool y1]) <|
 .rF
theorem fI_intSame x0 x1:qft qa0 105 [qv0 x0,qv0 x1] (tI_intSame x0 x1) :=fitK (by kernel_rfl)
def aI_sameInts:An:=⟨[(4,[.s 13],[.o (.o (.i .i64))])],[],[]⟩
def tI_sameInts (x0:SlV) (x1:SlV):T :=
 .br ((↑x0.n:Int) != (↑x1.n:Int)) (
  .rF) <|
 .lp [.o (.o (.i .i64))] [.v (.int .i64 0)] fun y1 =>
 .br (decide (y1.1<(↑x0.n:Int))) (
  .rg <|
 .el x0.1 (x0.n) y1.1 fun y2 =>
  .ql33 (y2.add (Int.toNat y1.1*(1:Nat))) fun y3 =>
  .el x1.1 (x1.n) y1.1 fun y4 =>
  .ql33 (y4.add (Int.toNat y1.1*(1:Nat))) fun y5 =>
  .br (y3 != y5) (
   .rF) <|
 .nx 0 [.v (.int .i64 (IntKind.i64.wrap (y1.1+(1:Int))))]) <|
 .rT
theorem fI_sameInts x0 x1:qft aI_sameInts 106 [Sc.val .l x0,Sc.val .l x1] (tI_sameInts x0 x1) :=fitK (by kernel_rfl)
def aI_currencyOf:An:=⟨[(2,[.s 7,.c 2 0,.c 2 1,.c 2 2,.c 2 3],[.o (.o (.i .i64)),.o (.o (.s)),.o (.o (.s)),.o (.o (.i .i64)),.o (.o (.i .i64))])],[],[]⟩
def tI_currencyOf (x0:ByteArray):T :=
 .ql34 ({ block:=(0:Nat),off:=(0:Nat):Addr }) fun y1 =>
 .lp [.o (.o (.i .i64)),.o (.o (.s)),.o (.o (.s)),.o (.o (.i .i64)),.o (.o (.i .i64))] [.v (.int .i64 0),.v (.string ({ data:={ toList:=[]:Array UInt8 }:ByteArray })),.v (.string ({ data:={ toList:=[]:Array UInt8 }:ByteArray })),.v (.int .i64 0),.v (.int .i64 0)] fun y2 =>
 .br (decide (y2.1<(20:Int))) (
  .rq ((0:Int)≤y2.1∧y2.1<(↑(20:Nat):Int)) <|
 .xs [.string y1.1,.string y1.2.1,.int .i64 y1.2.2.1,.int .i64 y1.2.2.2.1,.string y1.2.2.2.2.1,.string y1.2.2.2.2.2.1,.int .i64 y1.2.2.2.2.2.2.1,.int .i64 y1.2.2.2.2.2.2.2.1,.string y1.2.2.2.2.2.2.2.2.1,.string y1.2.2.2.2.2.2.2.2.2.1,.int .i64 y1.2.2.2.2.2.2.2.2.2.2.1,.int .i64 y1.2.2.2.2.2.2.2.2.2.2.2.1,.string y1.2.2.2.2.2.2.2.2.2.2.2.2.1,.string y1.2.2.2.2.2.2.2.2.2.2.2.2.2.1,.int .i64 y1.2.2.2.2.2.2.2.2.2.2.2.2.2.2.1,.int .i64 y1.2.2.2.2.2.2.2.2.2.2.2.2.2.2.2.1,.string y1.2.2.2.2.2.2.2.2.2.2.2.2.2.2.2.2.1,.string y1.2.2.2.2.2.2.2.2.2.2.2.2.2.2.2.2.2.1,.int .i64 y1.2.2.2.2.2.2.2.2.2.2.2.2.2.2.2.2.2.2.1,.int .i64 y1.2.2.2.2.2.2.2.2.2.2.2.2.2.2.2.2.2.2.2.1,.string y1.2.2.2.2.2.2.2.2.2.2.2.2.2.2.2.2.2.2.2.2.1,.string y1.2.2.2.2.2.2.2.2.2.2.2.2.2.2.2.2.2.2.2.2.2.1,.int .i64 y1.2.2.2.2.2.2.2.2.2.2.2.2.2.2.2.2.2.2.2.2.2.2.1,.int .i64 y1.2.2.2.2.2.2.2.2.2.2.2.2.2.2.2.2.2.2.2.2.2.2.2.1,.string y1.2.2.2.2.2.2.2.2.2.2.2.2.2.2.2.2.2.2.2.2.2.2.2.2.1,.string y1.2.2.2.2.2.2.2.2.2.2.2.2.2.2.2.2.2.2.2.2.2.2.2.2.2.1,.int .i64 y1.2.2.2.2.2.2.2.2.2.2.2.2.2.2.2.2.2.2.2.2.2.2.2.2.2.2.1,.int .i64 y1.2.2.2.2.2.2.2.2.2.2.2.2.2.2.2.2.2.2.2.2.2.2.2.2.2.2.2.1,.string y1.2.2.2.2.2.2.2.2.2.2.2.2.2.2.2.2.2.2.2.2.2.2.2.2.2.2.2.2.1,.string y1.2.2.2.2.2.2.2.2.2.2.2.2.2.2.2.2.2.2.2.2.2.2.2.2.2.2.2.2.2.1,.int .i64 y1.2.2.2.2.2.2.2.2.2.2.2.2.2.2.2.2.2.2.2.2.2.2.2.2.2.2.2.2.2.2.1,.int .i64 y1.2.2.2.2.2.2.2.2.2.2.2.2.2.2.2.2.2.2.2.2.2.2.2.2.2.2.2.2.2.2.2.1,.string y1.2.2.2.2.2.2.2.2.2.2.2.2.2.2.2.2.2.2.2.2.2.2.2.2.2.2.2.2.2.2.2.2.1,.string y1.2.2.2.2.2.2.2.2.2.2.2.2.2.2.2.2.2.2.2.2.2.2.2.2.2.2.2.2.2.2.2.2.2.1,.int .i64 y1.2.2.2.2.2.2.2.2.2.2.2.2.2.2.2.2.2.2.2.2.2.2.2.2.2.2.2.2.2.2.2.2.2.2.1,.int .i64 y1.2.2.2.2.2.2.2.2.2.2.2.2.2.2.2.2.2.2.2.2.2.2.2.2.2.2.2.2.2.2.2.2.2.2.2.1,.string y1.2.2.2.2.2.2.2.2.2.2.2.2.2.2.2.2.2.2.2.2.2.2.2.2.2.2.2.2.2.2.2.2.2.2.2.2.1,.string y1.2.2.2.2.2.2.2.2.2.2.2.2.2.2.2.2.2.2.2.2.2.2.2.2.2.2.2.2.2.2.2.2.2.2.2.2.2.1,.int .i64 y1.2.2.2.2.2.2.2.2.2.2.2.2.2.2.2.2.2.2.2.2.2.2.2.2.2.2.2.2.2.2.2.2.2.2.2.2.2.2.1,.int .i64 y1.2.2.2.2.2.2.2.2.2.2.2.2.2.2.2.2.2.2.2.2.2.2.2.2.2.2.2.2.2.2.2.2.2.2.2.2.2.2.2.1,.string y1.2.2.2.2.2.2.2.2.2.2.2.2.2.2.2.2.2.2.2.2.2.2.2.2.2.2.2.2.2.2.2.2.2.2.2.2.2.2.2.2.1,.string y1.2.2.2.2.2.2.2.2.2.2.2.2.2.2.2.2.2.2.2.2.2.2.2.2.2.2.2.2.2.2.2.2.2.2.2.2.2.2.2.2.2.1,.int .i64 y1.2.2.2.2.2.2.2.2.2.2.2.2.2.2.2.2.2.2.2.2.2.2.2.2.2.2.2.2.2.2.2.2.2.2.2.2.2.2.2.2.2.2.1,.int .i64 y1.2.2.2.2.2.2.2.2.2.2.2.2.2.2.2.2.2.2.2.2.2.2.2.2.2.2.2.2.2.2.2.2.2.2.2.2.2.2.2.2.2.2.2.1,.string y1.2.2.2.2.2.2.2.2.2.2.2.2.2.2.2.2.2.2.2.2.2.2.2.2.2.2.2.2.2.2.2.2.2.2.2.2.2.2.2.2.2.2.2.2.1,.string y1.2.2.2.2.2.2.2.2.2.2.2.2.2.2.2.2.2.2.2.2.2.2.2.2.2.2.2.2.2.2.2.2.2.2.2.2.2.2.2.2.2.2.2.2.2.1,.int .i64 y1.2.2.2.2.2.2.2.2.2.2.2.2.2.2.2.2.2.2.2.2.2.2.2.2.2.2.2.2.2.2.2.2.2.2.2.2.2.2.2.2.2.2.2.2.2.2.1,.int .i64 y1.2.2.2.2.2.2.2.2.2.2.2.2.2.2.2.2.2.2.2.2.2.2.2.2.2.2.2.2.2.2.2.2.2.2.2.2.2.2.2.2.2.2.2.2.2.2.2.1,.string y1.2.2.2.2.2.2.2.2.2.2.2.2.2.2.2.2.2.2.2.2.2.2.2.2.2.2.2.2.2.2.2.2.2.2.2.2.2.2.2.2.2.2.2.2.2.2.2.2.1,.string y1.2.2.2.2.2.2.2.2.2.2.2.2.2.2.2.2.2.2.2.2.2.2.2.2.2.2.2.2.2.2.2.2.2.2.2.2.2.2.2.2.2.2.2.2.2.2.2.2.2.1,.int .i64 y1.2.2.2.2.2.2.2.2.2.2.2.2.2.2.2.2.2.2.2.2.2.2.2.2.2.2.2.2.2.2.2.2.2.2.2.2.2.2.2.2.2.2.2.2.2.2.2.2.2.2.1,.int .i64 y1.2.2.2.2.2.2.2.2.2.2.2.2.2.2.2.2.2.2.2.2.2.2.2.2.2.2.2.2.2.2.2.2.2.2.2.2.2.2.2.2.2.2.2.2.2.2.2.2.2.2.2.1,.string y1.2.2.2.2.2.2.2.2.2.2.2.2.2.2.2.2.2.2.2.2.2.2.2.2.2.2.2.2.2.2.2.2.2.2.2.2.2.2.2.2.2.2.2.2.2.2.2.2.2.2.2.2.1,.string y1.2.2.2.2.2.2.2.2.2.2.2.2.2.2.2.2.2.2.2.2.2.2.2.2.2.2.2.2.2.2.2.2.2.2.2.2.2.2.2.2.2.2.2.2.2.2.2.2.2.2.2.2.2.1,.int .i64 y1.2.2.2.2.2.2.2.2.2.2.2.2.2.2.2.2.2.2.2.2.2.2.2.2.2.2.2.2.2.2.2.2.2.2.2.2.2.2.2.2.2.2.2.2.2.2.2.2.2.2.2.2.2.2.1,.int .i64 y1.2.2.2.2.2.2.2.2.2.2.2.2.2.2.2.2.2.2.2.2.2.2.2.2.2.2.2.2.2.2.2.2.2.2.2.2.2.2.2.2.2.2.2.2.2.2.2.2.2.2.2.2.2.2.2.1,.string y1.2.2.2.2.2.2.2.2.2.2.2.2.2.2.2.2.2.2.2.2.2.2.2.2.2.2.2.2.2.2.2.2.2.2.2.2.2.2.2.2.2.2.2.2.2.2.2.2.2.2.2.2.2.2.2.2.1,.string y1.2.2.2.2.2.2.2.2.2.2.2.2.2.2.2.2.2.2.2.2.2.2.2.2.2.2.2.2.2.2.2.2.2.2.2.2.2.2.2.2.2.2.2.2.2.2.2.2.2.2.2.2.2.2.2.2.2.1,.int .i64 y1.2.2.2.2.2.2.2.2.2.2.2.2.2.2.2.2.2.2.2.2.2.2.2.2.2.2.2.2.2.2.2.2.2.2.2.2.2.2.2.2.2.2.2.2.2.2.2.2.2.2.2.2.2.2.2.2.2.2.1,.int .i64 y1.2.2.2.2.2.2.2.2.2.2.2.2.2.2.2.2.2.2.2.2.2.2.2.2.2.2.2.2.2.2.2.2.2.2.2.2.2.2.2.2.2.2.2.2.2.2.2.2.2.2.2.2.2.2.2.2.2.2.2.1,.string y1.2.2.2.2.2.2.2.2.2.2.2.2.2.2.2.2.2.2.2.2.2.2.2.2.2.2.2.2.2.2.2.2.2.2.2.2.2.2.2.2.2.2.2.2.2.2.2.2.2.2.2.2.2.2.2.2.2.2.2.2.1,.string y1.2.2.2.2.2.2.2.2.2.2.2.2.2.2.2.2.2.2.2.2.2.2.2.2.2.2.2.2.2.2.2.2.2.2.2.2.2.2.2.2.2.2.2.2.2.2.2.2.2.2.2.2.2.2.2.2.2.2.2.2.2.1,.int .i64 y1.2.2.2.2.2.2.2.2.2.2.2.2.2.2.2.2.2.2.2.2.2.2.2.2.2.2.2.2.2.2.2.2.2.2.2.2.2.2.2.2.2.2.2.2.2.2.2.2.2.2.2.2.2.2.2.2.2.2.2.2.2.2.1,.int .i64 y1.2.2.2.2.2.2.2.2.2.2.2.2.2.2.2.2.2.2.2.2.2.2.2.2.2.2.2.2.2.2.2.2.2.2.2.2.2.2.2.2.2.2.2.2.2.2.2.2.2.2.2.2.2.2.2.2.2.2.2.2.2.2.2.1,.string y1.2.2.2.2.2.2.2.2.2.2.2.2.2.2.2.2.2.2.2.2.2.2.2.2.2.2.2.2.2.2.2.2.2.2.2.2.2.2.2.2.2.2.2.2.2.2.2.2.2.2.2.2.2.2.2.2.2.2.2.2.2.2.2.2.1,.string y1.2.2.2.2.2.2.2.2.2.2.2.2.2.2.2.2.2.2.2.2.2.2.2.2.2.2.2.2.2.2.2.2.2.2.2.2.2.2.2.2.2.2.2.2.2.2.2.2.2.2.2.2.2.2.2.2.2.2.2.2.2.2.2.2.2.1,.int .i64 y1.2.2.2.2.2.2.2.2.2.2.2.2.2.2.2.2.2.2.2.2.2.2.2.2.2.2.2.2.2.2.2.2.2.2.2.2.2.2.2.2.2.2.2.2.2.2.2.2.2.2.2.2.2.2.2.2.2.2.2.2.2.2.2.2.2.2.1,.int .i64 y1.2.2.2.2.2.2.2.2.2.2.2.2.2.2.2.2.2.2.2.2.2.2.2.2.2.2.2.2.2.2.2.2.2.2.2.2.2.2.2.2.2.2.2.2.2.2.2.2.2.2.2.2.2.2.2.2.2.2.2.2.2.2.2.2.2.2.2.1,.string y1.2.2.2.2.2.2.2.2.2.2.2.2.2.2.2.2.2.2.2.2.2.2.2.2.2.2.2.2.2.2.2.2.2.2.2.2.2.2.2.2.2.2.2.2.2.2.2.2.2.2.2.2.2.2.2.2.2.2.2.2.2.2.2.2.2.2.2.2.1,.string y1.2.2.2.2.2.2.2.2.2.2.2.2.2.2.2.2.2.2.2.2.2.2.2.2.2.2.2.2.2.2.2.2.2.2.2.2.2.2.2.2.2.2.2.2.2.2.2.2.2.2.2.2.2.2.2.2.2.2.2.2.2.2.2.2.2.2.2.2.2.1,.int .i64 y1.2.2.2.2.2.2.2.2.2.2.2.2.2.2.2.2.2.2.2.2.2.2.2.2.2.2.2.2.2.2.2.2.2.2.2.2.2.2.2.2.2.2.2.2.2.2.2.2.2.2.2.2.2.2.2.2.2.2.2.2.2.2.2.2.2.2.2.2.2.2.1,.int .i64 y1.2.2.2.2.2.2.2.2.2.2.2.2.2.2.2.2.2.2.2.2.2.2.2.2.2.2.2.2.2.2.2.2.2.2.2.2.2.2.2.2.2.2.2.2.2.2.2.2.2.2.2.2.2.2.2.2.2.2.2.2.2.2.2.2.2.2.2.2.2.2.2.1,.string y1.2.2.2.2.2.2.2.2.2.2.2.2.2.2.2.2.2.2.2.2.2.2.2.2.2.2.2.2.2.2.2.2.2.2.2.2.2.2.2.2.2.2.2.2.2.2.2.2.2.2.2.2.2.2.2.2.2.2.2.2.2.2.2.2.2.2.2.2.2.2.2.2.1,.string y1.2.2.2.2.2.2.2.2.2.2.2.2.2.2.2.2.2.2.2.2.2.2.2.2.2.2.2.2.2.2.2.2.2.2.2.2.2.2.2.2.2.2.2.2.2.2.2.2.2.2.2.2.2.2.2.2.2.2.2.2.2.2.2.2.2.2.2.2.2.2.2.2.2.1,.int .i64 y1.2.2.2.2.2.2.2.2.2.2.2.2.2.2.2.2.2.2.2.2.2.2.2.2.2.2.2.2.2.2.2.2.2.2.2.2.2.2.2.2.2.2.2.2.2.2.2.2.2.2.2.2.2.2.2.2.2.2.2.2.2.2.2.2.2.2.2.2.2.2.2.2.2.2.1,.int .i64 y1.2.2.2.2.2.2.2.2.2.2.2.2.2.2.2.2.2.2.2.2.2.2.2.2.2.2.2.2.2.2.2.2.2.2.2.2.2.2.2.2.2.2.2.2.2.2.2.2.2.2.2.2.2.2.2.2.2.2.2.2.2.2.2.2.2.2.2.2.2.2.2.2.2.2.2.1,.string y1.2.2.2.2.2.2.2.2.2.2.2.2.2.2.2.2.2.2.2.2.2.2.2.2.2.2.2.2.2.2.2.2.2.2.2.2.2.2.2.2.2.2.2.2.2.2.2.2.2.2.2.2.2.2.2.2.2.2.2.2.2.2.2.2.2.2.2.2.2.2.2.2.2.2.2.2.1,.string y1.2.2.2.2.2.2.2.2.2.2.2.2.2.2.2.2.2.2.2.2.2.2.2.2.2.2.2.2.2.2.2.2.2.2.2.2.2.2.2.2.2.2.2.2.2.2.2.2.2.2.2.2.2.2.2.2.2.2.2.2.2.2.2.2.2.2.2.2.2.2.2.2.2.2.2.2.2.1,.int .i64 y1.2.2.2.2.2.2.2.2.2.2.2.2.2.2.2.2.2.2.2.2.2.2.2.2.2.2.2.2.2.2.2.2.2.2.2.2.2.2.2.2.2.2.2.2.2.2.2.2.2.2.2.2.2.2.2.2.2.2.2.2.2.2.2.2.2.2.2.2.2.2.2.2.2.2.2.2.2.2.1,.int .i64 y1.2.2.2.2.2.2.2.2.2.2.2.2.2.2.2.2.2.2.2.2.2.2.2.2.2.2.2.2.2.2.2.2.2.2.2.2.2.2.2.2.2.2.2.2.2.2.2.2.2.2.2.2.2.2.2.2.2.2.2.2.2.2.2.2.2.2.2.2.2.2.2.2.2.2.2.2.2.2.2.1] (Int.toNat y2.1*(4:Nat)) (.g [.s,.s,.i .i64,.i .i64]) fun y3 =>
  .br (ByteArray.toList y3.1 == x0.toList) (
   .ret [qv9 y3,.bool (true)]) <|
 .nx 0 [.v (.int .i64 (IntKind.i64.wrap (y2.1+(1:Int)))),.v (.string y2.2.1),.v (.string y2.2.2.1),.v (.int .i64 y2.2.2.2.1),.v (.int .i64 y2.2.2.2.2.1)]) <|
 .ret [qv9 (({ data:={ toList:=[]:Array UInt8 }:ByteArray }),({ data:={ toList:=[]:Array UInt8 }:ByteArray }),(((0:Int)):Int),(((0:Int)):Int),()),.bool (false)]
theorem fI_currencyOf x0:qft aI_currencyOf 107 [.string x0] (tI_currencyOf x0) :=fitK (by kernel_rfl)
def tI_IntOk (x0:qy0):T :=
 .qc5 109 [Sc.val .l x0.2.1] fun y1 =>
 .br y1 (
  .br (!x0.1) (
   .rT) <|
 .ret [.bool (decide ((↑x0.2.1.n:Int) > (0:Int)))]) <|
 .rF
theorem fI_IntOk x0:qft qa0 108 [qv0 x0] (tI_IntOk x0) :=fitK (by kernel_rfl)
def aI_NatOk:An:=⟨[(4,[.s 24],[.o (.o (.i .i64))])],[],[]⟩
def tI_NatOk (x0:SlV):T :=
 .br (decide ((↑x0.n:Int) > (50:Int))) (
  .rF) <|
 .br (decide ((↑x0.n:Int) > (0:Int))) (
  .el x0.1 (x0.n) (IntKind.i64.wrap ((↑x0.n:Int)-(1:Int))) fun y1 =>
  .ql19 (y1.add ((IntKind.i64.wrap ((↑x0.n:Int)-(1:Int))).toNat*(1:Nat))) fun y2 =>
  .br (y2 == (0:Int)) (
   .rF) <|
 .lp [.o (.o (.i .i64))] [.v (.int .i64 0)] fun y3 =>
  .br (decide (y3.1<(↑x0.n:Int))) (
   .el x0.1 (x0.n) y3.1 fun y4 =>
   .ql19 (y4.add (Int.toNat y3.1*(1:Nat))) fun y5 =>
   .br (decide (y5<(0:Int))) (
    .rF) <|
 .br (decide (y5≥(1000000000:Int))) (
    .rF) <|
 .nx 0 [.v (.int .i64 (IntKind.i64.wrap (y3.1+(1:Int))))]) <|
 .rT) <|
 .lp [.o (.o (.i .i64))] [.v (.int .i64 0)] fun y1 =>
 .br (decide (y1.1<(↑x0.n:Int))) (
  .el x0.1 (x0.n) y1.1 fun y2 =>
  .ql19 (y2.add (Int.toNat y1.1*(1:Nat))) fun y3 =>
  .br (decide (y3<(0:Int))) (
   .rF) <|
 .br (decide (y3≥(1000000000:Int))) (
   .rF) <|
 .nx 0 [.v (.int .i64 (IntKind.i64.wrap (y1.1+(1:Int))))]) <|
 .rT
theorem fI_NatOk x0:qft aI_NatOk 109 [Sc.val .l x0] (tI_NatOk x0) :=fitK (by kernel_rfl)
def aI_natGcd:An:=⟨[(1,[.s 0,.s 1],[.o (.o (.l)),.o (.o (.l))])],[],[]⟩
def tI_natGcd (x0:SlV) (x1:SlV):T :=
 .lp [.o (.o (.l)),.o (.o (.l))] [.v (Sc.val .l x0),.v (Sc.val .l x1)] fun y1 =>
 .br (decide ((↑y1.2.1.n:Int) > (0:Int))) (
  .qc35 117 [Sc.val .l y1.1,Sc.val .l y1.2.1] fun y2 =>
  .nx 0 [.v (Sc.val .l y1.2.1),.v (Sc.val .l y2.2.1)]) <|
 .qc9 102 [Sc.val .l y1.1] fun y2 =>
 .ret [Sc.val .l y2]
theorem fI_natGcd x0 x1:qft aI_natGcd 110 [Sc.val .l x0,Sc.val .l x1] (tI_natGcd x0 x1) :=fitK (by kernel_rfl)
def tI_intSign (x0:qy0):T :=
 .br ((↑x0.2.1.n:Int) == (0:Int)) (
  .ret [.int .i64 0]) <|
 .br x0.1 (
  .rM) <|
 .ret [.int .i64 1]
theorem fI_intSign x0:qft qa0 111 [qv0 x0] (tI_intSign x0) :=fitK (by kernel_rfl)
def tI_signed (x0:Bool) (x1:SlV):T :=
 .br x0 (
  .ret [qv0 ((decide ((↑x1.n:Int) > (0:Int))),x1,())]) <|
 .ret [qv0 ((false),x1,())]
theorem fI_signed x0 x1:qft qa0 112 [.bool x0,Sc.val .l x1] (tI_signed x0 x1) :=fitK (by kernel_rfl)
def aI_natOf:An:=⟨[(2,[.s 0,.s 3],[.o (.o (.i .u64)),.a 3])],[],[]⟩
def tI_natOf (x0:Int):T :=
 .lp [.o (.o (.i .u64)),.a 3] [.v (.int .u64 x0),.a 3 ((0:Nat)) []] fun y1 =>
 .br (decide (y1.1 > (0:Int))) (
  .rq ((1000000000:Int)≠(0:Int)) <|
 .rq ([Value.int IntKind.i64 (IntKind.i64.wrap (Int.tmod y1.1 (1000000000:Int)))].length=(1:Nat)*(1:Nat)) <|
 .rq (one [Value.int IntKind.i64 (IntKind.i64.wrap (Int.tmod y1.1 (1000000000:Int)))]=true∧(y1.2.1.1+(1:Nat))*(8:Nat)≤(140737488355328:Nat)∧y1.2.1.1+(1:Nat)≤(9223372036854775807:Nat)) <|
 .rq ((1000000000:Int)≠(0:Int)) <|
 .nx 0 [.v (.int .u64 (IntKind.u64.wrap (Int.tdiv y1.1 (1000000000:Int)))),.a 3 (y1.2.1.1+(1:Nat)) (y1.2.1.2++[Value.int IntKind.i64 (IntKind.i64.wrap (Int.tmod y1.1 (1000000000:Int)))])]) <|
 .fz y1.2.1.1 y1.2.1.2 3 fun b2 c2 =>
 .ret [.slice (some { block:=b2,off:=(0:Nat):Addr }) y1.2.1.1 (c2)]
theorem fI_natOf x0:qft aI_natOf 116 [.int .u64 x0] (tI_natOf x0) :=fitK (by kernel_rfl)
def aI_natDiv:An:=⟨[(9,[.s 9],[.o (.o (.l))]),(14,[.s 12,.s 13],[.a 3,.o (.o (.i .i64))])],[],[]⟩
def tI_natDiv (x0:SlV) (x1:SlV):T :=
 .qc20 119 [Sc.val .l x0,Sc.val .l x1] fun y1 =>
 .br (decide (y1<(0:Int))) (
  .qc9 102 [Sc.val .l x0] fun y2 =>
  .fz ((0:Nat)) [] 3 fun b3 c3 =>
  .ret [.slice (some { block:=b3,off:=(0:Nat):Addr }) ((0:Nat)) (c3),Sc.val .l y2]) <|
 .br ((↑x1.n:Int) == (1:Int)) (
  .el x1.1 (x1.n) ((0:Int)) fun y2 =>
  .ql19 (y2.add (Int.toNat (0:Int)*(1:Nat))) fun y3 =>
  .qc36 186 [Sc.val .l x0,.int .i64 y3] fun y4 =>
  .qc9 187 [.int .i64 y4.2.1] fun y5 =>
  .ret [Sc.val .l y4.1,Sc.val .l y5]) <|
 .el x1.1 (x1.n) (IntKind.i64.wrap ((↑x1.n:Int)-(1:Int))) fun y2 =>
 .ql19 (y2.add ((IntKind.i64.wrap ((↑x1.n:Int)-(1:Int))).toNat*(1:Nat))) fun y3 =>
 .rq (IntKind.i64.wrap (y3+(1:Int))≠(0:Int)) <|
 .fz ((1:Nat)) [.int .i64 (IntKind.i64.wrap (Int.tdiv (1000000000:Int) (IntKind.i64.wrap (y3+(1:Int)))))] 3 fun b4 c4 =>
 .qc9 65 [Sc.val .l x0,.slice (some { block:=b4,off:=(0:Nat):Addr }) ((1:Nat)) (c4)] fun y5 =>
 .fz ((1:Nat)) [.int .i64 (IntKind.i64.wrap (Int.tdiv (1000000000:Int) (IntKind.i64.wrap (y3+(1:Int)))))] 3 fun b6 c6 =>
 .qc9 65 [Sc.val .l x1,.slice (some { block:=b6,off:=(0:Nat):Addr }) ((1:Nat)) (c6)] fun y7 =>
 .lp [.o (.o (.l))] [.v (Sc.val .l y5)] fun y8 =>
 .br (decide ((↑y8.1.n:Int)≤(↑x0.n:Int))) (
  .rq ([Value.int IntKind.i64 (0:Int)].length=(1:Nat)*(1:Nat)) <|
 .rq (one [Value.int IntKind.i64 (0:Int)]=true) <|
 .ap ({ a:=y8.1.1,n:=y8.1.n,c:=y8.1.c:SlV }) 1 8 [.int .i64 0] ((1:Nat)) 3 fun y9 =>
  .nx 0 [.v (Sc.val .l y9)]) <|
 .rq ((0:Int)≤IntKind.i64.wrap ((↑y8.1.n:Int)-(↑y7.n:Int))∧IntKind.i64.wrap ((↑y8.1.n:Int)-(↑y7.n:Int))≤IntKind.i64.wrap ((↑y8.1.n:Int)-(↑y7.n:Int))∧(↑(8:Nat):Int)*IntKind.i64.wrap ((↑y8.1.n:Int)-(↑y7.n:Int))≤(281474976710656:Int)∧IntKind.i64.wrap ((↑y8.1.n:Int)-(↑y7.n:Int))≤(9223372036854775807:Int)) <|
 .lp [.a 3,.o (.o (.i .i64))] [.a 3 ((IntKind.i64.wrap ((↑y8.1.n:Int)-(↑y7.n:Int))).toNat) ((madeCells { toList:=[Value.int IntKind.i64 (0:Int)]:Array Value } ((IntKind.i64.wrap ((↑y8.1.n:Int)-(↑y7.n:Int))).toNat*(1:Nat))).toList),.v (.int .i64 (IntKind.i64.wrap ((↑(IntKind.i64.wrap ((↑y8.1.n:Int)-(↑y7.n:Int))).toNat:Int)-(1:Int))))] fun y9 =>
 .br (decide (y9.2.1≥(0:Int))) (
  .rq ((0:Int)≤y9.2.1∧y9.2.1≤IntKind.i64.wrap (IntKind.i64.wrap (y9.2.1+(↑y7.n:Int))+(1:Int))∧IntKind.i64.wrap (IntKind.i64.wrap (y9.2.1+(↑y7.n:Int))+(1:Int))≤(↑y8.1.c:Int)∧(↑y8.1.c:Int)≤(↑y8.1.c:Int)) <|
 .qc20 188 [.slice (if (↑y8.1.c:Int).toNat=Int.toNat y9.2.1 then y8.1.1 else Option.map (fun x=>x.add (Int.toNat y9.2.1*Go.Proofs.Tryz.prog.types[(3:Nat)].size)) y8.1.1) ((IntKind.i64.wrap (IntKind.i64.wrap (y9.2.1+(↑y7.n:Int))+(1:Int))).toNat-Int.toNat y9.2.1) ((↑y8.1.c:Int).toNat-Int.toNat y9.2.1),Sc.val .l y7] fun y10 =>
  .rq ((0:Int)≤y9.2.1∧y9.2.1<(↑y9.1.1:Int)) <|
 .rq (Int.toNat y9.2.1*(1:Nat)+[Value.int IntKind.i64 y10].length≤y9.1.2.length) <|
 .nx 1 [.a 3 y9.1.1 (setl y9.1.2 (Int.toNat y9.2.1*(1:Nat)) [Value.int IntKind.i64 y10]),.v (.int .i64 (IntKind.i64.wrap (y9.2.1-(1:Int))))]) <|
 .qc9 121 [Sc.val .l y8.1] fun y10 =>
 .qc36 186 [Sc.val .l y10,.int .i64 (IntKind.i64.wrap (Int.tdiv (1000000000:Int) (IntKind.i64.wrap (y3+(1:Int)))))] fun y11 =>
 .fz y9.1.1 y9.1.2 3 fun b12 c12 =>
 .qc9 121 [.slice (some { block:=b12,off:=(0:Nat):Addr }) y9.1.1 (c12)] fun y13 =>
 .ret [Sc.val .l y13,Sc.val .l y11.1]
theorem fI_natDiv x0 x1:qft aI_natDiv 117 [Sc.val .l x0,Sc.val .l x1] (tI_natDiv x0 x1) :=fitK (by kernel_rfl)
end
end Go.Proofs.YtagkjnpggkmehaaGreatDoor
