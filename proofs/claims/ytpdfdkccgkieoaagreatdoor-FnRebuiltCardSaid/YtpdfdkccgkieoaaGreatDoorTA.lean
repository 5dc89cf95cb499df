/-
  What each function of the seat comes to, as a tree; each tree is checked against the code.
-/
import Derived.Test.YtpdfdkccgkieoaaGreatDoorEngD
import Derived.Test.YtpdfdkccgkieoaaGreatDoorChecked
import Derived.KernelRfl
namespace Go.Proofs.YtpdfdkccgkieoaaGreatDoor
open Sx
set_option maxRecDepth 100000
noncomputable section
abbrev qft:=@fits Tryz.prog
abbrev qa0:An:=⟨[],[],[]⟩
abbrev _root_.Sx.T.rF:T:=.ret [.bool false]
abbrev _root_.Sx.T.rT:T:=.ret [.bool true]
abbrev _root_.Sx.T.rM:T:=.ret [.int .i64 (-1)]
abbrev _root_.Sx.T.bF (b:Bool) (y:T):T:=.br (!b) (.ret [.bool false]) y
abbrev _root_.Sx.T.bn (b:Bool) (x:T) (y:T):T:=.br (!b) x y
abbrev _root_.Sx.T.qc0 (g:Nat) (l:List Value) (k:Sh.ty (.v (.g [.l,.l,.s,.l]))→T):T:=.call false g l (.v (.g [.l,.l,.s,.l])) k
abbrev _root_.Sx.T.qc1 (g:Nat) (l:List Value) (k:Sh.ty (.t [(.g [.l,.l,.s,.l]),(.o (.b))])→T):T:=.call false g l (.t [(.g [.l,.l,.s,.l]),(.o (.b))]) k
abbrev _root_.Sx.T.qc2 (g:Nat) (l:List Value) (k:Sh.ty (.v (.o (.b)))→T):T:=.call true g l (.v (.o (.b))) k
abbrev _root_.Sx.T.qc3 (g:Nat) (l:List Value) (k:Sh.ty (.v (.o (.l)))→T):T:=.call true g l (.v (.o (.l))) k
abbrev _root_.Sx.T.qc4 (g:Nat) (l:List Value) (k:Sh.ty (.v (.o (.i .i64)))→T):T:=.call false g l (.v (.o (.i .i64))) k
abbrev _root_.Sx.T.qc5 (g:Nat) (l:List Value) (k:Sh.ty (.v (.o (.p)))→T):T:=.call false g l (.v (.o (.p))) k
abbrev _root_.Sx.T.qc6 (g:Nat) (l:List Value) (k:Sh.ty (.v (.o (.b)))→T):T:=.call false g l (.v (.o (.b))) k
abbrev _root_.Sx.T.qc7 (g:Nat) (l:List Value) (k:Sh.ty (.t [(.g [.l,.l,.s,.l]),(.o (.l))])→T):T:=.call false g l (.t [(.g [.l,.l,.s,.l]),(.o (.l))]) k
abbrev _root_.Sx.T.qc8 (g:Nat) (l:List Value) (k:Sh.ty (.t [(.o (.l)),(.o (.l))])→T):T:=.call false g l (.t [(.o (.l)),(.o (.l))]) k
abbrev _root_.Sx.T.ql9 (a:Addr) (k:Sh1.ty (.o (.s))→T):T:=.ld false a (.o (.s)) k
abbrev _root_.Sx.T.qc10 (g:Nat) (l:List Value) (k:Sh.ty (.v (.o (.s)))→T):T:=.call false g l (.v (.o (.s))) k
abbrev _root_.Sx.T.ql11 (a:Addr) (k:Sh1.ty (.g [.s,.s,.b,.l,.i .i64])→T):T:=.ld false a (.g [.s,.s,.b,.l,.i .i64]) k
abbrev _root_.Sx.T.ql12 (a:Addr) (k:Sh1.ty (.g [.s,.s,.b,.l])→T):T:=.ld false a (.g [.s,.s,.b,.l]) k
abbrev _root_.Sx.T.qc13 (g:Nat) (l:List Value) (k:Sh.ty (.v (.g [.s,.b,.l]))→T):T:=.call true g l (.v (.g [.s,.b,.l])) k
abbrev _root_.Sx.T.qc14 (g:Nat) (l:List Value) (k:Sh.ty (.v (.o (.s)))→T):T:=.call true g l (.v (.o (.s))) k
abbrev _root_.Sx.T.ql15 (a:Addr) (k:Sh1.ty (.o (.i .u8))→T):T:=.ld false a (.o (.i .u8)) k
abbrev _root_.Sx.T.qc16 (g:Nat) (l:List Value) (k:Sh.ty (.v (.g [.l]))→T):T:=.call false g l (.v (.g [.l])) k
abbrev _root_.Sx.T.qc17 (g:Nat) (l:List Value) (k:Sh.ty (.v (.g [.s,.l]))→T):T:=.call false g l (.v (.g [.s,.l])) k
abbrev _root_.Sx.T.qc18 (g:Nat) (l:List Value) (k:Sh.ty (.t [(.o (.l)),(.o (.b))])→T):T:=.call false g l (.t [(.o (.l)),(.o (.b))]) k
abbrev _root_.Sx.T.qc19 (g:Nat) (l:List Value) (k:Sh.ty (.t [(.g [.l,.l,.s,.l]),(.o (.s))])→T):T:=.call false g l (.t [(.g [.l,.l,.s,.l]),(.o (.s))]) k
abbrev _root_.Sx.T.qc20 (g:Nat) (l:List Value) (k:Sh.ty (.t [(.g [.s,.s,.i .i64,.i .i64]),(.o (.b))])→T):T:=.call false g l (.t [(.g [.s,.s,.i .i64,.i .i64]),(.o (.b))]) k
abbrev _root_.Sx.T.ql21 (a:Addr) (k:Sh1.ty (.g [.l,.l,.s,.l])→T):T:=.ld false a (.g [.l,.l,.s,.l]) k
abbrev _root_.Sx.T.qc22 (g:Nat) (l:List Value) (k:Sh.ty (.v (.o (.l)))→T):T:=.call false g l (.v (.o (.l))) k
abbrev _root_.Sx.T.ql23 (a:Addr) (k:Sh1.ty (.o (.i .i64))→T):T:=.ld false a (.o (.i .i64)) k
abbrev _root_.Sx.T.qc24 (g:Nat) (l:List Value) (k:Sh.ty (.v (.g [.b,.l]))→T):T:=.call true g l (.v (.g [.b,.l])) k
abbrev _root_.Sx.T.qc25 (g:Nat) (l:List Value) (k:Sh.ty (.t [(.g [.l]),(.o (.b))])→T):T:=.call false g l (.t [(.g [.l]),(.o (.b))]) k
abbrev _root_.Sx.T.qc26 (g:Nat) (l:List Value) (k:Sh.ty (.v (.g [.s,.s,.b,.l,.i .i64]))→T):T:=.call false g l (.v (.g [.s,.s,.b,.l,.i .i64])) k
abbrev _root_.Sx.T.qc27 (g:Nat) (l:List Value) (k:Sh.ty (.t [(.g [.s,.l]),(.o (.b))])→T):T:=.call false g l (.t [(.g [.s,.l]),(.o (.b))]) k
abbrev _root_.Sx.T.qc28 (g:Nat) (l:List Value) (k:Sh.ty (.v (.g [.b,.l,.l]))→T):T:=.call true g l (.v (.g [.b,.l,.l])) k
abbrev _root_.Sx.T.qc29 (g:Nat) (l:List Value) (k:Sh.ty (.t [(.g [.b,.l,.l]),(.o (.b))])→T):T:=.call false g l (.t [(.g [.b,.l,.l]),(.o (.b))]) k
abbrev _root_.Sx.T.ql30 (a:Addr) (k:Sh1.ty (.g [.s,.b,.l,.l])→T):T:=.ld false a (.g [.s,.b,.l,.l]) k
abbrev _root_.Sx.T.qc31 (g:Nat) (l:List Value) (k:Sh.ty (.v (.g [.b,.l]))→T):T:=.call false g l (.v (.g [.b,.l])) k
abbrev _root_.Sx.T.qc32 (g:Nat) (l:List Value) (k:Sh.ty (.v (.g [.b,.l,.l]))→T):T:=.call false g l (.v (.g [.b,.l,.l])) k
abbrev _root_.Sx.T.ql33 (a:Addr) (k:Sh1.ty (.o (.s))→T):T:=.ld true a (.o (.s)) k
abbrev _root_.Sx.T.qc34 (g:Nat) (l:List Value) (k:Sh.ty (.v (.o (.i .i64)))→T):T:=.call true g l (.v (.o (.i .i64))) k
abbrev _root_.Sx.T.qc35 (g:Nat) (l:List Value) (k:Sh.ty (.v (.g [.l]))→T):T:=.call true g l (.v (.g [.l])) k
abbrev _root_.Sx.T.qc36 (g:Nat) (l:List Value) (k:Sh.ty (.t [(.g [.i .i64,.s,.s,.s,.s,.s,.b,.l,.i .i64,.l,.l,.b,.l,.i .i64,.s,.s,.b,.l,.i .i64]),(.o (.b))])→T):T:=.call false g l (.t [(.g [.i .i64,.s,.s,.s,.s,.s,.b,.l,.i .i64,.l,.l,.b,.l,.i .i64,.s,.s,.b,.l,.i .i64]),(.o (.b))]) k
abbrev _root_.Sx.T.qc37 (g:Nat) (l:List Value) (k:Sh.ty (.t [(.g [.l,.l,.s,.l]),(.o (.i .i64))])→T):T:=.call false g l (.t [(.g [.l,.l,.s,.l]),(.o (.i .i64))]) k
abbrev _root_.Sx.T.ql38 (a:Addr) (k:Sh1.ty (.g [.s,.s,.i .i64,.i .i64,.s,.s,.i .i64,.i .i64,.s,.s,.i .i64,.i .i64,.s,.s,.i .i64,.i .i64,.s,.s,.i .i64,.i .i64,.s,.s,.i .i64,.i .i64,.s,.s,.i .i64,.i .i64,.s,.s,.i .i64,.i .i64,.s,.s,.i .i64,.i .i64,.s,.s,.i .i64,.i .i64,.s,.s,.i .i64,.i .i64,.s,.s,.i .i64,.i .i64,.s,.s,.i .i64,.i .i64,.s,.s,.i .i64,.i .i64,.s,.s,.i .i64,.i .i64,.s,.s,.i .i64,.i .i64,.s,.s,.i .i64,.i .i64,.s,.s,.i .i64,.i .i64,.s,.s,.i .i64,.i .i64,.s,.s,.i .i64,.i .i64])→T):T:=.ld false a (.g [.s,.s,.i .i64,.i .i64,.s,.s,.i .i64,.i .i64,.s,.s,.i .i64,.i .i64,.s,.s,.i .i64,.i .i64,.s,.s,.i .i64,.i .i64,.s,.s,.i .i64,.i .i64,.s,.s,.i .i64,.i .i64,.s,.s,.i .i64,.i .i64,.s,.s,.i .i64,.i .i64,.s,.s,.i .i64,.i .i64,.s,.s,.i .i64,.i .i64,.s,.s,.i .i64,.i .i64,.s,.s,.i .i64,.i .i64,.s,.s,.i .i64,.i .i64,.s,.s,.i .i64,.i .i64,.s,.s,.i .i64,.i .i64,.s,.s,.i .i64,.i .i64,.s,.s,.i .i64,.i .i64,.s,.s,.i .i64,.i .i64,.s,.s,.i .i64,.i .i64]) k
abbrev _root_.Sx.T.ql39 (a:Addr) (k:Sh1.ty (.g [.s,.b,.l])→T):T:=.ld false a (.g [.s,.b,.l]) k
abbrev _root_.Sx.T.ql40 (a:Addr) (k:Sh1.ty (.o (.l))→T):T:=.ld true a (.o (.l)) k
abbrev _root_.Sx.T.ql41 (a:Addr) (k:Sh1.ty (.g [.b,.l,.i .i64])→T):T:=.ld false a (.g [.b,.l,.i .i64]) k
abbrev _root_.Sx.T.ql42 (a:Addr) (k:Sh1.ty (.g [.s,.b,.l])→T):T:=.ld true a (.g [.s,.b,.l]) k
abbrev _root_.Sx.T.qc43 (g:Nat) (l:List Value) (k:Sh.ty (.t [(.g [.s,.b,.l]),(.o (.b))])→T):T:=.call false g l (.t [(.g [.s,.b,.l]),(.o (.b))]) k
abbrev _root_.Sx.T.qc44 (g:Nat) (l:List Value) (k:Sh.ty (.v (.g [.s,.s,.b,.l,.i .i64]))→T):T:=.call true g l (.v (.g [.s,.s,.b,.l,.i .i64])) k
abbrev _root_.Sx.T.ql45 (a:Addr) (k:Sh1.ty (.o (.i .i64))→T):T:=.ld true a (.o (.i .i64)) k
abbrev _root_.Sx.T.ql46 (a:Addr) (k:Sh1.ty (.o (.i .u8))→T):T:=.ld true a (.o (.i .u8)) k
abbrev _root_.Sx.T.qc47 (g:Nat) (l:List Value) (k:Sh.ty (.v (.g [.s,.s,.i .i64,.i .i64]))→T):T:=.call false g l (.v (.g [.s,.s,.i .i64,.i .i64])) k
abbrev _root_.Sx.T.ql48 (a:Addr) (k:Sh1.ty (.g [.i .i64,.s,.s,.s,.s,.s,.b,.l,.i .i64,.l,.l,.b,.l,.i .i64,.s,.s,.b,.l,.i .i64])→T):T:=.ld false a (.g [.i .i64,.s,.s,.s,.s,.s,.b,.l,.i .i64,.l,.l,.b,.l,.i .i64,.s,.s,.b,.l,.i .i64]) k
abbrev _root_.Sx.T.ql49 (a:Addr) (k:Sh1.ty (.o (.l))→T):T:=.ld false a (.o (.l)) k
abbrev _root_.Sx.T.ql50 (a:Addr) (k:Sh1.ty (.g [.b,.l,.i .i64])→T):T:=.ld true a (.g [.b,.l,.i .i64]) k
abbrev _root_.Sx.T.qc51 (g:Nat) (l:List Value) (k:Sh.ty (.v (.g [.b,.l,.i .i64]))→T):T:=.call true g l (.v (.g [.b,.l,.i .i64])) k
abbrev _root_.Sx.T.ql52 (a:Addr) (k:Sh1.ty (.g [.s,.s,.i .i64,.i .i64])→T):T:=.ld false a (.g [.s,.s,.i .i64,.i .i64]) k
abbrev _root_.Sx.T.qc53 (g:Nat) (l:List Value) (k:Sh.ty (.v (.o (.x)))→T):T:=.call false g l (.v (.o (.x))) k
abbrev _root_.Sx.T.qc54 (g:Nat) (l:List Value) (k:Sh.ty (.t [(.o (.l)),(.o (.l)),(.o (.b))])→T):T:=.call false g l (.t [(.o (.l)),(.o (.l)),(.o (.b))]) k
abbrev _root_.Sx.T.qc55 (g:Nat) (l:List Value) (k:Sh.ty (.v (.o (.x)))→T):T:=.call true g l (.v (.o (.x))) k
abbrev _root_.Sx.T.qc56 (g:Nat) (l:List Value) (k:Sh.ty (.t [(.o (.l)),(.o (.i .i64))])→T):T:=.call false g l (.t [(.o (.l)),(.o (.i .i64))]) k
abbrev _root_.Sx.T.qc57 (g:Nat) (l:List Value) (k:Sh.ty (.t [(.g [.b,.l,.i .i64]),(.o (.b))])→T):T:=.call false g l (.t [(.g [.b,.l,.i .i64]),(.o (.b))]) k
abbrev _root_.Sx.T.qc58 (g:Nat) (l:List Value) (k:Sh.ty (.t [(.o (.i .i64)),(.o (.b))])→T):T:=.call false g l (.t [(.o (.i .i64)),(.o (.b))]) k
abbrev _root_.Sx.T.qc59 (g:Nat) (l:List Value) (k:Sh.ty (.t [(.g [.s,.s,.b,.l,.i .i64]),(.o (.b))])→T):T:=.call false g l (.t [(.g [.s,.s,.b,.l,.i .i64]),(.o (.b))]) k
abbrev _root_.Sx.T.qc60 (g:Nat) (l:List Value) (k:Sh.ty (.t [])→T):T:=.call false g l (.t []) k
abbrev _root_.Sx.T.ql61 (a:Addr) (k:Sh1.ty (.g [.l])→T):T:=.ld false a (.g [.l]) k
abbrev _root_.Sx.T.qc62 (g:Nat) (l:List Value) (k:Sh.ty (.v (.g [.s,.b,.l]))→T):T:=.call false g l (.v (.g [.s,.b,.l])) k
def tL_FnRebuilt (x0:SlV):T :=
 .br (decide ((↑x0.n:Int) > (1048576:Int))) (
  .rT) <|
 .qc0 4 [Sc.val .l x0] fun y1 =>
 .qc1 5 [qv0 y1] fun y2 =>
 .qc1 6 [.string y1.2.2.1] fun y3 =>
 .rg <|
 .br y2.2.1 (
  .br y3.2.1 (
   .qc2 7 [qv0 y2.1,qv0 (y1.1,nilS,y1.2.2.1,y1.2.2.2.1,())] fun y4 =>
   .br y4 (
    .qc3 9 [qv0 (y1.1,nilS,y1.2.2.1,y1.2.2.2.1,())] fun y5 =>
    .qc4 8 [qv0 y3.1,Sc.val .l y5] fun y6 =>
    .ret [.bool (y6 == (-1:Int))]) <|
 .rF) <|
 .rF) <|
 .rF
theorem fL_FnRebuilt x0:qft qa0 3 [Sc.val .l x0] (tL_FnRebuilt x0) :=fitK (by kernel_rfl)
def tS_MakeLedger (x0:SlV):T :=
 .qc5 10 [Sc.val .l x0] fun y1 =>
 .qc0 11 [.pointer (some y1)] fun y2 =>
 .ret [qv0 y2]
theorem fS_MakeLedger x0:qft qa0 4 [Sc.val .l x0] (tS_MakeLedger x0) :=fitK (by kernel_rfl)
def tI_Rebuilt (x0:qy0):T :=
 .qc6 12 [qv0 x0] fun y1 =>
 .bn y1 (.ret [qv0 (nilS,nilS,({ data:={ toList:=[]:Array UInt8 }:ByteArray }),nilS,()),.bool (false)]) <|
 .qc1 6 [.string x0.2.2.1] fun y2 =>
 .rg <|
 .qc3 9 [qv0 x0] fun y3 =>
 .qc7 13 [qv0 y2.1,Sc.val .l y3] fun y4 =>
 .ret [qv0 y4.1,.bool (true)]
theorem fI_Rebuilt x0:qft qa0 5 [qv0 x0] (tI_Rebuilt x0) :=fitK (by kernel_rfl)
def tI_LedgerNew (x0:ByteArray):T :=
 .qc6 14 [.string x0] fun y1 =>
 .bn y1 (.ret [qv0 (nilS,nilS,({ data:={ toList:=[]:Array UInt8 }:ByteArray }),nilS,()),.bool (false)]) <|
 .ret [qv0 (nilS,nilS,x0,nilS,()),.bool (true)]
theorem fI_LedgerNew x0:qft qa0 6 [.string x0] (tI_LedgerNew x0) :=fitK (by kernel_rfl)
def tI_LedgerSame (x0:qy0) (x1:qy0):T :=
 .qc6 15 [qv4 (x0.1,()),qv4 (x1.1,())] fun y1 =>
 .br y1 (
  .qc6 16 [Sc.val .l x0.2.1,Sc.val .l x1.2.1] fun y2 =>
  .br y2 (
   .br (ByteArray.toList x0.2.2.1 == ByteArray.toList x1.2.2.1) (
    .qc6 17 [Sc.val .l x0.2.2.2.1,Sc.val .l x1.2.2.2.1,(Value.func (Fn.func (18:Nat)) { toList:=[]:Array Value } { toList:=[]:Array Value })] fun y3 =>
    .ret [.bool y3]) <|
 .rF) <|
 .rF) <|
 .rF
theorem fI_LedgerSame x0 x1:qft qa0 7 [qv0 x0,qv0 x1] (tI_LedgerSame x0 x1) :=fitK (by kernel_rfl)
def aI_FirstBad:An:=⟨[(4,[.s 18],[.o (.o (.i .i64))])],[],[(2000004,[.s 7])]⟩
def tI_FirstBad (x0:qy0) (x1:SlV):T :=
 .qc8 19 [qv0 x0,Sc.val .l x1] fun y1 =>
 .es [.int .i64 0] 66 fun b2 =>
 .lp [.o (.o (.i .i64))] [.v (.int .i64 0)] fun y3 =>
 .br (decide (y3.1<(↑y1.2.1.n:Int))) (
  .el y1.2.1.1 (y1.2.1.n) y3.1 fun y4 =>
  .ql9 (y4.add (Int.toNat y3.1*(1:Nat))) fun y5 =>
  .qc10 20 [.int .i64 0] fun y6 =>
  .br (!y5.toList == y6.toList) (
   .qc4 21 [.pointer (some { block:=b2,off:=(0:Nat):Addr })] fun y7 =>
   .ret [.int .i64 y7]) <|
 .qc4 22 [.pointer (some { block:=b2,off:=(0:Nat):Addr }),.int .i64 1] fun _ =>
  .nx 0 [.v (.int .i64 (IntKind.i64.wrap (y3.1+(1:Int))))]) <|
 .rM
theorem fI_FirstBad x0 x1:qft aI_FirstBad 8 [qv0 x0,Sc.val .l x1] (tI_FirstBad x0 x1) :=fitK (by kernel_rfl)
def aI_Script:An:=⟨[(5,[.s 3,.s 16],[.a 9,.o (.o (.i .i64))]),(10,[.s 3,.s 31],[.a 9,.o (.o (.i .i64))])],[],[]⟩
def tI_Script (x0:qy0):T :=
 .qc6 12 [qv0 x0] fun y1 =>
 .bn y1 (.ret [.slice none 0 0]) <|
 .lp [.a 9,.o (.o (.i .i64))] [.a 9 ((0:Nat)) [],.v (.int .i64 0)] fun y2 =>
 .br (decide (y2.2.1<(↑x0.2.2.2.1.n:Int))) (
  .el x0.2.2.2.1.1 (x0.2.2.2.1.n) y2.2.1 fun y3 =>
  .ql11 (y3.add (Int.toNat y2.2.1*(5:Nat))) fun y4 =>
  .qc10 23 [qv8 ((((9:Int)):Int),({ data:={ toList:=[]:Array UInt8 }:ByteArray }),({ data:={ toList:=[]:Array UInt8 }:ByteArray }),({ data:={ toList:=[]:Array UInt8 }:ByteArray }),({ data:={ toList:=[]:Array UInt8 }:ByteArray }),({ data:={ toList:=[]:Array UInt8 }:ByteArray }),(false),nilS,(((0:Int)):Int),nilS,nilS,(false),nilS,(((0:Int)):Int),y4.1,y4.2.1,y4.2.2.1,y4.2.2.2.1,((y4.2.2.2.2.1):Int),())] fun y5 =>
  .rq ([Value.string y5].length=(1:Nat)*(1:Nat)) <|
 .rq (one [Value.string y5]=true∧(y2.1.1+(1:Nat))*(16:Nat)≤(140737488355328:Nat)∧y2.1.1+(1:Nat)≤(9223372036854775807:Nat)) <|
 .nx 0 [.a 9 (y2.1.1+(1:Nat)) (y2.1.2++[Value.string y5]),.v (.int .i64 (IntKind.i64.wrap (y2.2.1+(1:Int))))]) <|
 .lp [.a 9,.o (.o (.i .i64))] [.a 9 y2.1.1 y2.1.2,.v (.int .i64 0)] fun y3 =>
 .br (decide (y3.2.1<(↑x0.1.n:Int))) (
  .el x0.1.1 (x0.1.n) y3.2.1 fun y4 =>
  .ql12 (y4.add (Int.toNat y3.2.1*(4:Nat))) fun y5 =>
  .qc10 23 [qv8 ((((1:Int)):Int),y5.1,({ data:={ toList:=[]:Array UInt8 }:ByteArray }),({ data:={ toList:=[]:Array UInt8 }:ByteArray }),y5.2.1,({ data:={ toList:=[]:Array UInt8 }:ByteArray }),(false),nilS,(((0:Int)):Int),nilS,nilS,(false),nilS,(((0:Int)):Int),({ data:={ toList:=[]:Array UInt8 }:ByteArray }),({ data:={ toList:=[]:Array UInt8 }:ByteArray }),(false),nilS,(((0:Int)):Int),())] fun y6 =>
  .rq ([Value.string y6].length=(1:Nat)*(1:Nat)) <|
 .rq (one [Value.string y6]=true∧(y3.1.1+(1:Nat))*(16:Nat)≤(140737488355328:Nat)∧y3.1.1+(1:Nat)≤(9223372036854775807:Nat)) <|
 .qc4 24 [qv1 y5.2.2] fun y7 =>
  .br (y7 == (1:Int)) (
   .qc10 23 [qv8 ((((2:Int)):Int),y5.1,({ data:={ toList:=[]:Array UInt8 }:ByteArray }),({ data:={ toList:=[]:Array UInt8 }:ByteArray }),({ data:={ toList:=[]:Array UInt8 }:ByteArray }),y5.2.1,y5.2.2.1,y5.2.2.2.1,(((0:Int)):Int),nilS,nilS,(false),nilS,(((0:Int)):Int),({ data:={ toList:=[]:Array UInt8 }:ByteArray }),({ data:={ toList:=[]:Array UInt8 }:ByteArray }),(false),nilS,(((0:Int)):Int),())] fun y8 =>
   .rq ([Value.string y8].length=(1:Nat)*(1:Nat)) <|
 .rq (one [Value.string y8]=true∧(y3.1.1+(1:Nat)+(1:Nat))*(16:Nat)≤(140737488355328:Nat)∧y3.1.1+(1:Nat)+(1:Nat)≤(9223372036854775807:Nat)) <|
 .nx 1 [.a 9 (y3.1.1+(1:Nat)+(1:Nat)) (y3.1.2++[Value.string y6]++[Value.string y8]),.v (.int .i64 (IntKind.i64.wrap (y3.2.1+(1:Int))))]) <|
 .br (y7 == (-1:Int)) (
   .rg <|
 .qc13 25 [qv2 y5.2] fun y8 =>
   .qc14 23 [qv8 ((((3:Int)):Int),y5.1,({ data:={ toList:=[]:Array UInt8 }:ByteArray }),({ data:={ toList:=[]:Array UInt8 }:ByteArray }),({ data:={ toList:=[]:Array UInt8 }:ByteArray }),y8.1,y8.2.1,y8.2.2.1,(((0:Int)):Int),nilS,nilS,(false),nilS,(((0:Int)):Int),({ data:={ toList:=[]:Array UInt8 }:ByteArray }),({ data:={ toList:=[]:Array UInt8 }:ByteArray }),(false),nilS,(((0:Int)):Int),())] fun y9 =>
   .rq ([Value.string y9].length=(1:Nat)*(1:Nat)) <|
 .rq (one [Value.string y9]=true∧(y3.1.1+(1:Nat)+(1:Nat))*(16:Nat)≤(140737488355328:Nat)∧y3.1.1+(1:Nat)+(1:Nat)≤(9223372036854775807:Nat)) <|
 .nx 1 [.a 9 (y3.1.1+(1:Nat)+(1:Nat)) (y3.1.2++[Value.string y6]++[Value.string y9]),.v (.int .i64 (IntKind.i64.wrap (y3.2.1+(1:Int))))]) <|
 .nx 1 [.a 9 (y3.1.1+(1:Nat)) (y3.1.2++[Value.string y6]),.v (.int .i64 (IntKind.i64.wrap (y3.2.1+(1:Int))))]) <|
 .fz y3.1.1 y3.1.2 9 fun b4 c4 =>
 .ret [.slice (some { block:=b4,off:=(0:Nat):Addr }) y3.1.1 (c4)]
theorem fI_Script x0:qft aI_Script 9 [qv0 x0] (tI_Script x0) :=fitK (by kernel_rfl)
def aS_l01New:An:=⟨[(3,[.s 3,.s 4],[.o (.o (.i .i64)),.o (.o (.i .i64))])],[],[]⟩
def tS_l01New (x0:SlV):T :=
 .lp [.o (.o (.i .i64)),.o (.o (.i .i64))] [.v (.int .i64 (IntKind.i64.wrap ((1616:Int)+(↑x0.n:Int)))),.v (.int .i64 0)] fun y1 =>
 .br (decide (y1.2.1<(↑x0.n:Int))) (
  .br (decide (y1.2.1<(4000:Int))) (
   .el x0.1 (x0.n) y1.2.1 fun y2 =>
   .ql15 (y2.add (Int.toNat y1.2.1*(1:Nat))) fun y3 =>
   .nx 0 [.v (.int .i64 (IntKind.i64.wrap (↑(BitVec.ofInt (64:Nat) (IntKind.i64.wrap (IntKind.i64.wrap (IntKind.i64.wrap (y1.1*(41:Int))+IntKind.i64.wrap y3)+(7:Int))) &&& BitVec.ofInt (64:Nat) (1073741823:Int)).toNat:Int))),.v (.int .i64 (IntKind.i64.wrap (y1.2.1+(1:Int))))]) <|
 .es [Sc.val .l x0,.int .i64 0,.int .i64 y1.1] 80 fun b2 =>
  .ret [.pointer (some { block:=b2,off:=(0:Nat):Addr })]) <|
 .es [Sc.val .l x0,.int .i64 0,.int .i64 y1.1] 80 fun b2 =>
 .ret [.pointer (some { block:=b2,off:=(0:Nat):Addr })]
theorem fS_l01New x0:qft aS_l01New 10 [Sc.val .l x0] (tS_l01New x0) :=fitK (by kernel_rfl)
def aS_l20Draw:An:=⟨[(3,[.s 4,.c 3 0,.c 3 1,.c 3 2,.c 3 3],[.o (.o (.i .i64)),.o (.o (.l)),.o (.o (.l)),.o (.o (.s)),.o (.o (.l))])],[],[]⟩
def tS_l20Draw (x0:Addr):T :=
 .qc16 26 [.pointer (some x0)] fun y1 =>
 .qc17 27 [.pointer (some x0)] fun y2 =>
 .qc4 28 [.pointer (some x0),.int .i64 3] fun y3 =>
 .lp [.o (.o (.i .i64)),.o (.o (.l)),.o (.o (.l)),.o (.o (.s)),.o (.o (.l))] [.v (.int .i64 y3),.v (Sc.val .l y1.1),.v (.slice none 0 0),.v (.string y2.1),.v (Sc.val .l y2.2.1)] fun y4 =>
 .br (decide (y4.1 > (0:Int))) (
  .rf <|
 .cf 30 [.pointer (some x0)] (.v (.o (.s))) fun y5 =>
  .cf 31 [.pointer (some x0),.int .i64 1] (.v (.g [.b,.l,.l])) fun y6 =>
  .qc18 29 [Sc.val .l y4.2.2.1,.string y5,qv5 y6] fun y7 =>
  .br y7.2.1 (
   .nx 0 [.v (.int .i64 (IntKind.i64.wrap (y4.1-(1:Int)))),.v (Sc.val .l y4.2.1),.v (Sc.val .l y7.1),.v (.string y4.2.2.2.1),.v (Sc.val .l y4.2.2.2.2.1)]) <|
 .nx 0 [.v (.int .i64 (IntKind.i64.wrap (y4.1-(1:Int)))),.v (Sc.val .l y4.2.1),.v (Sc.val .l y4.2.2.1),.v (.string y4.2.2.2.1),.v (Sc.val .l y4.2.2.2.2.1)]) <|
 .ret [qv0 y4.2]
theorem fS_l20Draw x0:qft aS_l20Draw 11 [.pointer (some x0)] (tS_l20Draw x0) :=fitK (by kernel_rfl)
def tI_LedgerOk (x0:qy0):T :=
 .qc6 32 [qv4 (x0.1,())] fun y1 =>
 .br y1 (
  .qc6 33 [Sc.val .l x0.2.1] fun y2 =>
  .br y2 (
   .qc6 34 [qv7 x0.2.2] fun y3 =>
   .ret [.bool y3]) <|
 .rF) <|
 .rF
theorem fI_LedgerOk x0:qft qa0 12 [qv0 x0] (tI_LedgerOk x0) :=fitK (by kernel_rfl)
def aI_AnswerAll:An:=⟨[(4,[.s 7,.s 17,.c 6 0,.c 6 1,.c 6 2,.c 6 3],[.a 9,.o (.o (.i .i64)),.o (.o (.l)),.o (.o (.l)),.o (.o (.s)),.o (.o (.l))])],[],[]⟩
def tI_AnswerAll (x0:qy0) (x1:SlV):T :=
 .qc0 35 [qv0 x0] fun y1 =>
 .lp [.a 9,.o (.o (.i .i64)),.o (.o (.l)),.o (.o (.l)),.o (.o (.s)),.o (.o (.l))] [.a 9 ((0:Nat)) [],.v (.int .i64 0),.v (Sc.val .l y1.1),.v (Sc.val .l y1.2.1),.v (.string y1.2.2.1),.v (Sc.val .l y1.2.2.2.1)] fun y2 =>
 .br (decide (y2.2.1<(↑x1.n:Int))) (
  .el x1.1 (x1.n) y2.2.1 fun y3 =>
  .ql9 (y3.add (Int.toNat y2.2.1*(1:Nat))) fun y4 =>
  .qc19 36 [qv0 y2.2.2,.string y4] fun y5 =>
  .rq ([Value.string y5.2.1].length=(1:Nat)*(1:Nat)) <|
 .rq (one [Value.string y5.2.1]=true∧(y2.1.1+(1:Nat))*(16:Nat)≤(140737488355328:Nat)∧y2.1.1+(1:Nat)≤(9223372036854775807:Nat)) <|
 .nx 0 [.a 9 (y2.1.1+(1:Nat)) (y2.1.2++[Value.string y5.2.1]),.v (.int .i64 (IntKind.i64.wrap (y2.2.1+(1:Int)))),.v (Sc.val .l y5.1.1),.v (Sc.val .l y5.1.2.1),.v (.string y5.1.2.2.1),.v (Sc.val .l y5.1.2.2.2.1)]) <|
 .fz y2.1.1 y2.1.2 9 fun b3 c3 =>
 .ret [qv0 y2.2.2,.slice (some { block:=b3,off:=(0:Nat):Addr }) y2.1.1 (c3)]
theorem fI_AnswerAll x0 x1:qft aI_AnswerAll 13 [qv0 x0,Sc.val .l x1] (tI_AnswerAll x0 x1) :=fitK (by kernel_rfl)
def tI_CurKnown (x0:ByteArray):T :=
 .qc20 37 [.string x0] fun y1 =>
 .ret [.bool y1.2.1]
theorem fI_CurKnown x0:qft qa0 14 [.string x0] (tI_CurKnown x0) :=fitK (by kernel_rfl)
def tI_BookSame (x0:qy3) (x1:qy3):T :=
 .qc6 38 [Sc.val .l x0.1,Sc.val .l x1.1,(Value.func (Fn.func (39:Nat)) { toList:=[]:Array Value } { toList:=[]:Array Value })] fun y1 =>
 .ret [.bool y1]
theorem fI_BookSame x0 x1:qft qa0 15 [qv4 x0,qv4 x1] (tI_BookSame x0 x1) :=fitK (by kernel_rfl)
def tI_RestsSame (x0:SlV) (x1:SlV):T :=
 .qc6 41 [Sc.val .l x0,Sc.val .l x1,(Value.func (Fn.func (42:Nat)) { toList:=[]:Array Value } { toList:=[]:Array Value })] fun y1 =>
 .ret [.bool y1]
theorem fI_RestsSame x0 x1:qft qa0 16 [Sc.val .l x0,Sc.val .l x1] (tI_RestsSame x0 x1) :=fitK (by kernel_rfl)
def aX_EqualFunc_Rate:An:=⟨[(4,[.s 17],[.o (.o (.i .i64))])],[],[]⟩
def tX_EqualFunc_Rate (x0:SlV) (x1:SlV) (x2:Nat):T :=
 .br ((↑x0.n:Int) != (↑x1.n:Int)) (
  .rF) <|
 .lp [.o (.o (.i .i64))] [.v (.int .i64 0)] fun y1 =>
 .br (decide (y1.1<(↑x0.n:Int))) (
  .el x0.1 (x0.n) y1.1 fun y2 =>
  .ql11 (y2.add (Int.toNat y1.1*(5:Nat))) fun y3 =>
  .el x1.1 (x1.n) y1.1 fun y4 =>
  .ql11 (y4.add (Int.toNat y1.1*(5:Nat))) fun y5 =>
  .call false x2 [qv6 y3,qv6 y5] (.v (.o (.b))) fun y6 =>
  .bF y6 <|
 .nx 0 [.v (.int .i64 (IntKind.i64.wrap (y1.1+(1:Int))))]) <|
 .rT
theorem fX_EqualFunc_Rate x0 x1 x2:qft aX_EqualFunc_Rate 17 [Sc.val .l x0,Sc.val .l x1,(Value.func (Fn.func x2) { toList:=[]:Array Value } { toList:=[]:Array Value })] (tX_EqualFunc_Rate x0 x1 x2) :=fitK (by kernel_rfl)
def tI_rateSame (x0:qy5) (x1:qy5):T :=
 .br (ByteArray.toList x0.1 == ByteArray.toList x1.1) (
  .br (ByteArray.toList x0.2.1 == ByteArray.toList x1.2.1) (
   .qc6 44 [qv3 x0.2.2,qv3 x1.2.2] fun y1 =>
   .ret [.bool y1]) <|
 .rF) <|
 .rF
theorem fI_rateSame x0 x1:qft qa0 18 [qv6 x0,qv6 x1] (tI_rateSame x0 x1) :=fitK (by kernel_rfl)
def aI_ledgers:An:=⟨[(4,[.s 6,.s 7,.s 18],[.o (.o (.l)),.a 9,.o (.o (.i .i64))])],[],[(2000004,[.s 6])]⟩
def tI_ledgers (x0:qy0) (x1:SlV):T :=
 .qc0 35 [qv0 x0] fun y1 =>
 .fz ((1:Nat)) [Sc.val .l y1.1,Sc.val .l y1.2.1,.string y1.2.2.1,Sc.val .l y1.2.2.2.1] 31 fun b2 c2 =>
 .lp [.o (.o (.l)),.a 9,.o (.o (.i .i64))] [.v (.slice (some { block:=b2,off:=(0:Nat):Addr }) ((1:Nat)) (c2)),.a 9 ((0:Nat)) [],.v (.int .i64 0)] fun y3 =>
 .br (decide (y3.2.2.1<(↑x1.n:Int))) (
  .el x1.1 (x1.n) y3.2.2.1 fun y4 =>
  .ql9 (y4.add (Int.toNat y3.2.2.1*(1:Nat))) fun y5 =>
  .el y3.1.1 (y3.1.n) y3.2.2.1 fun y6 =>
  .ql21 (y6.add (Int.toNat y3.2.2.1*(4:Nat))) fun y7 =>
  .qc19 36 [qv0 y7,.string y5] fun y8 =>
  .rq ([Value.slice y8.1.1.1 y8.1.1.n y8.1.1.c,Value.slice y8.1.2.1.1 y8.1.2.1.n y8.1.2.1.c,Value.string y8.1.2.2.1,Value.slice y8.1.2.2.2.1.1 y8.1.2.2.2.1.n y8.1.2.2.2.1.c].length=(1:Nat)*(4:Nat)) <|
 .rq (one [Value.slice y8.1.1.1 y8.1.1.n y8.1.1.c,Value.slice y8.1.2.1.1 y8.1.2.1.n y8.1.2.1.c,Value.string y8.1.2.2.1,Value.slice y8.1.2.2.2.1.1 y8.1.2.2.2.1.n y8.1.2.2.2.1.c]=true) <|
 .ap ({ a:=y3.1.1,n:=y3.1.n,c:=y3.1.c:SlV }) 4 88 [Sc.val .l y8.1.1,Sc.val .l y8.1.2.1,.string y8.1.2.2.1,Sc.val .l y8.1.2.2.2.1] ((1:Nat)) 31 fun y9 =>
  .rq ([Value.string y8.2.1].length=(1:Nat)*(1:Nat)) <|
 .rq (one [Value.string y8.2.1]=true∧(y3.2.1.1+(1:Nat))*(16:Nat)≤(140737488355328:Nat)∧y3.2.1.1+(1:Nat)≤(9223372036854775807:Nat)) <|
 .nx 0 [.v (Sc.val .l y9),.a 9 (y3.2.1.1+(1:Nat)) (y3.2.1.2++[Value.string y8.2.1]),.v (.int .i64 (IntKind.i64.wrap (y3.2.2.1+(1:Int))))]) <|
 .fz y3.2.1.1 y3.2.1.2 9 fun b4 c4 =>
 .ret [Sc.val .l y3.1,.slice (some { block:=b4,off:=(0:Nat):Addr }) y3.2.1.1 (c4)]
theorem fI_ledgers x0 x1:qft aI_ledgers 19 [qv0 x0,Sc.val .l x1] (tI_ledgers x0 x1) :=fitK (by kernel_rfl)
def tI_LcName (x0:Int):T :=
 .fz ((10:Nat)) [.string ({ data:={ toList:=[(111:UInt8),(107:UInt8)]:Array UInt8 }:ByteArray }),.string ({ data:={ toList:=[(102:UInt8),(111:UInt8),(114:UInt8),(109:UInt8)]:Array UInt8 }:ByteArray }),.string ({ data:={ toList:=[(99:UInt8),(117:UInt8),(114:UInt8)]:Array UInt8 }:ByteArray }),.string ({ data:={ toList:=[(97:UInt8),(99:UInt8),(99:UInt8),(116:UInt8)]:Array UInt8 }:ByteArray }),.string ({ data:={ toList:=[(104:UInt8),(97:UInt8),(118:UInt8),(101:UInt8)]:Array UInt8 }:ByteArray }),.string ({ data:={ toList:=[(109:UInt8),(97:UInt8),(116:UInt8),(99:UInt8),(104:UInt8)]:Array UInt8 }:ByteArray }),.string ({ data:={ toList:=[(114:UInt8),(97:UInt8),(116:UInt8),(101:UInt8)]:Array UInt8 }:ByteArray }),.string ({ data:={ toList:=[(119:UInt8),(101:UInt8),(105:UInt8),(103:UInt8),(104:UInt8),(116:UInt8)]:Array UInt8 }:ByteArray }),.string ({ data:={ toList:=[(108:UInt8),(97:UInt8),(114:UInt8),(103:UInt8),(101:UInt8)]:Array UInt8 }:ByteArray }),.string ({ data:={ toList:=[(102:UInt8),(117:UInt8),(108:UInt8),(108:UInt8)]:Array UInt8 }:ByteArray })] 9 fun b1 c1 =>
 .qc10 45 [.int .i64 x0,.slice (some { block:=b1,off:=(0:Nat):Addr }) ((10:Nat)) (c1)] fun y2 =>
 .ret [.string y2]
theorem fI_LcName x0:qft qa0 20 [.int .i64 x0] (tI_LcName x0) :=fitK (by kernel_rfl)
def aI_CmdText:An:=⟨[(5,[.s 3,.s 17],[.a 9,.o (.o (.i .i64))])],[],[(2000005,[.s 1])]⟩
def tI_CmdText (x0:qy8):T :=
 .qc6 48 [qv8 x0] fun y1 =>
 .bn y1 (.ret [.string ({ data:={ toList:=[]:Array UInt8 }:ByteArray })]) <|
 .qc10 49 [.int .i64 x0.1] fun y2 =>
 .qc22 50 [.int .i64 x0.1] fun y3 =>
 .es [.int .i64 x0.1,.string x0.2.1,.string x0.2.2.1,.string x0.2.2.2.1,.string x0.2.2.2.2.1,.string x0.2.2.2.2.2.1,.bool x0.2.2.2.2.2.2.1,Sc.val .l x0.2.2.2.2.2.2.2.1,.int .i64 x0.2.2.2.2.2.2.2.2.1,Sc.val .l x0.2.2.2.2.2.2.2.2.2.1,Sc.val .l x0.2.2.2.2.2.2.2.2.2.2.1,.bool x0.2.2.2.2.2.2.2.2.2.2.2.1,Sc.val .l x0.2.2.2.2.2.2.2.2.2.2.2.2.1,.int .i64 x0.2.2.2.2.2.2.2.2.2.2.2.2.2.1,.string x0.2.2.2.2.2.2.2.2.2.2.2.2.2.2.1,.string x0.2.2.2.2.2.2.2.2.2.2.2.2.2.2.2.1,.bool x0.2.2.2.2.2.2.2.2.2.2.2.2.2.2.2.2.1,Sc.val .l x0.2.2.2.2.2.2.2.2.2.2.2.2.2.2.2.2.2.1,.int .i64 x0.2.2.2.2.2.2.2.2.2.2.2.2.2.2.2.2.2.2.1] 74 fun b4 =>
 .lp [.a 9,.o (.o (.i .i64))] [.a 9 ((1:Nat)) [.string y2],.v (.int .i64 0)] fun y5 =>
 .br (decide (y5.2.1<(↑y3.n:Int))) (
  .el y3.1 (y3.n) y5.2.1 fun y6 =>
  .ql23 (y6.add (Int.toNat y5.2.1*(1:Nat))) fun y7 =>
  .qc10 51 [.pointer (some { block:=b4,off:=(0:Nat):Addr }),.int .i64 y7] fun y8 =>
  .rq ([Value.string y8].length=(1:Nat)*(1:Nat)) <|
 .rq (one [Value.string y8]=true∧(y5.1.1+(1:Nat))*(16:Nat)≤(140737488355328:Nat)∧y5.1.1+(1:Nat)≤(9223372036854775807:Nat)) <|
 .nx 0 [.a 9 (y5.1.1+(1:Nat)) (y5.1.2++[Value.string y8]),.v (.int .i64 (IntKind.i64.wrap (y5.2.1+(1:Int))))]) <|
 .fz y5.1.1 y5.1.2 9 fun b6 c6 =>
 .qc10 52 [.slice (some { block:=b6,off:=(0:Nat):Addr }) y5.1.1 (c6),.string ({ data:={ toList:=[(32:UInt8)]:Array UInt8 }:ByteArray })] fun y7 =>
 .ret [.string y7]
theorem fI_CmdText x0:qft aI_CmdText 23 [qv8 x0] (tI_CmdText x0) :=fitK (by kernel_rfl)
def tI_intSign (x0:qy1):T :=
 .br ((↑x0.2.1.n:Int) == (0:Int)) (
  .ret [.int .i64 0]) <|
 .br x0.1 (
  .rM) <|
 .ret [.int .i64 1]
theorem fI_intSign x0:qft qa0 24 [qv1 x0] (tI_intSign x0) :=fitK (by kernel_rfl)
def tI_minus (x0:qy2):T :=
 .rg <|
 .qc24 53 [qv1 x0.2] fun y1 =>
 .ret [qv2 (x0.1,y1.1,y1.2.1,())]
theorem fI_minus x0:qft qa0 25 [qv2 x0] (tI_minus x0) :=fitK (by kernel_rfl)
def aS_l17Draw:An:=⟨[(3,[.s 12,.c 3 0],[.o (.o (.i .i64)),.o (.o (.l))])],[],[]⟩
def tS_l17Draw (x0:Addr):T :=
 .lp [.o (.o (.i .i64)),.o (.o (.l))] [.v (.int .i64 0),.v (.slice none 0 0)] fun y1 =>
 .br (decide (y1.1<(↑(5:Nat):Int))) (
  .rq ((0:Int)≤y1.1∧y1.1<(↑(5:Nat):Int)) <|
 .xs [.string ({ data:={ toList:=[(98:UInt8),(97:UInt8),(110:UInt8),(107:UInt8)]:Array UInt8 }:ByteArray }),.string ({ data:={ toList:=[(98:UInt8),(111:UInt8),(120:UInt8)]:Array UInt8 }:ByteArray }),.string ({ data:={ toList:=[(99:UInt8),(97:UInt8),(115:UInt8),(104:UInt8)]:Array UInt8 }:ByteArray }),.string ({ data:={ toList:=[(102:UInt8),(101:UInt8),(101:UInt8),(115:UInt8)]:Array UInt8 }:ByteArray }),.string ({ data:={ toList:=[(116:UInt8),(97:UInt8),(120:UInt8)]:Array UInt8 }:ByteArray })] (Int.toNat y1.1*(1:Nat)) (.o (.s)) fun y2 =>
  .qc6 54 [.pointer (some x0),.int .i64 4] fun y3 =>
  .bn y3 (.fz ((4:Nat)) [.string ({ data:={ toList:=[(67:UInt8),(72:UInt8),(70:UInt8)]:Array UInt8 }:ByteArray }),.string ({ data:={ toList:=[(69:UInt8),(85:UInt8),(82:UInt8)]:Array UInt8 }:ByteArray }),.string ({ data:={ toList:=[(85:UInt8),(83:UInt8),(68:UInt8)]:Array UInt8 }:ByteArray }),.string ({ data:={ toList:=[(74:UInt8),(80:UInt8),(89:UInt8)]:Array UInt8 }:ByteArray })] 9 fun b4 c4 =>
   .qc10 55 [.pointer (some x0),.slice (some { block:=b4,off:=(0:Nat):Addr }) ((4:Nat)) (c4)] fun y5 =>
   .qc25 56 [qv4 y1.2,.string y2,.string y5] fun y6 =>
   .br y6.2.1 (
    .rf <|
 .cf 28 [.pointer (some x0),.int .i64 9000] (.v (.o (.i .i64))) fun y7 =>
    .qc24 58 [.int .i64 (IntKind.i64.wrap (y7-(2000:Int)))] fun y8 =>
    .qc25 57 [qv4 y6.1,.string y2,qv2 (y5,y8.1,y8.2.1,())] fun y9 =>
    .nx 0 [.v (.int .i64 (IntKind.i64.wrap (y1.1+(1:Int)))),.v (Sc.val .l y9.1.1)]) <|
 .nx 0 [.v (.int .i64 (IntKind.i64.wrap (y1.1+(1:Int)))),.v (Sc.val .l y1.2.1)]) <|
 .nx 0 [.v (.int .i64 (IntKind.i64.wrap (y1.1+(1:Int)))),.v (Sc.val .l y1.2.1)]) <|
 .ret [qv4 y1.2]
theorem fS_l17Draw x0:qft aS_l17Draw 26 [.pointer (some x0)] (tS_l17Draw x0) :=fitK (by kernel_rfl)
def aS_l10Table:An:=⟨[(3,[.s 4,.c 3 0,.c 3 1],[.o (.o (.i .i64)),.o (.o (.s)),.o (.o (.l))])],[],[]⟩
def tS_l10Table (x0:Addr):T :=
 .fz ((3:Nat)) [.string ({ data:={ toList:=[(69:UInt8),(85:UInt8),(82:UInt8)]:Array UInt8 }:ByteArray }),.string ({ data:={ toList:=[(69:UInt8),(85:UInt8),(82:UInt8)]:Array UInt8 }:ByteArray }),.string ({ data:={ toList:=[(85:UInt8),(83:UInt8),(68:UInt8)]:Array UInt8 }:ByteArray })] 9 fun b1 c1 =>
 .qc10 55 [.pointer (some x0),.slice (some { block:=b1,off:=(0:Nat):Addr }) ((3:Nat)) (c1)] fun y2 =>
 .qc4 28 [.pointer (some x0),.int .i64 7] fun y3 =>
 .lp [.o (.o (.i .i64)),.o (.o (.s)),.o (.o (.l))] [.v (.int .i64 y3),.v (.string y2),.v (.slice none 0 0)] fun y4 =>
 .br (decide (y4.1 > (0:Int))) (
  .qc26 59 [.pointer (some x0)] fun y5 =>
  .qc6 54 [.pointer (some x0),.int .i64 2] fun y6 =>
  .br y6 (
   .br (!ByteArray.toList y5.1 == ByteArray.toList y4.2.1) (
    .qc27 60 [qv7 y4.2,qv6 (y5.1,y4.2.1,y5.2.2.1,y5.2.2.2.1,((y5.2.2.2.2.1):Int),())] fun y7 =>
    .br y7.2.1 (
     .nx 0 [.v (.int .i64 (IntKind.i64.wrap (y4.1-(1:Int)))),.v (.string y7.1.1),.v (Sc.val .l y7.1.2.1)]) <|
 .nx 0 [.v (.int .i64 (IntKind.i64.wrap (y4.1-(1:Int)))),.v (.string y4.2.1),.v (Sc.val .l y4.2.2.1)]) <|
 .qc27 60 [qv7 y4.2,qv6 y5] fun y7 =>
   .br y7.2.1 (
    .nx 0 [.v (.int .i64 (IntKind.i64.wrap (y4.1-(1:Int)))),.v (.string y7.1.1),.v (Sc.val .l y7.1.2.1)]) <|
 .nx 0 [.v (.int .i64 (IntKind.i64.wrap (y4.1-(1:Int)))),.v (.string y4.2.1),.v (Sc.val .l y4.2.2.1)]) <|
 .qc27 60 [qv7 y4.2,qv6 y5] fun y7 =>
  .br y7.2.1 (
   .nx 0 [.v (.int .i64 (IntKind.i64.wrap (y4.1-(1:Int)))),.v (.string y7.1.1),.v (Sc.val .l y7.1.2.1)]) <|
 .nx 0 [.v (.int .i64 (IntKind.i64.wrap (y4.1-(1:Int)))),.v (.string y4.2.1),.v (Sc.val .l y4.2.2.1)]) <|
 .ret [qv7 y4.2]
theorem fS_l10Table x0:qft aS_l10Table 27 [.pointer (some x0)] (tS_l10Table x0) :=fitK (by kernel_rfl)
def tS_l01Below (x0:Addr) (x1:Int):T :=
 .br (decide (x1≤(0:Int))) (
  .ret [.int .i64 0]) <|
 .br (decide (x1≤(256:Int))) (
  .qc4 61 [.pointer (some x0)] fun y1 =>
  .rq (x1≠(0:Int)) <|
 .ret [.int .i64 (y1.tmod x1)]) <|
 .qc4 61 [.pointer (some x0)] fun y1 =>
 .qc4 61 [.pointer (some x0)] fun y2 =>
 .qc4 61 [.pointer (some x0)] fun y3 =>
 .qc4 61 [.pointer (some x0)] fun y4 =>
 .rq (x1≠(0:Int)) <|
 .ret [.int .i64 ((IntKind.i64.wrap (IntKind.i64.wrap (IntKind.i64.wrap (IntKind.i64.wrap (y1*(16777216:Int))+IntKind.i64.wrap (y2*(65536:Int)))+IntKind.i64.wrap (y3*(256:Int)))+y4)).tmod x1)]
theorem fS_l01Below x0 x1:qft qa0 28 [.pointer (some x0),.int .i64 x1] (tS_l01Below x0 x1) :=fitK (by kernel_rfl)
def aS_RestAdd:An:=⟨[(7,[.s 10,.s 11,.s 38],[.o (.o (.l)),.o (.o (.b)),.o (.o (.i .i64))])],[(13,[.s 10,.s 11],[.o (.o (.l)),.o (.o (.b))]),(17,[.s 10],[.o (.o (.l))])],[]⟩
def tS_RestAdd (x0:SlV) (x1:ByteArray) (x2:qy4):T :=
 .rg <|
 .qc28 63 [Sc.val .l x0,.string x1] fun y1 =>
 .qc29 62 [qv5 y1,qv5 x2] fun y2 =>
 .qc6 64 [Sc.val .l x0] fun y3 =>
 .bn y3 (.ret [.slice none 0 0,.bool (false)]) <|
 .qc6 65 [.string x1] fun y4 =>
 .bn y4 (.ret [.slice none 0 0,.bool (false)]) <|
 .bn y2.2.1 (.ret [.slice none 0 0,.bool (false)]) <|
 .qc22 66 [Sc.val .l x0] fun y5 =>
 .fz ((0:Nat)) [] 105 fun b6 c6 =>
 .lp [.o (.o (.l)),.o (.o (.b)),.o (.o (.i .i64))] [.v (.slice (some { block:=b6,off:=(0:Nat):Addr }) ((0:Nat)) (c6)),.v (.bool (false)),.v (.int .i64 0)] fun y7 =>
 .br (decide (y7.2.2.1<(↑y5.n:Int))) (
  .el y5.1 (y5.n) y7.2.2.1 fun y8 =>
  .ql30 (y8.add (Int.toNat y7.2.2.1*(4:Nat))) fun y9 =>
  .br (ByteArray.toList y9.1 == x1.toList) (
   .nx 0 [.v (Sc.val .l y7.1),.v (.bool y7.2.1),.v (.int .i64 (IntKind.i64.wrap (y7.2.2.1+(1:Int))))]) <|
 .jn [.o (.o (.l)),.o (.o (.b))] (fun y10 =>
   .rq ([Value.string y9.1,Value.bool y9.2.1,Value.slice y9.2.2.1.1 y9.2.2.1.n y9.2.2.1.c,Value.slice y9.2.2.2.1.1 y9.2.2.2.1.n y9.2.2.2.1.c].length=(1:Nat)*(4:Nat)) <|
 .rq (one [Value.string y9.1,Value.bool y9.2.1,Value.slice y9.2.2.1.1 y9.2.2.1.n y9.2.2.1.c,Value.slice y9.2.2.2.1.1 y9.2.2.2.1.n y9.2.2.2.1.c]=true) <|
 .ap ({ a:=y10.1.1,n:=y10.1.n,c:=y10.1.c:SlV }) 4 72 [.string y9.1,.bool y9.2.1,Sc.val .l y9.2.2.1,Sc.val .l y9.2.2.2.1] ((1:Nat)) 105 fun y11 =>
   .nx 0 [.v (Sc.val .l y11),.v (.bool y10.2.1),.v (.int .i64 (IntKind.i64.wrap (y7.2.2.1+(1:Int))))]) <|
 .bn y7.2.1 (.br (!(Op.bytesLess (ByteArray.toList y9.1) x1.toList || ByteArray.toList y9.1 == x1.toList)) (
    .qc4 67 [qv5 y2.1] fun y10 =>
    .br (y10 != (0:Int)) (
     .rq ([Value.string x1,Value.bool y2.1.1,Value.slice y2.1.2.1.1 y2.1.2.1.n y2.1.2.1.c,Value.slice y2.1.2.2.1.1 y2.1.2.2.1.n y2.1.2.2.1.c].length=(1:Nat)*(4:Nat)) <|
 .rq (one [Value.string x1,Value.bool y2.1.1,Value.slice y2.1.2.1.1 y2.1.2.1.n y2.1.2.1.c,Value.slice y2.1.2.2.1.1 y2.1.2.2.1.n y2.1.2.2.1.c]=true) <|
 .ap ({ a:=y7.1.1,n:=y7.1.n,c:=y7.1.c:SlV }) 4 72 [.string x1,.bool y2.1.1,Sc.val .l y2.1.2.1,Sc.val .l y2.1.2.2.1] ((1:Nat)) 105 fun y11 =>
     .nx 1 [.v (Sc.val .l y11),.v (.bool (true))]) <|
 .nx 1 [.v (Sc.val .l y7.1),.v (.bool y7.2.1)]) <|
 .nx 1 [.v (Sc.val .l y7.1),.v (.bool y7.2.1)]) <|
 .nx 1 [.v (Sc.val .l y7.1),.v (.bool y7.2.1)]) <|
 .jn [.o (.o (.l))] (fun y8 =>
  .ret [Sc.val .l y8.1,.bool (true)]) <|
 .bn y7.2.1 (.qc4 67 [qv5 y2.1] fun y8 =>
  .br (y8 != (0:Int)) (
   .rq ([Value.string x1,Value.bool y2.1.1,Value.slice y2.1.2.1.1 y2.1.2.1.n y2.1.2.1.c,Value.slice y2.1.2.2.1.1 y2.1.2.2.1.n y2.1.2.2.1.c].length=(1:Nat)*(4:Nat)) <|
 .rq (one [Value.string x1,Value.bool y2.1.1,Value.slice y2.1.2.1.1 y2.1.2.1.n y2.1.2.1.c,Value.slice y2.1.2.2.1.1 y2.1.2.2.1.n y2.1.2.2.1.c]=true) <|
 .ap ({ a:=y7.1.1,n:=y7.1.n,c:=y7.1.c:SlV }) 4 72 [.string x1,.bool y2.1.1,Sc.val .l y2.1.2.1,Sc.val .l y2.1.2.2.1] ((1:Nat)) 105 fun y9 =>
   .nx 1 [.v (Sc.val .l y9)]) <|
 .nx 1 [.v (Sc.val .l y7.1)]) <|
 .nx 1 [.v (Sc.val .l y7.1)]
theorem fS_RestAdd x0 x1 x2:qft aS_RestAdd 29 [Sc.val .l x0,.string x1,qv5 x2] (tS_RestAdd x0 x1 x2) :=fitK (by kernel_rfl)
def tS_l08Cur (x0:Addr):T :=
 .fz ((7:Nat)) [.string ({ data:={ toList:=[(67:UInt8),(72:UInt8),(70:UInt8)]:Array UInt8 }:ByteArray }),.string ({ data:={ toList:=[(69:UInt8),(85:UInt8),(82:UInt8)]:Array UInt8 }:ByteArray }),.string ({ data:={ toList:=[(85:UInt8),(83:UInt8),(68:UInt8)]:Array UInt8 }:ByteArray }),.string ({ data:={ toList:=[(74:UInt8),(80:UInt8),(89:UInt8)]:Array UInt8 }:ByteArray }),.string ({ data:={ toList:=[(75:UInt8),(87:UInt8),(68:UInt8)]:Array UInt8 }:ByteArray }),.string ({ data:={ toList:=[(72:UInt8),(85:UInt8),(70:UInt8)]:Array UInt8 }:ByteArray }),.string ({ data:={ toList:=[(67:UInt8),(76:UInt8),(70:UInt8)]:Array UInt8 }:ByteArray })] 9 fun b1 c1 =>
 .qc10 55 [.pointer (some x0),.slice (some { block:=b1,off:=(0:Nat):Addr }) ((7:Nat)) (c1)] fun y2 =>
 .ret [.string y2]
theorem fS_l08Cur x0:qft qa0 30 [.pointer (some x0)] (tS_l08Cur x0) :=fitK (by kernel_rfl)
def tS_l05Draw (x0:Addr) (x1:Int):T :=
 .qc31 68 [.pointer (some x0),.int .i64 x1] fun y1 =>
 .qc4 28 [.pointer (some x0),.int .i64 12] fun y2 =>
 .qc22 69 [.int .i64 (IntKind.i64.wrap ((1:Int)+y2))] fun y3 =>
 .qc6 54 [.pointer (some x0),.int .i64 3] fun y4 =>
 .br y4 (
  .qc22 70 [.pointer (some x0),.int .i64 (IntKind.i64.wrap (x1-(1:Int)))] fun y5 =>
  .qc4 28 [.pointer (some x0),.int .i64 999] fun y6 =>
  .rq ([Value.int IntKind.i64 (IntKind.i64.wrap ((1:Int)+y6))].length=(1:Nat)*(1:Nat)) <|
 .rq (one [Value.int IntKind.i64 (IntKind.i64.wrap ((1:Int)+y6))]=true) <|
 .ap ({ a:=y5.1,n:=y5.n,c:=y5.c:SlV }) 1 8 [.int .i64 (IntKind.i64.wrap ((1:Int)+y6))] ((1:Nat)) 3 fun y7 =>
  .qc29 71 [qv1 y1,qv1 ((false),y7,())] fun y8 =>
  .bn y8.2.1 (.qc32 72 [] fun y9 =>
   .ret [qv5 y9]) <|
 .ret [qv5 y8.1]) <|
 .qc29 71 [qv1 y1,qv1 ((false),y3,())] fun y5 =>
 .bn y5.2.1 (.qc32 72 [] fun y6 =>
  .ret [qv5 y6]) <|
 .ret [qv5 y5.1]
theorem fS_l05Draw x0 x1:qft qa0 31 [.pointer (some x0),.int .i64 x1] (tS_l05Draw x0 x1) :=fitK (by kernel_rfl)
def aI_BookOk:An:=⟨[(4,[.s 12],[.o (.o (.i .i64))])],[],[]⟩
def tI_BookOk (x0:qy3):T :=
 .br (decide ((↑x0.1.n:Int) > (12:Int))) (
  .rF) <|
 .lp [.o (.o (.i .i64))] [.v (.int .i64 0)] fun y1 =>
 .br (decide (y1.1<(↑x0.1.n:Int))) (
  .el x0.1.1 (x0.1.n) y1.1 fun y2 =>
  .ql12 (y2.add (Int.toNat y1.1*(4:Nat))) fun y3 =>
  .rg <|
 .qc2 73 [.string y3.1] fun y4 =>
  .bF y4 <|
 .qc2 74 [qv2 y3.2] fun y5 =>
  .bF y5 <|
 .br (decide (y1.1 > (0:Int))) (
   .el x0.1.1 (x0.1.n) (IntKind.i64.wrap (y1.1-(1:Int))) fun y6 =>
   .ql33 ((y6.add ((IntKind.i64.wrap (y1.1-(1:Int))).toNat*(4:Nat))).add (0:Nat)) fun y7 =>
   .br (!Op.bytesLess y7.toList (ByteArray.toList y3.1)) (
    .rF) <|
 .nx 0 [.v (.int .i64 (IntKind.i64.wrap (y1.1+(1:Int))))]) <|
 .nx 0 [.v (.int .i64 (IntKind.i64.wrap (y1.1+(1:Int))))]) <|
 .rT
theorem fI_BookOk x0:qft aI_BookOk 32 [qv4 x0] (tI_BookOk x0) :=fitK (by kernel_rfl)
def aI_RestsOk:An:=⟨[(2,[.s 7],[.o (.o (.i .i64))])],[],[]⟩
def tI_RestsOk (x0:SlV):T :=
 .lp [.o (.o (.i .i64))] [.v (.int .i64 0)] fun y1 =>
 .br (decide (y1.1<(↑x0.n:Int))) (
  .el x0.1 (x0.n) y1.1 fun y2 =>
  .ql30 (y2.add (Int.toNat y1.1*(4:Nat))) fun y3 =>
  .rg <|
 .qc2 14 [.string y3.1] fun y4 =>
  .bF y4 <|
 .qc2 75 [qv5 y3.2] fun y5 =>
  .bF y5 <|
 .qc34 76 [qv5 y3.2] fun y6 =>
  .br (y6 == (0:Int)) (
   .rF) <|
 .br (decide (y1.1 > (0:Int))) (
   .el x0.1 (x0.n) (IntKind.i64.wrap (y1.1-(1:Int))) fun y7 =>
   .ql33 ((y7.add ((IntKind.i64.wrap (y1.1-(1:Int))).toNat*(4:Nat))).add (0:Nat)) fun y8 =>
   .br (!Op.bytesLess y8.toList (ByteArray.toList y3.1)) (
    .rF) <|
 .nx 0 [.v (.int .i64 (IntKind.i64.wrap (y1.1+(1:Int))))]) <|
 .nx 0 [.v (.int .i64 (IntKind.i64.wrap (y1.1+(1:Int))))]) <|
 .rT
theorem fI_RestsOk x0:qft aI_RestsOk 33 [Sc.val .l x0] (tI_RestsOk x0) :=fitK (by kernel_rfl)
def aI_RatesOk:An:=⟨[(5,[.s 21],[.o (.o (.i .i64))])],[],[]⟩
def tI_RatesOk (x0:qy7):T :=
 .qc6 14 [.string x0.1] fun y1 =>
 .bF y1 <|
 .br (decide ((↑x0.2.1.n:Int) > (12:Int))) (
  .rF) <|
 .mo (.mk 141) (.v (.o (.x))) fun y2 =>
 .lp [.o (.o (.i .i64))] [.v (.int .i64 0)] fun y3 =>
 .br (decide (y3.1<(↑x0.2.1.n:Int))) (
  .el x0.2.1.1 (x0.2.1.n) y3.1 fun y4 =>
  .ql11 (y4.add (Int.toNat y3.1*(5:Nat))) fun y5 =>
  .qc6 77 [qv6 y5] fun y6 =>
  .bF y6 <|
 .mo (.lk 141 (y2.1) (qv9 (y5.1,y5.2.1,())) false) (.v (.o (.b))) fun y7 =>
  .br y7 (
   .rF) <|
 .mo (.up 141 (y2.1) (qv9 (y5.1,y5.2.1,())) (.bool (true))) (.t []) fun _ =>
  .nx 0 [.v (.int .i64 (IntKind.i64.wrap (y3.1+(1:Int))))]) <|
 .rT
theorem fI_RatesOk x0:qft aI_RatesOk 34 [qv7 x0] (tI_RatesOk x0) :=fitK (by kernel_rfl)
def tI_ledgerCopy (x0:qy0):T :=
 .rg <|
 .qc35 78 [qv4 (x0.1,())] fun y1 =>
 .qc3 79 [Sc.val .l x0.2.1] fun y2 =>
 .qc17 80 [qv7 x0.2.2] fun y3 =>
 .ret [qv0 (y1.1,y2,y3.1,y3.2.1,())]
theorem fI_ledgerCopy x0:qft qa0 35 [qv0 x0] (tI_ledgerCopy x0) :=fitK (by kernel_rfl)
def tI_Answer (x0:qy0) (x1:ByteArray):T :=
 .qc36 81 [.string x1] fun y1 =>
 .bn y1.2.1 (.qc0 35 [qv0 x0] fun y2 =>
  .qc10 20 [.int .i64 1] fun y3 =>
  .ret [qv0 y2,.string y3]) <|
 .qc37 82 [qv0 x0,qv8 y1.1] fun y2 =>
 .rg <|
 .qc14 20 [.int .i64 y2.2.1] fun y3 =>
 .ret [qv0 y2.1,.string y3]
theorem fI_Answer x0 x1:qft qa0 36 [qv0 x0,.string x1] (tI_Answer x0 x1) :=fitK (by kernel_rfl)
def aI_currencyOf:An:=⟨[(2,[.s 7,.c 2 0,.c 2 1,.c 2 2,.c 2 3],[.o (.o (.i .i64)),.o (.o (.s)),.o (.o (.s)),.o (.o (.i .i64)),.o (.o (.i .i64))])],[],[]⟩
def tI_currencyOf (x0:ByteArray):T :=
 .ql38 ({ block:=(0:Nat),off:=(0:Nat):Addr }) fun y1 =>
 .lp [.o (.o (.i .i64)),.o (.o (.s)),.o (.o (.s)),.o (.o (.i .i64)),.o (.o (.i .i64))] [.v (.int .i64 0),.v (.string ({ data:={ toList:=[]:Array UInt8 }:ByteArray })),.v (.string ({ data:={ toList:=[]:Array UInt8 }:ByteArray })),.v (.int .i64 0),.v (.int .i64 0)] fun y2 =>
 .br (decide (y2.1<(20:Int))) (
  .rq ((0:Int)≤y2.1∧y2.1<(↑(20:Nat):Int)) <|
 .xs [.string y1.1,.string y1.2.1,.int .i64 y1.2.2.1,.int .i64 y1.2.2.2.1,.string y1.2.2.2.2.1,.string y1.2.2.2.2.2.1,.int .i64 y1.2.2.2.2.2.2.1,.int .i64 y1.2.2.2.2.2.2.2.1,.string y1.2.2.2.2.2.2.2.2.1,.string y1.2.2.2.2.2.2.2.2.2.1,.int .i64 y1.2.2.2.2.2.2.2.2.2.2.1,.int .i64 y1.2.2.2.2.2.2.2.2.2.2.2.1,.string y1.2.2.2.2.2.2.2.2.2.2.2.2.1,.string y1.2.2.2.2.2.2.2.2.2.2.2.2.2.1,.int .i64 y1.2.2.2.2.2.2.2.2.2.2.2.2.2.2.1,.int .i64 y1.2.2.2.2.2.2.2.2.2.2.2.2.2.2.2.1,.string y1.2.2.2.2.2.2.2.2.2.2.2.2.2.2.2.2.1,.string y1.2.2.2.2.2.2.2.2.2.2.2.2.2.2.2.2.2.1,.int .i64 y1.2.2.2.2.2.2.2.2.2.2.2.2.2.2.2.2.2.2.1,.int .i64 y1.2.2.2.2.2.2.2.2.2.2.2.2.2.2.2.2.2.2.2.1,.string y1.2.2.2.2.2.2.2.2.2.2.2.2.2.2.2.2.2.2.2.2.1,.string y1.2.2.2.2.2.2.2.2.2.2.2.2.2.2.2.2.2.2.2.2.2.1,.int .i64 y1.2.2.2.2.2.2.2.2.2.2.2.2.2.2.2.2.2.2.2.2.2.2.1,.int .i64 y1.2.2.2.2.2.2.2.2.2.2.2.2.2.2.2.2.2.2.2.2.2.2.2.1,.string y1.2.2.2.2.2.2.2.2.2.2.2.2.2.2.2.2.2.2.2.2.2.2.2.2.1,.string y1.2.2.2.2.2.2.2.2.2.2.2.2.2.2.2.2.2.2.2.2.2.2.2.2.2.1,.int .i64 y1.2.2.2.2.2.2.2.2.2.2.2.2.2.2.2.2.2.2.2.2.2.2.2.2.2.2.1,.int .i64 y1.2.2.2.2.2.2.2.2.2.2.2.2.2.2.2.2.2.2.2.2.2.2.2.2.2.2.2.1,.string y1.2.2.2.2.2.2.2.2.2.2.2.2.2.2.2.2.2.2.2.2.2.2.2.2.2.2.2.2.1,.string y1.2.2.2.2.2.2.2.2.2.2.2.2.2.2.2.2.2.2.2.2.2.2.2.2.2.2.2.2.2.1,.int .i64 y1.2.2.2.2.2.2.2.2.2.2.2.2.2.2.2.2.2.2.2.2.2.2.2.2.2.2.2.2.2.2.1,.int .i64 y1.2.2.2.2.2.2.2.2.2.2.2.2.2.2.2.2.2.2.2.2.2.2.2.2.2.2.2.2.2.2.2.1,.string y1.2.2.2.2.2.2.2.2.2.2.2.2.2.2.2.2.2.2.2.2.2.2.2.2.2.2.2.2.2.2.2.2.1,.string y1.2.2.2.2.2.2.2.2.2.2.2.2.2.2.2.2.2.2.2.2.2.2.2.2.2.2.2.2.2.2.2.2.2.1,.int .i64 y1.2.2.2.2.2.2.2.2.2.2.2.2.2.2.2.2.2.2.2.2.2.2.2.2.2.2.2.2.2.2.2.2.2.2.1,.int .i64 y1.2.2.2.2.2.2.2.2.2.2.2.2.2.2.2.2.2.2.2.2.2.2.2.2.2.2.2.2.2.2.2.2.2.2.2.1,.string y1.2.2.2.2.2.2.2.2.2.2.2.2.2.2.2.2.2.2.2.2.2.2.2.2.2.2.2.2.2.2.2.2.2.2.2.2.1,.string y1.2.2.2.2.2.2.2.2.2.2.2.2.2.2.2.2.2.2.2.2.2.2.2.2.2.2.2.2.2.2.2.2.2.2.2.2.2.1,.int .i64 y1.2.2.2.2.2.2.2.2.2.2.2.2.2.2.2.2.2.2.2.2.2.2.2.2.2.2.2.2.2.2.2.2.2.2.2.2.2.2.1,.int .i64 y1.2.2.2.2.2.2.2.2.2.2.2.2.2.2.2.2.2.2.2.2.2.2.2.2.2.2.2.2.2.2.2.2.2.2.2.2.2.2.2.1,.string y1.2.2.2.2.2.2.2.2.2.2.2.2.2.2.2.2.2.2.2.2.2.2.2.2.2.2.2.2.2.2.2.2.2.2.2.2.2.2.2.2.1,.string y1.2.2.2.2.2.2.2.2.2.2.2.2.2.2.2.2.2.2.2.2.2.2.2.2.2.2.2.2.2.2.2.2.2.2.2.2.2.2.2.2.2.1,.int .i64 y1.2.2.2.2.2.2.2.2.2.2.2.2.2.2.2.2.2.2.2.2.2.2.2.2.2.2.2.2.2.2.2.2.2.2.2.2.2.2.2.2.2.2.1,.int .i64 y1.2.2.2.2.2.2.2.2.2.2.2.2.2.2.2.2.2.2.2.2.2.2.2.2.2.2.2.2.2.2.2.2.2.2.2.2.2.2.2.2.2.2.2.1,.string y1.2.2.2.2.2.2.2.2.2.2.2.2.2.2.2.2.2.2.2.2.2.2.2.2.2.2.2.2.2.2.2.2.2.2.2.2.2.2.2.2.2.2.2.2.1,.string y1.2.2.2.2.2.2.2.2.2.2.2.2.2.2.2.2.2.2.2.2.2.2.2.2.2.2.2.2.2.2.2.2.2.2.2.2.2.2.2.2.2.2.2.2.2.1,.int .i64 y1.2.2.2.2.2.2.2.2.2.2.2.2.2.2.2.2.2.2.2.2.2.2.2.2.2.2.2.2.2.2.2.2.2.2.2.2.2.2.2.2.2.2.2.2.2.2.1,.int .i64 y1.2.2.2.2.2.2.2.2.2.2.2.2.2.2.2.2.2.2.2.2.2.2.2.2.2.2.2.2.2.2.2.2.2.2.2.2.2.2.2.2.2.2.2.2.2.2.2.1,.string y1.2.2.2.2.2.2.2.2.2.2.2.2.2.2.2.2.2.2.2.2.2.2.2.2.2.2.2.2.2.2.2.2.2.2.2.2.2.2.2.2.2.2.2.2.2.2.2.2.1,.string y1.2.2.2.2.2.2.2.2.2.2.2.2.2.2.2.2.2.2.2.2.2.2.2.2.2.2.2.2.2.2.2.2.2.2.2.2.2.2.2.2.2.2.2.2.2.2.2.2.2.1,.int .i64 y1.2.2.2.2.2.2.2.2.2.2.2.2.2.2.2.2.2.2.2.2.2.2.2.2.2.2.2.2.2.2.2.2.2.2.2.2.2.2.2.2.2.2.2.2.2.2.2.2.2.2.1,.int .i64 y1.2.2.2.2.2.2.2.2.2.2.2.2.2.2.2.2.2.2.2.2.2.2.2.2.2.2.2.2.2.2.2.2.2.2.2.2.2.2.2.2.2.2.2.2.2.2.2.2.2.2.2.1,.string y1.2.2.2.2.2.2.2.2.2.2.2.2.2.2.2.2.2.2.2.2.2.2.2.2.2.2.2.2.2.2.2.2.2.2.2.2.2.2.2.2.2.2.2.2.2.2.2.2.2.2.2.2.1,.string y1.2.2.2.2.2.2.2.2.2.2.2.2.2.2.2.2.2.2.2.2.2.2.2.2.2.2.2.2.2.2.2.2.2.2.2.2.2.2.2.2.2.2.2.2.2.2.2.2.2.2.2.2.2.1,.int .i64 y1.2.2.2.2.2.2.2.2.2.2.2.2.2.2.2.2.2.2.2.2.2.2.2.2.2.2.2.2.2.2.2.2.2.2.2.2.2.2.2.2.2.2.2.2.2.2.2.2.2.2.2.2.2.2.1,.int .i64 y1.2.2.2.2.2.2.2.2.2.2.2.2.2.2.2.2.2.2.2.2.2.2.2.2.2.2.2.2.2.2.2.2.2.2.2.2.2.2.2.2.2.2.2.2.2.2.2.2.2.2.2.2.2.2.2.1,.string y1.2.2.2.2.2.2.2.2.2.2.2.2.2.2.2.2.2.2.2.2.2.2.2.2.2.2.2.2.2.2.2.2.2.2.2.2.2.2.2.2.2.2.2.2.2.2.2.2.2.2.2.2.2.2.2.2.1,.string y1.2.2.2.2.2.2.2.2.2.2.2.2.2.2.2.2.2.2.2.2.2.2.2.2.2.2.2.2.2.2.2.2.2.2.2.2.2.2.2.2.2.2.2.2.2.2.2.2.2.2.2.2.2.2.2.2.2.1,.int .i64 y1.2.2.2.2.2.2.2.2.2.2.2.2.2.2.2.2.2.2.2.2.2.2.2.2.2.2.2.2.2.2.2.2.2.2.2.2.2.2.2.2.2.2.2.2.2.2.2.2.2.2.2.2.2.2.2.2.2.2.1,.int .i64 y1.2.2.2.2.2.2.2.2.2.2.2.2.2.2.2.2.2.2.2.2.2.2.2.2.2.2.2.2.2.2.2.2.2.2.2.2.2.2.2.2.2.2.2.2.2.2.2.2.2.2.2.2.2.2.2.2.2.2.2.1,.string y1.2.2.2.2.2.2.2.2.2.2.2.2.2.2.2.2.2.2.2.2.2.2.2.2.2.2.2.2.2.2.2.2.2.2.2.2.2.2.2.2.2.2.2.2.2.2.2.2.2.2.2.2.2.2.2.2.2.2.2.2.1,.string y1.2.2.2.2.2.2.2.2.2.2.2.2.2.2.2.2.2.2.2.2.2.2.2.2.2.2.2.2.2.2.2.2.2.2.2.2.2.2.2.2.2.2.2.2.2.2.2.2.2.2.2.2.2.2.2.2.2.2.2.2.2.1,.int .i64 y1.2.2.2.2.2.2.2.2.2.2.2.2.2.2.2.2.2.2.2.2.2.2.2.2.2.2.2.2.2.2.2.2.2.2.2.2.2.2.2.2.2.2.2.2.2.2.2.2.2.2.2.2.2.2.2.2.2.2.2.2.2.2.1,.int .i64 y1.2.2.2.2.2.2.2.2.2.2.2.2.2.2.2.2.2.2.2.2.2.2.2.2.2.2.2.2.2.2.2.2.2.2.2.2.2.2.2.2.2.2.2.2.2.2.2.2.2.2.2.2.2.2.2.2.2.2.2.2.2.2.2.1,.string y1.2.2.2.2.2.2.2.2.2.2.2.2.2.2.2.2.2.2.2.2.2.2.2.2.2.2.2.2.2.2.2.2.2.2.2.2.2.2.2.2.2.2.2.2.2.2.2.2.2.2.2.2.2.2.2.2.2.2.2.2.2.2.2.2.1,.string y1.2.2.2.2.2.2.2.2.2.2.2.2.2.2.2.2.2.2.2.2.2.2.2.2.2.2.2.2.2.2.2.2.2.2.2.2.2.2.2.2.2.2.2.2.2.2.2.2.2.2.2.2.2.2.2.2.2.2.2.2.2.2.2.2.2.1,.int .i64 y1.2.2.2.2.2.2.2.2.2.2.2.2.2.2.2.2.2.2.2.2.2.2.2.2.2.2.2.2.2.2.2.2.2.2.2.2.2.2.2.2.2.2.2.2.2.2.2.2.2.2.2.2.2.2.2.2.2.2.2.2.2.2.2.2.2.2.1,.int .i64 y1.2.2.2.2.2.2.2.2.2.2.2.2.2.2.2.2.2.2.2.2.2.2.2.2.2.2.2.2.2.2.2.2.2.2.2.2.2.2.2.2.2.2.2.2.2.2.2.2.2.2.2.2.2.2.2.2.2.2.2.2.2.2.2.2.2.2.2.1,.string y1.2.2.2.2.2.2.2.2.2.2.2.2.2.2.2.2.2.2.2.2.2.2.2.2.2.2.2.2.2.2.2.2.2.2.2.2.2.2.2.2.2.2.2.2.2.2.2.2.2.2.2.2.2.2.2.2.2.2.2.2.2.2.2.2.2.2.2.2.1,.string y1.2.2.2.2.2.2.2.2.2.2.2.2.2.2.2.2.2.2.2.2.2.2.2.2.2.2.2.2.2.2.2.2.2.2.2.2.2.2.2.2.2.2.2.2.2.2.2.2.2.2.2.2.2.2.2.2.2.2.2.2.2.2.2.2.2.2.2.2.2.1,.int .i64 y1.2.2.2.2.2.2.2.2.2.2.2.2.2.2.2.2.2.2.2.2.2.2.2.2.2.2.2.2.2.2.2.2.2.2.2.2.2.2.2.2.2.2.2.2.2.2.2.2.2.2.2.2.2.2.2.2.2.2.2.2.2.2.2.2.2.2.2.2.2.2.1,.int .i64 y1.2.2.2.2.2.2.2.2.2.2.2.2.2.2.2.2.2.2.2.2.2.2.2.2.2.2.2.2.2.2.2.2.2.2.2.2.2.2.2.2.2.2.2.2.2.2.2.2.2.2.2.2.2.2.2.2.2.2.2.2.2.2.2.2.2.2.2.2.2.2.2.1,.string y1.2.2.2.2.2.2.2.2.2.2.2.2.2.2.2.2.2.2.2.2.2.2.2.2.2.2.2.2.2.2.2.2.2.2.2.2.2.2.2.2.2.2.2.2.2.2.2.2.2.2.2.2.2.2.2.2.2.2.2.2.2.2.2.2.2.2.2.2.2.2.2.2.1,.string y1.2.2.2.2.2.2.2.2.2.2.2.2.2.2.2.2.2.2.2.2.2.2.2.2.2.2.2.2.2.2.2.2.2.2.2.2.2.2.2.2.2.2.2.2.2.2.2.2.2.2.2.2.2.2.2.2.2.2.2.2.2.2.2.2.2.2.2.2.2.2.2.2.2.1,.int .i64 y1.2.2.2.2.2.2.2.2.2.2.2.2.2.2.2.2.2.2.2.2.2.2.2.2.2.2.2.2.2.2.2.2.2.2.2.2.2.2.2.2.2.2.2.2.2.2.2.2.2.2.2.2.2.2.2.2.2.2.2.2.2.2.2.2.2.2.2.2.2.2.2.2.2.2.1,.int .i64 y1.2.2.2.2.2.2.2.2.2.2.2.2.2.2.2.2.2.2.2.2.2.2.2.2.2.2.2.2.2.2.2.2.2.2.2.2.2.2.2.2.2.2.2.2.2.2.2.2.2.2.2.2.2.2.2.2.2.2.2.2.2.2.2.2.2.2.2.2.2.2.2.2.2.2.2.1,.string y1.2.2.2.2.2.2.2.2.2.2.2.2.2.2.2.2.2.2.2.2.2.2.2.2.2.2.2.2.2.2.2.2.2.2.2.2.2.2.2.2.2.2.2.2.2.2.2.2.2.2.2.2.2.2.2.2.2.2.2.2.2.2.2.2.2.2.2.2.2.2.2.2.2.2.2.2.1,.string y1.2.2.2.2.2.2.2.2.2.2.2.2.2.2.2.2.2.2.2.2.2.2.2.2.2.2.2.2.2.2.2.2.2.2.2.2.2.2.2.2.2.2.2.2.2.2.2.2.2.2.2.2.2.2.2.2.2.2.2.2.2.2.2.2.2.2.2.2.2.2.2.2.2.2.2.2.2.1,.int .i64 y1.2.2.2.2.2.2.2.2.2.2.2.2.2.2.2.2.2.2.2.2.2.2.2.2.2.2.2.2.2.2.2.2.2.2.2.2.2.2.2.2.2.2.2.2.2.2.2.2.2.2.2.2.2.2.2.2.2.2.2.2.2.2.2.2.2.2.2.2.2.2.2.2.2.2.2.2.2.2.1,.int .i64 y1.2.2.2.2.2.2.2.2.2.2.2.2.2.2.2.2.2.2.2.2.2.2.2.2.2.2.2.2.2.2.2.2.2.2.2.2.2.2.2.2.2.2.2.2.2.2.2.2.2.2.2.2.2.2.2.2.2.2.2.2.2.2.2.2.2.2.2.2.2.2.2.2.2.2.2.2.2.2.2.1] (Int.toNat y2.1*(4:Nat)) (.g [.s,.s,.i .i64,.i .i64]) fun y3 =>
  .br (ByteArray.toList y3.1 == x0.toList) (
   .ret [qv12 y3,.bool (true)]) <|
 .nx 0 [.v (.int .i64 (IntKind.i64.wrap (y2.1+(1:Int)))),.v (.string y2.2.1),.v (.string y2.2.2.1),.v (.int .i64 y2.2.2.2.1),.v (.int .i64 y2.2.2.2.2.1)]) <|
 .ret [qv12 (({ data:={ toList:=[]:Array UInt8 }:ByteArray }),({ data:={ toList:=[]:Array UInt8 }:ByteArray }),(((0:Int)):Int),(((0:Int)):Int),()),.bool (false)]
theorem fI_currencyOf x0:qft aI_currencyOf 37 [.string x0] (tI_currencyOf x0) :=fitK (by kernel_rfl)
def aX_EqualFunc_Acct:An:=⟨[(4,[.s 17],[.o (.o (.i .i64))])],[],[]⟩
def tX_EqualFunc_Acct (x0:SlV) (x1:SlV) (x2:Nat):T :=
 .br ((↑x0.n:Int) != (↑x1.n:Int)) (
  .rF) <|
 .lp [.o (.o (.i .i64))] [.v (.int .i64 0)] fun y1 =>
 .br (decide (y1.1<(↑x0.n:Int))) (
  .el x0.1 (x0.n) y1.1 fun y2 =>
  .ql12 (y2.add (Int.toNat y1.1*(4:Nat))) fun y3 =>
  .el x1.1 (x1.n) y1.1 fun y4 =>
  .ql12 (y4.add (Int.toNat y1.1*(4:Nat))) fun y5 =>
  .call false x2 [qv11 y3,qv11 y5] (.v (.o (.b))) fun y6 =>
  .bF y6 <|
 .nx 0 [.v (.int .i64 (IntKind.i64.wrap (y1.1+(1:Int))))]) <|
 .rT
theorem fX_EqualFunc_Acct x0 x1 x2:qft aX_EqualFunc_Acct 38 [Sc.val .l x0,Sc.val .l x1,(Value.func (Fn.func x2) { toList:=[]:Array Value } { toList:=[]:Array Value })] (tX_EqualFunc_Acct x0 x1 x2) :=fitK (by kernel_rfl)
def tI_BookSame_1 (x0:qy9) (x1:qy9):T :=
 .br (ByteArray.toList x0.1 == ByteArray.toList x1.1) (
  .qc6 40 [qv2 x0.2,qv2 x1.2] fun y1 =>
  .ret [.bool y1]) <|
 .rF
theorem fI_BookSame_1 x0 x1:qft qa0 39 [qv11 x0,qv11 x1] (tI_BookSame_1 x0 x1) :=fitK (by kernel_rfl)
def tI_MoneySame (x0:qy2) (x1:qy2):T :=
 .br (ByteArray.toList x0.1 == ByteArray.toList x1.1) (
  .qc6 83 [qv1 x0.2,qv1 x1.2] fun y1 =>
  .ret [.bool y1]) <|
 .rF
theorem fI_MoneySame x0 x1:qft qa0 40 [qv2 x0,qv2 x1] (tI_MoneySame x0 x1) :=fitK (by kernel_rfl)
def aX_EqualFunc_Rest:An:=⟨[(4,[.s 17],[.o (.o (.i .i64))])],[],[]⟩
def tX_EqualFunc_Rest (x0:SlV) (x1:SlV) (x2:Nat):T :=
 .br ((↑x0.n:Int) != (↑x1.n:Int)) (
  .rF) <|
 .lp [.o (.o (.i .i64))] [.v (.int .i64 0)] fun y1 =>
 .br (decide (y1.1<(↑x0.n:Int))) (
  .el x0.1 (x0.n) y1.1 fun y2 =>
  .ql30 (y2.add (Int.toNat y1.1*(4:Nat))) fun y3 =>
  .el x1.1 (x1.n) y1.1 fun y4 =>
  .ql30 (y4.add (Int.toNat y1.1*(4:Nat))) fun y5 =>
  .call false x2 [qv13 y3,qv13 y5] (.v (.o (.b))) fun y6 =>
  .bF y6 <|
 .nx 0 [.v (.int .i64 (IntKind.i64.wrap (y1.1+(1:Int))))]) <|
 .rT
theorem fX_EqualFunc_Rest x0 x1 x2:qft aX_EqualFunc_Rest 41 [Sc.val .l x0,Sc.val .l x1,(Value.func (Fn.func x2) { toList:=[]:Array Value } { toList:=[]:Array Value })] (tX_EqualFunc_Rest x0 x1 x2) :=fitK (by kernel_rfl)
def tI_RestsSame_1 (x0:ByteArray × Bool × SlV × SlV × PUnit) (x1:ByteArray × Bool × SlV × SlV × PUnit):T :=
 .br (ByteArray.toList x0.1 == ByteArray.toList x1.1) (
  .qc6 43 [qv5 x0.2,qv5 x1.2] fun y1 =>
  .ret [.bool y1]) <|
 .rF
theorem fI_RestsSame_1 x0 x1:qft qa0 42 [qv13 x0,qv13 x1] (tI_RestsSame_1 x0 x1) :=fitK (by kernel_rfl)
def tI_ratSame (x0:qy4) (x1:qy4):T :=
 .qc6 83 [qv1 (x0.1,x0.2.1,()),qv1 (x1.1,x1.2.1,())] fun y1 =>
 .br y1 (
  .qc6 84 [Sc.val .l x0.2.2.1,Sc.val .l x1.2.2.1] fun y2 =>
  .ret [.bool y2]) <|
 .rF
theorem fI_ratSame x0 x1:qft qa0 43 [qv5 x0,qv5 x1] (tI_ratSame x0 x1) :=fitK (by kernel_rfl)
def tI_decSame (x0:qy6) (x1:qy6):T :=
 .qc6 83 [qv1 (x0.1,x0.2.1,()),qv1 (x1.1,x1.2.1,())] fun y1 =>
 .br y1 (
  .ret [.bool (x0.2.2.1 == x1.2.2.1)]) <|
 .rF
theorem fI_decSame x0 x1:qft qa0 44 [qv3 x0,qv3 x1] (tI_decSame x0 x1) :=fitK (by kernel_rfl)
def tI_nameAt (x0:Int) (x1:SlV):T :=
 .br (decide (x0<(0:Int))) (
  .ret [.string ({ data:={ toList:=[]:Array UInt8 }:ByteArray })]) <|
 .br (decide (x0≥(↑x1.n:Int))) (
  .ret [.string ({ data:={ toList:=[]:Array UInt8 }:ByteArray })]) <|
 .el x1.1 (x1.n) x0 fun y1 =>
 .ql9 (y1.add (x0.toNat*(1:Nat))) fun y2 =>
 .ret [.string y2]
theorem fI_nameAt x0 x1:qft qa0 45 [.int .i64 x0,Sc.val .l x1] (tI_nameAt x0 x1) :=fitK (by kernel_rfl)
def aI_CmdOk:An:=⟨[(3,[.s 4],[.o (.o (.i .i64))])],[],[(2000003,[.s 1])]⟩
def tI_CmdOk (x0:qy8):T :=
 .qc22 50 [.int .i64 x0.1] fun y1 =>
 .es [.int .i64 x0.1,.string x0.2.1,.string x0.2.2.1,.string x0.2.2.2.1,.string x0.2.2.2.2.1,.string x0.2.2.2.2.2.1,.bool x0.2.2.2.2.2.2.1,Sc.val .l x0.2.2.2.2.2.2.2.1,.int .i64 x0.2.2.2.2.2.2.2.2.1,Sc.val .l x0.2.2.2.2.2.2.2.2.2.1,Sc.val .l x0.2.2.2.2.2.2.2.2.2.2.1,.bool x0.2.2.2.2.2.2.2.2.2.2.2.1,Sc.val .l x0.2.2.2.2.2.2.2.2.2.2.2.2.1,.int .i64 x0.2.2.2.2.2.2.2.2.2.2.2.2.2.1,.string x0.2.2.2.2.2.2.2.2.2.2.2.2.2.2.1,.string x0.2.2.2.2.2.2.2.2.2.2.2.2.2.2.2.1,.bool x0.2.2.2.2.2.2.2.2.2.2.2.2.2.2.2.2.1,Sc.val .l x0.2.2.2.2.2.2.2.2.2.2.2.2.2.2.2.2.2.1,.int .i64 x0.2.2.2.2.2.2.2.2.2.2.2.2.2.2.2.2.2.2.1] 74 fun b2 =>
 .lp [.o (.o (.i .i64))] [.v (.int .i64 0)] fun y3 =>
 .br (decide (y3.1≤(8:Int))) (
  .qc6 86 [Sc.val .l y1,.int .i64 y3.1] fun y4 =>
  .br y4 (
   .qc6 87 [.pointer (some { block:=b2,off:=(0:Nat):Addr }),.int .i64 y3.1] fun y5 =>
   .bF y5 <|
 .nx 0 [.v (.int .i64 (IntKind.i64.wrap (y3.1+(1:Int))))]) <|
 .qc6 85 [.pointer (some { block:=b2,off:=(0:Nat):Addr }),.int .i64 y3.1] fun y5 =>
  .bF y5 <|
 .nx 0 [.v (.int .i64 (IntKind.i64.wrap (y3.1+(1:Int))))]) <|
 .ret [.bool (decide ((↑y1.n:Int) > (0:Int)))]
theorem fI_CmdOk x0:qft aI_CmdOk 48 [qv8 x0] (tI_CmdOk x0) :=fitK (by kernel_rfl)
def tI_OpName (x0:Int):T :=
 .fz ((10:Nat)) [.string ({ data:={ toList:=[]:Array UInt8 }:ByteArray }),.string ({ data:={ toList:=[(111:UInt8),(112:UInt8),(101:UInt8),(110:UInt8)]:Array UInt8 }:ByteArray }),.string ({ data:={ toList:=[(112:UInt8),(117:UInt8),(116:UInt8)]:Array UInt8 }:ByteArray }),.string ({ data:={ toList:=[(116:UInt8),(97:UInt8),(107:UInt8),(101:UInt8)]:Array UInt8 }:ByteArray }),.string ({ data:={ toList:=[(109:UInt8),(111:UInt8),(118:UInt8),(101:UInt8)]:Array UInt8 }:ByteArray }),.string ({ data:={ toList:=[(115:UInt8),(119:UInt8),(97:UInt8),(112:UInt8)]:Array UInt8 }:ByteArray }),.string ({ data:={ toList:=[(100:UInt8),(101:UInt8),(97:UInt8),(108:UInt8)]:Array UInt8 }:ByteArray }),.string ({ data:={ toList:=[(116:UInt8),(97:UInt8),(120:UInt8)]:Array UInt8 }:ByteArray }),.string ({ data:={ toList:=[(99:UInt8),(97:UInt8),(115:UInt8),(104:UInt8)]:Array UInt8 }:ByteArray }),.string ({ data:={ toList:=[(114:UInt8),(97:UInt8),(116:UInt8),(101:UInt8)]:Array UInt8 }:ByteArray })] 9 fun b1 c1 =>
 .qc10 45 [.int .i64 x0,.slice (some { block:=b1,off:=(0:Nat):Addr }) ((10:Nat)) (c1)] fun y2 =>
 .ret [.string y2]
theorem fI_OpName x0:qft qa0 49 [.int .i64 x0] (tI_OpName x0) :=fitK (by kernel_rfl)
def tI_fieldsOf (x0:Int):T :=
 .br (x0 == (1:Int)) (
  .fz ((2:Nat)) [.int .i64 0,.int .i64 3] 3 fun b1 c1 =>
  .ret [.slice (some { block:=b1,off:=(0:Nat):Addr }) ((2:Nat)) (c1)]) <|
 .br (x0 == (2:Int)) (
  .fz ((2:Nat)) [.int .i64 0,.int .i64 4] 3 fun b1 c1 =>
  .ret [.slice (some { block:=b1,off:=(0:Nat):Addr }) ((2:Nat)) (c1)]) <|
 .br (x0 == (3:Int)) (
  .fz ((2:Nat)) [.int .i64 0,.int .i64 4] 3 fun b1 c1 =>
  .ret [.slice (some { block:=b1,off:=(0:Nat):Addr }) ((2:Nat)) (c1)]) <|
 .br (x0 == (4:Int)) (
  .fz ((3:Nat)) [.int .i64 0,.int .i64 1,.int .i64 4] 3 fun b1 c1 =>
  .ret [.slice (some { block:=b1,off:=(0:Nat):Addr }) ((3:Nat)) (c1)]) <|
 .br (x0 == (5:Int)) (
  .fz ((4:Nat)) [.int .i64 0,.int .i64 1,.int .i64 4,.int .i64 7] 3 fun b1 c1 =>
  .ret [.slice (some { block:=b1,off:=(0:Nat):Addr }) ((4:Nat)) (c1)]) <|
 .br (x0 == (6:Int)) (
  .fz ((3:Nat)) [.int .i64 0,.int .i64 4,.int .i64 5] 3 fun b1 c1 =>
  .ret [.slice (some { block:=b1,off:=(0:Nat):Addr }) ((3:Nat)) (c1)]) <|
 .br (x0 == (7:Int)) (
  .fz ((6:Nat)) [.int .i64 0,.int .i64 1,.int .i64 2,.int .i64 4,.int .i64 6,.int .i64 7] 3 fun b1 c1 =>
  .ret [.slice (some { block:=b1,off:=(0:Nat):Addr }) ((6:Nat)) (c1)]) <|
 .br (x0 == (8:Int)) (
  .fz ((2:Nat)) [.int .i64 0,.int .i64 7] 3 fun b1 c1 =>
  .ret [.slice (some { block:=b1,off:=(0:Nat):Addr }) ((2:Nat)) (c1)]) <|
 .br (x0 == (9:Int)) (
  .fz ((1:Nat)) [.int .i64 8] 3 fun b1 c1 =>
  .ret [.slice (some { block:=b1,off:=(0:Nat):Addr }) ((1:Nat)) (c1)]) <|
 .ret [.slice none 0 0]
theorem fI_fieldsOf x0:qft qa0 50 [.int .i64 x0] (tI_fieldsOf x0) :=fitK (by kernel_rfl)
def tI_fieldText (x0:Addr) (x1:Int):T :=
 .br (x1 == (0:Int)) (
  .ql9 (x0.add (1:Nat)) fun y1 =>
  .ret [.string y1]) <|
 .br (x1 == (1:Int)) (
  .ql9 (x0.add (2:Nat)) fun y1 =>
  .ret [.string y1]) <|
 .br (x1 == (2:Int)) (
  .ql9 (x0.add (3:Nat)) fun y1 =>
  .ret [.string y1]) <|
 .br (x1 == (3:Int)) (
  .ql9 (x0.add (4:Nat)) fun y1 =>
  .ret [.string y1]) <|
 .br (x1 == (4:Int)) (
  .ql39 (x0.add (5:Nat)) fun y1 =>
  .qc10 88 [qv2 y1] fun y2 =>
  .ret [.string y2]) <|
 .br (x1 == (5:Int)) (
  .rf <|
 .ql40 (x0.add (9:Nat)) fun y1 =>
  .ql40 (x0.add (10:Nat)) fun y2 =>
  .qc10 89 [Sc.val .l y1,Sc.val .l y2] fun y3 =>
  .ret [.string y3]) <|
 .br (x1 == (6:Int)) (
  .ql41 (x0.add (11:Nat)) fun y1 =>
  .qc10 90 [qv3 y1] fun y2 =>
  .ret [.string y2]) <|
 .br (x1 == (7:Int)) (
  .ql23 (x0.add (8:Nat)) fun y1 =>
  .qc10 91 [.int .i64 y1] fun y2 =>
  .ret [.string y2]) <|
 .ql11 (x0.add (14:Nat)) fun y1 =>
 .qc10 92 [qv6 y1] fun y2 =>
 .ret [.string y2]
theorem fI_fieldText x0 x1:qft qa0 51 [.pointer (some x0),.int .i64 x1] (tI_fieldText x0 x1) :=fitK (by kernel_rfl)
def tI_Join (x0:SlV) (x1:ByteArray):T :=
 .qc10 93 [Sc.val .l x0,.string x1] fun y1 =>
 .ret [.string y1]
theorem fI_Join x0 x1:qft qa0 52 [Sc.val .l x0,.string x1] (tI_Join x0 x1) :=fitK (by kernel_rfl)
def tI_intNeg (x0:qy1):T :=
 .rg <|
 .qc3 95 [Sc.val .l x0.2.1] fun y1 =>
 .qc31 94 [.bool (!x0.1),Sc.val .l y1] fun y2 =>
 .ret [qv1 y2]
theorem fI_intNeg x0:qft qa0 53 [qv1 x0] (tI_intNeg x0) :=fitK (by kernel_rfl)
def tS_l01Once (x0:Addr) (x1:Int):T :=
 .qc4 28 [.pointer (some x0),.int .i64 x1] fun y1 =>
 .ret [.bool (y1 == (0:Int))]
theorem fS_l01Once x0 x1:qft qa0 54 [.pointer (some x0),.int .i64 x1] (tS_l01Once x0 x1) :=fitK (by kernel_rfl)
def tS_l01Str (x0:Addr) (x1:SlV):T :=
 .qc4 28 [.pointer (some x0),.int .i64 ((↑x1.n:Int))] fun y1 =>
 .el x1.1 (x1.n) y1 fun y2 =>
 .ql9 (y2.add (y1.toNat*(1:Nat))) fun y3 =>
 .ret [.string y3]
theorem fS_l01Str x0 x1:qft qa0 55 [.pointer (some x0),Sc.val .l x1] (tS_l01Str x0 x1) :=fitK (by kernel_rfl)
def aS_BookOpen:An:=⟨[(5,[.s 9],[.o (.o (.i .i64))])],[],[]⟩
def tS_BookOpen (x0:qy3) (x1:ByteArray) (x2:ByteArray):T :=
 .qc6 96 [qv4 x0] fun y1 =>
 .bn y1 (.ret [qv4 (nilS,()),.bool (false)]) <|
 .qc4 97 [qv4 x0,.string x1] fun y2 =>
 .br (decide (y2≥(0:Int))) (
  .ret [qv4 (nilS,()),.bool (false)]) <|
 .qc16 98 [qv4 x0] fun y3 =>
 .lp [.o (.o (.i .i64))] [.v (.int .i64 0)] fun y4 =>
 .br (decide (y4.1<(↑y3.1.n:Int))) (
  .el y3.1.1 (y3.1.n) y4.1 fun y5 =>
  .ql9 ((y5.add (Int.toNat y4.1*(4:Nat))).add (0:Nat)) fun y6 =>
  .br (Op.bytesLess y6.toList x1.toList) (
   .nx 0 [.v (.int .i64 (IntKind.i64.wrap (y4.1+(1:Int))))]) <|
 .rq ((0:Int)≤(0:Int)∧(0:Int)≤y4.1∧y4.1≤(↑y3.1.c:Int)∧(↑y3.1.c:Int)≤(↑y3.1.c:Int)) <|
 .rd ({ a:=if (↑y3.1.c:Int).toNat=Int.toNat (0:Int) then y3.1.1 else Option.map (fun x=>x.add (Int.toNat (0:Int)*Go.Proofs.Tryz.prog.types[(76:Nat)].size)) y3.1.1,n:=Int.toNat y4.1-Int.toNat (0:Int),c:=(↑y3.1.c:Int).toNat-Int.toNat (0:Int):SlV }) ((4:Nat)) fun y7 =>
  .rq (one y7=true∧((0:Nat)+(Int.toNat y4.1-Int.toNat (0:Int)))*(64:Nat)≤(140737488355328:Nat)∧(0:Nat)+(Int.toNat y4.1-Int.toNat (0:Int))≤(9223372036854775807:Nat)) <|
 .rq ([Value.string x1,Value.string x2,Value.bool false,Value.slice none (0:Nat) (0:Nat)].length=(1:Nat)*(4:Nat)) <|
 .rq (one [Value.string x1,Value.string x2,Value.bool false,Value.slice none (0:Nat) (0:Nat)]=true∧((0:Nat)+(Int.toNat y4.1-Int.toNat (0:Int))+(1:Nat))*(64:Nat)≤(140737488355328:Nat)∧(0:Nat)+(Int.toNat y4.1-Int.toNat (0:Int))+(1:Nat)≤(9223372036854775807:Nat)) <|
 .rq ((0:Int)≤y4.1∧y4.1≤(↑y3.1.n:Int)∧(↑y3.1.n:Int)≤(↑y3.1.c:Int)∧(↑y3.1.c:Int)≤(↑y3.1.c:Int)) <|
 .rd ({ a:=if (↑y3.1.c:Int).toNat=Int.toNat y4.1 then y3.1.1 else Option.map (fun x=>x.add (Int.toNat y4.1*Go.Proofs.Tryz.prog.types[(76:Nat)].size)) y3.1.1,n:=(↑y3.1.n:Int).toNat-Int.toNat y4.1,c:=(↑y3.1.c:Int).toNat-Int.toNat y4.1:SlV }) ((4:Nat)) fun y8 =>
  .rq (one y8=true∧((0:Nat)+(Int.toNat y4.1-Int.toNat (0:Int))+(1:Nat)+((↑y3.1.n:Int).toNat-Int.toNat y4.1))*(64:Nat)≤(140737488355328:Nat)∧(0:Nat)+(Int.toNat y4.1-Int.toNat (0:Int))+(1:Nat)+((↑y3.1.n:Int).toNat-Int.toNat y4.1)≤(9223372036854775807:Nat)) <|
 .fz ((0:Nat)+(Int.toNat y4.1-Int.toNat (0:Int))+(1:Nat)+((↑y3.1.n:Int).toNat-Int.toNat y4.1)) ([]++y7++[Value.string x1,Value.string x2,Value.bool false,Value.slice none (0:Nat) (0:Nat)]++y8) 76 fun b9 c9 =>
  .qc6 96 [qv4 ((⟨(some { block:=b9,off:=(0:Nat):Addr }),((0:Nat)+(Int.toNat y4.1-Int.toNat (0:Int))+(1:Nat)+((↑y3.1.n:Int).toNat-Int.toNat y4.1)),(c9)⟩:SlV),())] fun y10 =>
  .bn y10 (.ret [qv4 (nilS,()),.bool (false)]) <|
 .ret [qv4 ((⟨(some { block:=b9,off:=(0:Nat):Addr }),((0:Nat)+(Int.toNat y4.1-Int.toNat (0:Int))+(1:Nat)+((↑y3.1.n:Int).toNat-Int.toNat y4.1)),(c9)⟩:SlV),()),.bool (true)]) <|
 .rq ((0:Int)≤(0:Int)∧(0:Int)≤y4.1∧y4.1≤(↑y3.1.c:Int)∧(↑y3.1.c:Int)≤(↑y3.1.c:Int)) <|
 .rd ({ a:=if (↑y3.1.c:Int).toNat=Int.toNat (0:Int) then y3.1.1 else Option.map (fun x=>x.add (Int.toNat (0:Int)*Go.Proofs.Tryz.prog.types[(76:Nat)].size)) y3.1.1,n:=Int.toNat y4.1-Int.toNat (0:Int),c:=(↑y3.1.c:Int).toNat-Int.toNat (0:Int):SlV }) ((4:Nat)) fun y5 =>
 .rq (one y5=true∧((0:Nat)+(Int.toNat y4.1-Int.toNat (0:Int)))*(64:Nat)≤(140737488355328:Nat)∧(0:Nat)+(Int.toNat y4.1-Int.toNat (0:Int))≤(9223372036854775807:Nat)) <|
 .rq ([Value.string x1,Value.string x2,Value.bool false,Value.slice none (0:Nat) (0:Nat)].length=(1:Nat)*(4:Nat)) <|
 .rq (one [Value.string x1,Value.string x2,Value.bool false,Value.slice none (0:Nat) (0:Nat)]=true∧((0:Nat)+(Int.toNat y4.1-Int.toNat (0:Int))+(1:Nat))*(64:Nat)≤(140737488355328:Nat)∧(0:Nat)+(Int.toNat y4.1-Int.toNat (0:Int))+(1:Nat)≤(9223372036854775807:Nat)) <|
 .rq ((0:Int)≤y4.1∧y4.1≤(↑y3.1.n:Int)∧(↑y3.1.n:Int)≤(↑y3.1.c:Int)∧(↑y3.1.c:Int)≤(↑y3.1.c:Int)) <|
 .rd ({ a:=if (↑y3.1.c:Int).toNat=Int.toNat y4.1 then y3.1.1 else Option.map (fun x=>x.add (Int.toNat y4.1*Go.Proofs.Tryz.prog.types[(76:Nat)].size)) y3.1.1,n:=(↑y3.1.n:Int).toNat-Int.toNat y4.1,c:=(↑y3.1.c:Int).toNat-Int.toNat y4.1:SlV }) ((4:Nat)) fun y6 =>
 .rq (one y6=true∧((0:Nat)+(Int.toNat y4.1-Int.toNat (0:Int))+(1:Nat)+((↑y3.1.n:Int).toNat-Int.toNat y4.1))*(64:Nat)≤(140737488355328:Nat)∧(0:Nat)+(Int.toNat y4.1-Int.toNat (0:Int))+(1:Nat)+((↑y3.1.n:Int).toNat-Int.toNat y4.1)≤(9223372036854775807:Nat)) <|
 .fz ((0:Nat)+(Int.toNat y4.1-Int.toNat (0:Int))+(1:Nat)+((↑y3.1.n:Int).toNat-Int.toNat y4.1)) ([]++y5++[Value.string x1,Value.string x2,Value.bool false,Value.slice none (0:Nat) (0:Nat)]++y6) 76 fun b7 c7 =>
 .qc6 96 [qv4 ((⟨(some { block:=b7,off:=(0:Nat):Addr }),((0:Nat)+(Int.toNat y4.1-Int.toNat (0:Int))+(1:Nat)+((↑y3.1.n:Int).toNat-Int.toNat y4.1)),(c7)⟩:SlV),())] fun y8 =>
 .bn y8 (.ret [qv4 (nilS,()),.bool (false)]) <|
 .ret [qv4 ((⟨(some { block:=b7,off:=(0:Nat):Addr }),((0:Nat)+(Int.toNat y4.1-Int.toNat (0:Int))+(1:Nat)+((↑y3.1.n:Int).toNat-Int.toNat y4.1)),(c7)⟩:SlV),()),.bool (true)]
theorem fS_BookOpen x0 x1 x2:qft aS_BookOpen 56 [qv4 x0,.string x1,.string x2] (tS_BookOpen x0 x1 x2) :=fitK (by kernel_rfl)
def tS_BookPost (x0:qy3) (x1:ByteArray) (x2:qy2):T :=
 .qc4 97 [qv4 x0,.string x1] fun y1 =>
 .qc6 96 [qv4 x0] fun y2 =>
 .bn y2 (.ret [qv4 (nilS,()),.bool (false)]) <|
 .br (decide (y1<(0:Int))) (
  .ret [qv4 (nilS,()),.bool (false)]) <|
 .rg <|
 .el x0.1.1 (x0.1.n) y1 fun y3 =>
 .ql42 ((y3.add (y1.toNat*(4:Nat))).add (1:Nat)) fun y4 =>
 .qc43 99 [qv2 y4,qv2 x2] fun y5 =>
 .bn y5.2.1 (.ret [qv4 (nilS,()),.bool (false)]) <|
 .qc16 98 [qv4 x0] fun y6 =>
 .el y6.1.1 (y6.1.n) y1 fun y7 =>
 .st ((y7.add (y1.toNat*(4:Nat))).add (1:Nat)) [.string y5.1.1,.bool y5.1.2.1,Sc.val .l y5.1.2.2.1] <|
 .ret [qv4 y6,.bool (true)]
theorem fS_BookPost x0 x1 x2:qft qa0 57 [qv4 x0,.string x1,qv2 x2] (tS_BookPost x0 x1 x2) :=fitK (by kernel_rfl)
def tS_IntOf (x0:Int):T :=
 .br (x0 == (-9223372036854775808:Int)) (
  .fz ((3:Nat)) [.int .i64 854775808,.int .i64 223372036,.int .i64 9] 3 fun b1 c1 =>
  .qc31 100 [.bool (true),.slice (some { block:=b1,off:=(0:Nat):Addr }) ((3:Nat)) (c1)] fun y2 =>
  .ret [qv1 y2]) <|
 .br (decide (x0<(0:Int))) (
  .qc22 69 [.int .i64 (IntKind.i64.wrap ((0:Int)-x0))] fun y1 =>
  .qc31 100 [.bool (true),Sc.val .l y1] fun y2 =>
  .ret [qv1 y2]) <|
 .qc22 69 [.int .i64 x0] fun y1 =>
 .qc31 100 [.bool (false),Sc.val .l y1] fun y2 =>
 .ret [qv1 y2]
theorem fS_IntOf x0:qft qa0 58 [.int .i64 x0] (tS_IntOf x0) :=fitK (by kernel_rfl)
def aS_l10Draw:An:=⟨[(3,[.s 3,.s 4],[.o (.o (.s)),.o (.o (.s))])],[],[]⟩
def tS_l10Draw (x0:Addr):T :=
 .qc10 30 [.pointer (some x0)] fun y1 =>
 .qc10 30 [.pointer (some x0)] fun y2 =>
 .lp [.o (.o (.s)),.o (.o (.s))] [.v (.string y1),.v (.string y2)] fun y3 =>
 .br (ByteArray.toList y3.1 == ByteArray.toList y3.2.1) (
  .fz ((2:Nat)) [.string ({ data:={ toList:=[(67:UInt8),(72:UInt8),(70:UInt8)]:Array UInt8 }:ByteArray }),.string ({ data:={ toList:=[(69:UInt8),(85:UInt8),(82:UInt8)]:Array UInt8 }:ByteArray })] 9 fun b4 c4 =>
  .qc10 55 [.pointer (some x0),.slice (some { block:=b4,off:=(0:Nat):Addr }) ((2:Nat)) (c4)] fun y5 =>
  .nx 0 [.v (.string y5),.v (.string ({ data:={ toList:=[(85:UInt8),(83:UInt8),(68:UInt8)]:Array UInt8 }:ByteArray }))]) <|
 .qc4 28 [.pointer (some x0),.int .i64 3000] fun y4 =>
 .qc31 58 [.int .i64 (IntKind.i64.wrap ((1:Int)+y4))] fun y5 =>
 .rf <|
 .es [.int .i64 0,.int .i64 1,.int .i64 2,.int .i64 3,.int .i64 4] 3 fun b6 =>
 .cf 101 [.pointer (some x0),.slice (some { block:=b6,off:=(0:Nat):Addr }) ((5:Nat)) ((5:Nat))] (.v (.o (.i .i64))) fun y7 =>
 .ret [qv6 (y3.1,y3.2.1,y5.1,y5.2.1,((y7):Int),())]
theorem fS_l10Draw x0:qft aS_l10Draw 59 [.pointer (some x0)] (tS_l10Draw x0) :=fitK (by kernel_rfl)
def tS_RatePut (x0:qy7) (x1:qy5):T :=
 .qc6 102 [qv7 x0] fun y1 =>
 .bn y1 (.ret [qv7 (({ data:={ toList:=[]:Array UInt8 }:ByteArray }),nilS,()),.bool (false)]) <|
 .qc6 103 [qv6 x1] fun y2 =>
 .bn y2 (.ret [qv7 (({ data:={ toList:=[]:Array UInt8 }:ByteArray }),nilS,()),.bool (false)]) <|
 .qc17 104 [qv7 x0] fun y3 =>
 .qc4 105 [Sc.val .l x0.2.1,.string x1.1,.string x1.2.1] fun y4 =>
 .br (decide (y4≥(0:Int))) (
  .rg <|
 .qc44 106 [qv6 x1] fun y5 =>
  .el y3.2.1.1 (y3.2.1.n) y4 fun y6 =>
  .st (y6.add (y4.toNat*(5:Nat))) [.string y5.1,.string y5.2.1,.bool y5.2.2.1,Sc.val .l y5.2.2.2.1,.int .i64 y5.2.2.2.2.1] <|
 .qc6 102 [qv7 y3] fun y7 =>
  .bn y7 (.ret [qv7 (({ data:={ toList:=[]:Array UInt8 }:ByteArray }),nilS,()),.bool (false)]) <|
 .ret [qv7 y3,.bool (true)]) <|
 .rg <|
 .qc44 106 [qv6 x1] fun y5 =>
 .rq ([Value.string y5.1,Value.string y5.2.1,Value.bool y5.2.2.1,Value.slice y5.2.2.2.1.1 y5.2.2.2.1.n y5.2.2.2.1.c,Value.int IntKind.i64 y5.2.2.2.2.1].length=(1:Nat)*(5:Nat)) <|
 .rq (one [Value.string y5.1,Value.string y5.2.1,Value.bool y5.2.2.1,Value.slice y5.2.2.2.1.1 y5.2.2.2.1.n y5.2.2.2.1.c,Value.int IntKind.i64 y5.2.2.2.2.1]=true) <|
 .ap ({ a:=y3.2.1.1,n:=y3.2.1.n,c:=y3.2.1.c:SlV }) 5 72 [.string y5.1,.string y5.2.1,.bool y5.2.2.1,Sc.val .l y5.2.2.2.1,.int .i64 y5.2.2.2.2.1] ((1:Nat)) 57 fun y6 =>
 .qc6 102 [qv7 (y3.1,y6,())] fun y7 =>
 .bn y7 (.ret [qv7 (({ data:={ toList:=[]:Array UInt8 }:ByteArray }),nilS,()),.bool (false)]) <|
 .ret [qv7 (y3.1,y6,()),.bool (true)]
theorem fS_RatePut x0 x1:qft qa0 60 [qv7 x0,qv6 x1] (tS_RatePut x0 x1) :=fitK (by kernel_rfl)
def tS_l01Byte (x0:Addr):T :=
 .ql23 (x0.add (2:Nat)) fun y1 =>
 .st (x0.add (2:Nat)) [.int .i64 (IntKind.i64.wrap (IntKind.i64.wrap (y1*(6364136223846793005:Int))+(1442695040888963407:Int)))] <|
 .rg <|
 .ql45 (x0.add (2:Nat)) fun y2 =>
 .ql45 (x0.add (2:Nat)) fun y3 =>
 .rg <|
 .ql45 (x0.add (1:Nat)) fun y4 =>
 .ql40 (x0.add (0:Nat)) fun y5 =>
 .br (decide (y4<(↑y5.n:Int))) (
  .rg <|
 .ql40 (x0.add (0:Nat)) fun y6 =>
  .ql45 (x0.add (1:Nat)) fun y7 =>
  .el y6.1 (y6.n) y7 fun y8 =>
  .ql46 (y8.add (y7.toNat*(1:Nat))) fun y9 =>
  .ql23 (x0.add (1:Nat)) fun y10 =>
  .st (x0.add (1:Nat)) [.int .i64 (IntKind.i64.wrap (y10+(1:Int)))] <|
 .ret [.int .i64 (IntKind.i64.wrap (↑(BitVec.ofInt (64:Nat) (IntKind.i64.wrap (IntKind.i64.wrap (↑(BitVec.ofInt (64:Nat) (IntKind.i64.wrap (↑(BitVec.ofInt (64:Nat) (y2.fdiv ((2:Int) ^ min (Int.toNat (33:Int)) (64:Nat))) ^^^ BitVec.ofInt (64:Nat) (y3.fdiv ((2:Int) ^ min (Int.toNat (45:Int)) (64:Nat)))).toNat:Int)) &&& BitVec.ofInt (64:Nat) (255:Int)).toNat:Int)+IntKind.i64.wrap y9)) &&& BitVec.ofInt (64:Nat) (255:Int)).toNat:Int))]) <|
 .ret [.int .i64 (IntKind.i64.wrap (↑(BitVec.ofInt (64:Nat) (IntKind.i64.wrap (↑(BitVec.ofInt (64:Nat) (y2.fdiv ((2:Int) ^ min (Int.toNat (33:Int)) (64:Nat))) ^^^ BitVec.ofInt (64:Nat) (y3.fdiv ((2:Int) ^ min (Int.toNat (45:Int)) (64:Nat)))).toNat:Int)) &&& BitVec.ofInt (64:Nat) (255:Int)).toNat:Int))]
theorem fS_l01Byte x0:qft qa0 61 [.pointer (some x0)] (tS_l01Byte x0) :=fitK (by kernel_rfl)
def tS_RatAdd (x0:qy4) (x1:qy4):T :=
 .qc6 107 [qv5 x0] fun y1 =>
 .bn y1 (.ret [qv5 ((false),nilS,nilS,()),.bool (false)]) <|
 .qc6 107 [qv5 x1] fun y2 =>
 .bn y2 (.ret [qv5 ((false),nilS,nilS,()),.bool (false)]) <|
 .rg <|
 .qc3 108 [Sc.val .l x0.2.1,Sc.val .l x1.2.2.1] fun y3 =>
 .qc31 100 [.bool x0.1,Sc.val .l y3] fun y4 =>
 .rg <|
 .qc3 108 [Sc.val .l x1.2.1,Sc.val .l x0.2.2.1] fun y5 =>
 .qc31 100 [.bool x1.1,Sc.val .l y5] fun y6 =>
 .qc31 109 [qv1 y4,qv1 y6] fun y7 =>
 .rg <|
 .qc3 108 [Sc.val .l x0.2.2.1,Sc.val .l x1.2.2.1] fun y8 =>
 .qc29 110 [.bool y7.1,Sc.val .l y7.2.1,Sc.val .l y8] fun y9 =>
 .ret [qv5 y9.1,.bool y9.2.1]
theorem fS_RatAdd x0 x1:qft qa0 62 [qv5 x0,qv5 x1] (tS_RatAdd x0 x1) :=fitK (by kernel_rfl)
def aS_RestOf:An:=⟨[(2,[.s 9,.c 4 0,.c 4 1,.c 4 2],[.o (.o (.i .i64)),.o (.o (.b)),.o (.o (.l)),.o (.o (.l))])],[],[]⟩
def tS_RestOf (x0:SlV) (x1:ByteArray):T :=
 .lp [.o (.o (.i .i64)),.o (.o (.b)),.o (.o (.l)),.o (.o (.l))] [.v (.int .i64 0),.v (.bool (false)),.v (.slice none 0 0),.v (.slice none 0 0)] fun y1 =>
 .br (decide (y1.1<(↑x0.n:Int))) (
  .el x0.1 (x0.n) y1.1 fun y2 =>
  .ql30 (y2.add (Int.toNat y1.1*(4:Nat))) fun y3 =>
  .br (ByteArray.toList y3.1 == x1.toList) (
   .qc32 111 [qv5 y3.2] fun y4 =>
   .ret [qv5 y4]) <|
 .nx 0 [.v (.int .i64 (IntKind.i64.wrap (y1.1+(1:Int)))),.v (.bool y1.2.1),.v (Sc.val .l y1.2.2.1),.v (Sc.val .l y1.2.2.2.1)]) <|
 .qc32 72 [] fun y2 =>
 .ret [qv5 y2]
theorem fS_RestOf x0 x1:qft aS_RestOf 63 [Sc.val .l x0,.string x1] (tS_RestOf x0 x1) :=fitK (by kernel_rfl)
def aS_RestsOk:An:=⟨[(2,[.s 7],[.o (.o (.i .i64))])],[],[]⟩
def tS_RestsOk (x0:SlV):T :=
 .lp [.o (.o (.i .i64))] [.v (.int .i64 0)] fun y1 =>
 .br (decide (y1.1<(↑x0.n:Int))) (
  .el x0.1 (x0.n) y1.1 fun y2 =>
  .ql30 (y2.add (Int.toNat y1.1*(4:Nat))) fun y3 =>
  .rg <|
 .qc2 65 [.string y3.1] fun y4 =>
  .bF y4 <|
 .qc2 107 [qv5 y3.2] fun y5 =>
  .bF y5 <|
 .qc34 67 [qv5 y3.2] fun y6 =>
  .br (y6 == (0:Int)) (
   .rF) <|
 .br (decide (y1.1 > (0:Int))) (
   .el x0.1 (x0.n) (IntKind.i64.wrap (y1.1-(1:Int))) fun y7 =>
   .ql33 ((y7.add ((IntKind.i64.wrap (y1.1-(1:Int))).toNat*(4:Nat))).add (0:Nat)) fun y8 =>
   .br (!Op.bytesLess y8.toList (ByteArray.toList y3.1)) (
    .rF) <|
 .nx 0 [.v (.int .i64 (IntKind.i64.wrap (y1.1+(1:Int))))]) <|
 .nx 0 [.v (.int .i64 (IntKind.i64.wrap (y1.1+(1:Int))))]) <|
 .rT
theorem fS_RestsOk x0:qft aS_RestsOk 64 [Sc.val .l x0] (tS_RestsOk x0) :=fitK (by kernel_rfl)
def tS_CurKnown (x0:ByteArray):T :=
 .qc47 112 [.string x0] fun y1 =>
 .ret [.bool (!ByteArray.toList y1.1 == { data:={ toList:=[]:Array UInt8 }:ByteArray }.toList)]
theorem fS_CurKnown x0:qft qa0 65 [.string x0] (tS_CurKnown x0) :=fitK (by kernel_rfl)
def aS_l19Copy:An:=⟨[(3,[.s 3,.s 9],[.o (.o (.l)),.o (.o (.i .i64))])],[],[]⟩
def tS_l19Copy (x0:SlV):T :=
 .fz ((0:Nat)) [] 105 fun b1 c1 =>
 .lp [.o (.o (.l)),.o (.o (.i .i64))] [.v (.slice (some { block:=b1,off:=(0:Nat):Addr }) ((0:Nat)) (c1)),.v (.int .i64 0)] fun y2 =>
 .br (decide (y2.2.1<(↑x0.n:Int))) (
  .el x0.1 (x0.n) y2.2.1 fun y3 =>
  .ql30 (y3.add (Int.toNat y2.2.1*(4:Nat))) fun y4 =>
  .rg <|
 .qc28 111 [qv5 y4.2] fun y5 =>
  .rq ([Value.string y4.1,Value.bool y5.1,Value.slice y5.2.1.1 y5.2.1.n y5.2.1.c,Value.slice y5.2.2.1.1 y5.2.2.1.n y5.2.2.1.c].length=(1:Nat)*(4:Nat)) <|
 .rq (one [Value.string y4.1,Value.bool y5.1,Value.slice y5.2.1.1 y5.2.1.n y5.2.1.c,Value.slice y5.2.2.1.1 y5.2.2.1.n y5.2.2.1.c]=true) <|
 .ap ({ a:=y2.1.1,n:=y2.1.n,c:=y2.1.c:SlV }) 4 72 [.string y4.1,.bool y5.1,Sc.val .l y5.2.1,Sc.val .l y5.2.2.1] ((1:Nat)) 105 fun y6 =>
  .nx 0 [.v (Sc.val .l y6),.v (.int .i64 (IntKind.i64.wrap (y2.2.1+(1:Int))))]) <|
 .ret [Sc.val .l y2.1]
theorem fS_l19Copy x0:qft aS_l19Copy 66 [Sc.val .l x0] (tS_l19Copy x0) :=fitK (by kernel_rfl)
def tS_RatSign (x0:qy4):T :=
 .rg <|
 .qc28 72 [] fun y1 =>
 .qc4 113 [qv5 x0,qv5 y1] fun y2 =>
 .ret [.int .i64 y2]
theorem fS_RatSign x0:qft qa0 67 [qv5 x0] (tS_RatSign x0) :=fitK (by kernel_rfl)
def tS_l04Draw (x0:Addr) (x1:Int):T :=
 .qc6 54 [.pointer (some x0),.int .i64 3] fun y1 =>
 .br y1 (
  .qc4 28 [.pointer (some x0),.int .i64 2001] fun y2 =>
  .qc31 58 [.int .i64 (IntKind.i64.wrap (y2-(1000:Int)))] fun y3 =>
  .ret [qv1 y3]) <|
 .qc6 54 [.pointer (some x0),.int .i64 2] fun y2 =>
 .qc22 70 [.pointer (some x0),.int .i64 x1] fun y3 =>
 .qc31 100 [.bool y2,Sc.val .l y3] fun y4 =>
 .ret [qv1 y4]
theorem fS_l04Draw x0 x1:qft qa0 68 [.pointer (some x0),.int .i64 x1] (tS_l04Draw x0 x1) :=fitK (by kernel_rfl)
def aS_NatOf:An:=⟨[(2,[.s 0,.s 3],[.o (.o (.i .i64)),.a 3])],[],[]⟩
def tS_NatOf (x0:Int):T :=
 .lp [.o (.o (.i .i64)),.a 3] [.v (.int .i64 x0),.a 3 ((0:Nat)) []] fun y1 =>
 .br (decide (y1.1 > (0:Int))) (
  .rq ((1000000000:Int)≠(0:Int)) <|
 .rq ([Value.int IntKind.i64 (Int.tmod y1.1 (1000000000:Int))].length=(1:Nat)*(1:Nat)) <|
 .rq (one [Value.int IntKind.i64 (Int.tmod y1.1 (1000000000:Int))]=true∧(y1.2.1.1+(1:Nat))*(8:Nat)≤(140737488355328:Nat)∧y1.2.1.1+(1:Nat)≤(9223372036854775807:Nat)) <|
 .rq ((1000000000:Int)≠(0:Int)) <|
 .nx 0 [.v (.int .i64 (IntKind.i64.wrap (Int.tdiv y1.1 (1000000000:Int)))),.a 3 (y1.2.1.1+(1:Nat)) (y1.2.1.2++[Value.int IntKind.i64 (Int.tmod y1.1 (1000000000:Int))])]) <|
 .fz y1.2.1.1 y1.2.1.2 3 fun b2 c2 =>
 .ret [.slice (some { block:=b2,off:=(0:Nat):Addr }) y1.2.1.1 (c2)]
theorem fS_NatOf x0:qft aS_NatOf 69 [.int .i64 x0] (tS_NatOf x0) :=fitK (by kernel_rfl)
def aS_l02Nat:An:=⟨[(3,[.s 5,.s 6],[.a 3,.o (.o (.i .i64))])],[],[]⟩
def tS_l02Nat (x0:Addr) (x1:Int):T :=
 .qc4 28 [.pointer (some x0),.int .i64 (IntKind.i64.wrap (x1+(1:Int)))] fun y1 =>
 .lp [.a 3,.o (.o (.i .i64))] [.a 3 ((0:Nat)) [],.v (.int .i64 y1)] fun y2 =>
 .br (decide (y2.2.1 > (0:Int))) (
  .qc4 28 [.pointer (some x0),.int .i64 1000000000] fun y3 =>
  .qc4 28 [.pointer (some x0),.int .i64 1000000000] fun y4 =>
  .fz ((7:Nat)) [.int .i64 0,.int .i64 1,.int .i64 2,.int .i64 999999999,.int .i64 500000000,.int .i64 y3,.int .i64 y4] 3 fun b5 c5 =>
  .qc4 101 [.pointer (some x0),.slice (some { block:=b5,off:=(0:Nat):Addr }) ((7:Nat)) (c5)] fun y6 =>
  .rq ([Value.int IntKind.i64 y6].length=(1:Nat)*(1:Nat)) <|
 .rq (one [Value.int IntKind.i64 y6]=true∧(y2.1.1+(1:Nat))*(8:Nat)≤(140737488355328:Nat)∧y2.1.1+(1:Nat)≤(9223372036854775807:Nat)) <|
 .nx 0 [.a 3 (y2.1.1+(1:Nat)) (y2.1.2++[Value.int IntKind.i64 y6]),.v (.int .i64 (IntKind.i64.wrap (y2.2.1-(1:Int))))]) <|
 .fz y2.1.1 y2.1.2 3 fun b3 c3 =>
 .qc22 114 [.slice (some { block:=b3,off:=(0:Nat):Addr }) y2.1.1 (c3)] fun y4 =>
 .ret [Sc.val .l y4]
theorem fS_l02Nat x0 x1:qft aS_l02Nat 70 [.pointer (some x0),.int .i64 x1] (tS_l02Nat x0 x1) :=fitK (by kernel_rfl)
def tS_RatMake (x0:qy1) (x1:qy1):T :=
 .qc6 115 [qv1 x0] fun y1 =>
 .bn y1 (.ret [qv5 ((false),nilS,nilS,()),.bool (false)]) <|
 .qc6 115 [qv1 x1] fun y2 =>
 .bn y2 (.ret [qv5 ((false),nilS,nilS,()),.bool (false)]) <|
 .qc29 110 [.bool (!x0.1 == x1.1),Sc.val .l x0.2.1,Sc.val .l x1.2.1] fun y3 =>
 .ret [qv5 y3.1,.bool y3.2.1]
theorem fS_RatMake x0 x1:qft qa0 71 [qv1 x0,qv1 x1] (tS_RatMake x0 x1) :=fitK (by kernel_rfl)
def tS_RatZero :T :=
 .fz ((1:Nat)) [.int .i64 1] 3 fun b1 c1 =>
 .ret [qv5 ((false),nilS,(⟨(some { block:=b1,off:=(0:Nat):Addr }),((1:Nat)),(c1)⟩:SlV),())]
theorem fS_RatZero :qft qa0 72 [] (tS_RatZero ) :=fitK (by kernel_rfl)
def aI_IsWord:An:=⟨[(4,[.s 3],[.o (.o (.i .i64))])],[],[]⟩
def tI_IsWord (x0:ByteArray):T :=
 .br (decide ((↑x0.size:Int)<(1:Int))) (
  .rF) <|
 .br (decide ((↑x0.size:Int) > (12:Int))) (
  .rF) <|
 .rq ((0:Int)≤(0:Int)∧(0:Int)<(↑x0.size:Int)) <|
 .qc6 116 [.int .u8 (at0 x0 (Int.toNat (0:Int)))] fun y1 =>
 .bF y1 <|
 .lp [.o (.o (.i .i64))] [.v (.int .i64 1)] fun y2 =>
 .br (decide (y2.1<(↑x0.size:Int))) (
  .rq ((0:Int)≤y2.1∧y2.1<(↑x0.size:Int)) <|
 .qc6 116 [.int .u8 (at0 x0 (Int.toNat y2.1))] fun y3 =>
  .bn y3 (.rq ((0:Int)≤y2.1∧y2.1<(↑x0.size:Int)) <|
 .qc6 117 [.int .u8 (at0 x0 (Int.toNat y2.1))] fun y4 =>
   .bF y4 <|
 .nx 0 [.v (.int .i64 (IntKind.i64.wrap (y2.1+(1:Int))))]) <|
 .nx 0 [.v (.int .i64 (IntKind.i64.wrap (y2.1+(1:Int))))]) <|
 .rT
theorem fI_IsWord x0:qft aI_IsWord 73 [.string x0] (tI_IsWord x0) :=fitK (by kernel_rfl)
def tI_MoneyOk (x0:qy2):T :=
 .qc6 14 [.string x0.1] fun y1 =>
 .br y1 (
  .qc6 118 [qv1 x0.2] fun y2 =>
  .br y2 (
   .ret [.bool (decide ((↑x0.2.2.1.n:Int)≤(4:Int)))]) <|
 .rF) <|
 .rF
theorem fI_MoneyOk x0:qft qa0 74 [qv2 x0] (tI_MoneyOk x0) :=fitK (by kernel_rfl)
def tI_RatOk (x0:qy4):T :=
 .qc6 118 [qv1 (x0.1,x0.2.1,())] fun y1 =>
 .bF y1 <|
 .qc6 119 [Sc.val .l x0.2.2.1] fun y2 =>
 .bF y2 <|
 .br ((↑x0.2.2.1.n:Int) == (0:Int)) (
  .rF) <|
 .br (decide ((↑x0.2.2.1.n:Int) > (18:Int))) (
  .rF) <|
 .br (decide ((↑x0.2.1.n:Int) > (18:Int))) (
  .rF) <|
 .qc22 120 [Sc.val .l x0.2.1,Sc.val .l x0.2.2.1] fun y3 =>
 .br ((↑y3.n:Int) == (1:Int)) (
  .el y3.1 (y3.n) ((0:Int)) fun y4 =>
  .ql23 (y4.add (Int.toNat (0:Int)*(1:Nat))) fun y5 =>
  .ret [.bool (y5 == (1:Int))]) <|
 .rF
theorem fI_RatOk x0:qft qa0 75 [qv5 x0] (tI_RatOk x0) :=fitK (by kernel_rfl)
def tI_RatSign (x0:qy4):T :=
 .qc6 75 [qv5 x0] fun y1 =>
 .bn y1 (.ret [.int .i64 0]) <|
 .qc4 24 [qv1 (x0.1,x0.2.1,())] fun y2 =>
 .ret [.int .i64 y2]
theorem fI_RatSign x0:qft qa0 76 [qv5 x0] (tI_RatSign x0) :=fitK (by kernel_rfl)
def tI_RateOk (x0:qy5):T :=
 .qc6 14 [.string x0.1] fun y1 =>
 .br y1 (
  .qc6 14 [.string x0.2.1] fun y2 =>
  .br y2 (
   .br (!ByteArray.toList x0.1 == ByteArray.toList x0.2.1) (
    .qc6 121 [qv3 x0.2.2] fun y3 =>
    .br y3 (
     .qc4 24 [qv1 (x0.2.2.1,x0.2.2.2.1,())] fun y4 =>
     .br (decide (y4 > (0:Int))) (
      .ret [.bool (decide ((↑x0.2.2.2.1.n:Int)≤(2:Int)))]) <|
 .rF) <|
 .rF) <|
 .rF) <|
 .rF) <|
 .rF
theorem fI_RateOk x0:qft qa0 77 [qv6 x0] (tI_RateOk x0) :=fitK (by kernel_rfl)
def aI_bookCopy:An:=⟨[(3,[.s 15,.c 3 0],[.o (.o (.i .i64)),.o (.o (.l))])],[],[]⟩
def tI_bookCopy (x0:qy3):T :=
 .rq ((0:Int)≤(0:Int)∧(0:Int)≤IntKind.i64.wrap ((↑x0.1.n:Int)+(1:Int))∧(↑(64:Nat):Int)*IntKind.i64.wrap ((↑x0.1.n:Int)+(1:Int))≤(281474976710656:Int)∧IntKind.i64.wrap ((↑x0.1.n:Int)+(1:Int))≤(9223372036854775807:Int)) <|
 .fz (Int.toNat (0:Int)) [] 76 fun b1 c1 =>
 .lp [.o (.o (.i .i64)),.o (.o (.l))] [.v (.int .i64 0),.v (.slice (some { block:=b1,off:=(0:Nat):Addr }) (Int.toNat (0:Int)) (c1))] fun y2 =>
 .br (decide (y2.1<(↑x0.1.n:Int))) (
  .el x0.1.1 (x0.1.n) y2.1 fun y3 =>
  .ql12 (y3.add (Int.toNat y2.1*(4:Nat))) fun y4 =>
  .rg <|
 .qc13 122 [qv2 y4.2] fun y5 =>
  .rq ([Value.string y4.1,Value.string y5.1,Value.bool y5.2.1,Value.slice y5.2.2.1.1 y5.2.2.1.n y5.2.2.1.c].length=(1:Nat)*(4:Nat)) <|
 .rq (one [Value.string y4.1,Value.string y5.1,Value.bool y5.2.1,Value.slice y5.2.2.1.1 y5.2.2.1.n y5.2.2.1.c]=true) <|
 .ap ({ a:=y2.2.1.1,n:=y2.2.1.n,c:=y2.2.1.c:SlV }) 4 64 [.string y4.1,.string y5.1,.bool y5.2.1,Sc.val .l y5.2.2.1] ((1:Nat)) 76 fun y6 =>
  .nx 0 [.v (.int .i64 (IntKind.i64.wrap (y2.1+(1:Int)))),.v (Sc.val .l y6)]) <|
 .ret [qv4 y2.2]
theorem fI_bookCopy x0:qft aI_bookCopy 78 [qv4 x0] (tI_bookCopy x0) :=fitK (by kernel_rfl)
def aI_restsCopy:An:=⟨[(3,[.s 3,.s 9],[.o (.o (.l)),.o (.o (.i .i64))])],[],[]⟩
def tI_restsCopy (x0:SlV):T :=
 .fz ((0:Nat)) [] 105 fun b1 c1 =>
 .lp [.o (.o (.l)),.o (.o (.i .i64))] [.v (.slice (some { block:=b1,off:=(0:Nat):Addr }) ((0:Nat)) (c1)),.v (.int .i64 0)] fun y2 =>
 .br (decide (y2.2.1<(↑x0.n:Int))) (
  .el x0.1 (x0.n) y2.2.1 fun y3 =>
  .ql30 (y3.add (Int.toNat y2.2.1*(4:Nat))) fun y4 =>
  .rg <|
 .qc28 123 [qv5 y4.2] fun y5 =>
  .rq ([Value.string y4.1,Value.bool y5.1,Value.slice y5.2.1.1 y5.2.1.n y5.2.1.c,Value.slice y5.2.2.1.1 y5.2.2.1.n y5.2.2.1.c].length=(1:Nat)*(4:Nat)) <|
 .rq (one [Value.string y4.1,Value.bool y5.1,Value.slice y5.2.1.1 y5.2.1.n y5.2.1.c,Value.slice y5.2.2.1.1 y5.2.2.1.n y5.2.2.1.c]=true) <|
 .ap ({ a:=y2.1.1,n:=y2.1.n,c:=y2.1.c:SlV }) 4 72 [.string y4.1,.bool y5.1,Sc.val .l y5.2.1,Sc.val .l y5.2.2.1] ((1:Nat)) 105 fun y6 =>
  .nx 0 [.v (Sc.val .l y6),.v (.int .i64 (IntKind.i64.wrap (y2.2.1+(1:Int))))]) <|
 .ret [Sc.val .l y2.1]
theorem fI_restsCopy x0:qft aI_restsCopy 79 [Sc.val .l x0] (tI_restsCopy x0) :=fitK (by kernel_rfl)
def aI_ratesCopy:An:=⟨[(3,[.s 12,.c 3 0,.c 3 1],[.o (.o (.i .i64)),.o (.o (.s)),.o (.o (.l))])],[],[]⟩
def tI_ratesCopy (x0:qy7):T :=
 .lp [.o (.o (.i .i64)),.o (.o (.s)),.o (.o (.l))] [.v (.int .i64 0),.v (.string x0.1),.v (.slice none 0 0)] fun y1 =>
 .br (decide (y1.1<(↑x0.2.1.n:Int))) (
  .el x0.2.1.1 (x0.2.1.n) y1.1 fun y2 =>
  .ql11 (y2.add (Int.toNat y1.1*(5:Nat))) fun y3 =>
  .rg <|
 .qc44 124 [qv6 y3] fun y4 =>
  .rq ([Value.string y4.1,Value.string y4.2.1,Value.bool y4.2.2.1,Value.slice y4.2.2.2.1.1 y4.2.2.2.1.n y4.2.2.2.1.c,Value.int IntKind.i64 y4.2.2.2.2.1].length=(1:Nat)*(5:Nat)) <|
 .rq (one [Value.string y4.1,Value.string y4.2.1,Value.bool y4.2.2.1,Value.slice y4.2.2.2.1.1 y4.2.2.2.1.n y4.2.2.2.1.c,Value.int IntKind.i64 y4.2.2.2.2.1]=true) <|
 .ap ({ a:=y1.2.2.1.1,n:=y1.2.2.1.n,c:=y1.2.2.1.c:SlV }) 5 72 [.string y4.1,.string y4.2.1,.bool y4.2.2.1,Sc.val .l y4.2.2.2.1,.int .i64 y4.2.2.2.2.1] ((1:Nat)) 57 fun y5 =>
  .nx 0 [.v (.int .i64 (IntKind.i64.wrap (y1.1+(1:Int)))),.v (.string y1.2.1),.v (Sc.val .l y5)]) <|
 .ret [qv7 y1.2]
theorem fI_ratesCopy x0:qft aI_ratesCopy 80 [qv7 x0] (tI_ratesCopy x0) :=fitK (by kernel_rfl)
def aI_TextCmd:An:=⟨[(5,[.s 4,.s 22],[.o (.o (.l)),.o (.o (.i .i64))])],[],[(2000005,[.s 5])]⟩
def tI_TextCmd (x0:ByteArray):T :=
 .qc22 125 [.string x0] fun y1 =>
 .el y1.1 (y1.n) ((0:Int)) fun y2 =>
 .ql9 (y2.add (Int.toNat (0:Int)*(1:Nat))) fun y3 =>
 .qc4 126 [.string y3] fun y4 =>
 .rq ((0:Int)≤(1:Int)∧(1:Int)≤(↑y1.n:Int)∧(↑y1.n:Int)≤(↑y1.c:Int)∧(↑y1.c:Int)≤(↑y1.c:Int)) <|
 .qc22 50 [.int .i64 y4] fun y5 =>
 .es [.int .i64 y4,.string ({ data:={ toList:=[]:Array UInt8 }:ByteArray }),.string ({ data:={ toList:=[]:Array UInt8 }:ByteArray }),.string ({ data:={ toList:=[]:Array UInt8 }:ByteArray }),.string ({ data:={ toList:=[]:Array UInt8 }:ByteArray }),.string ({ data:={ toList:=[]:Array UInt8 }:ByteArray }),.bool (false),.slice none 0 0,.int .i64 0,.slice none 0 0,.slice none 0 0,.bool (false),.slice none 0 0,.int .i64 0,.string ({ data:={ toList:=[]:Array UInt8 }:ByteArray }),.string ({ data:={ toList:=[]:Array UInt8 }:ByteArray }),.bool (false),.slice none 0 0,.int .i64 0] 74 fun b6 =>
 .lp [.o (.o (.l)),.o (.o (.i .i64))] [.v (.slice (if (↑y1.c:Int).toNat=Int.toNat (1:Int) then y1.1 else Option.map (fun x=>x.add (Int.toNat (1:Int)*Go.Proofs.Tryz.prog.types[(9:Nat)].size)) y1.1) ((↑y1.n:Int).toNat-Int.toNat (1:Int)) ((↑y1.c:Int).toNat-Int.toNat (1:Int))),.v (.int .i64 0)] fun y7 =>
 .br (decide (y7.2.1<(↑y5.n:Int))) (
  .el y5.1 (y5.n) y7.2.1 fun y8 =>
  .ql23 (y8.add (Int.toNat y7.2.1*(1:Nat))) fun y9 =>
  .qc4 127 [.int .i64 y9] fun y10 =>
  .br (decide ((↑y7.1.n:Int)<y10)) (
   .ret [qv8 ((((0:Int)):Int),({ data:={ toList:=[]:Array UInt8 }:ByteArray }),({ data:={ toList:=[]:Array UInt8 }:ByteArray }),({ data:={ toList:=[]:Array UInt8 }:ByteArray }),({ data:={ toList:=[]:Array UInt8 }:ByteArray }),({ data:={ toList:=[]:Array UInt8 }:ByteArray }),(false),nilS,(((0:Int)):Int),nilS,nilS,(false),nilS,(((0:Int)):Int),({ data:={ toList:=[]:Array UInt8 }:ByteArray }),({ data:={ toList:=[]:Array UInt8 }:ByteArray }),(false),nilS,(((0:Int)):Int),()),.bool (false)]) <|
 .rq ((0:Int)≤(0:Int)∧(0:Int)≤y10∧y10≤(↑y7.1.c:Int)∧(↑y7.1.c:Int)≤(↑y7.1.c:Int)) <|
 .qc10 52 [.slice (if (↑y7.1.c:Int).toNat=Int.toNat (0:Int) then y7.1.1 else Option.map (fun x=>x.add (Int.toNat (0:Int)*Go.Proofs.Tryz.prog.types[(9:Nat)].size)) y7.1.1) (y10.toNat-Int.toNat (0:Int)) ((↑y7.1.c:Int).toNat-Int.toNat (0:Int)),.string ({ data:={ toList:=[(32:UInt8)]:Array UInt8 }:ByteArray })] fun y11 =>
  .qc6 128 [.pointer (some { block:=b6,off:=(0:Nat):Addr }),.string y11,.int .i64 y9] fun y12 =>
  .bn y12 (.ret [qv8 ((((0:Int)):Int),({ data:={ toList:=[]:Array UInt8 }:ByteArray }),({ data:={ toList:=[]:Array UInt8 }:ByteArray }),({ data:={ toList:=[]:Array UInt8 }:ByteArray }),({ data:={ toList:=[]:Array UInt8 }:ByteArray }),({ data:={ toList:=[]:Array UInt8 }:ByteArray }),(false),nilS,(((0:Int)):Int),nilS,nilS,(false),nilS,(((0:Int)):Int),({ data:={ toList:=[]:Array UInt8 }:ByteArray }),({ data:={ toList:=[]:Array UInt8 }:ByteArray }),(false),nilS,(((0:Int)):Int),()),.bool (false)]) <|
 .rq ((0:Int)≤y10∧y10≤(↑y7.1.n:Int)∧(↑y7.1.n:Int)≤(↑y7.1.c:Int)∧(↑y7.1.c:Int)≤(↑y7.1.c:Int)) <|
 .nx 0 [.v (.slice (if (↑y7.1.c:Int).toNat=y10.toNat then y7.1.1 else Option.map (fun x=>x.add (y10.toNat*Go.Proofs.Tryz.prog.types[(9:Nat)].size)) y7.1.1) ((↑y7.1.n:Int).toNat-y10.toNat) ((↑y7.1.c:Int).toNat-y10.toNat)),.v (.int .i64 (IntKind.i64.wrap (y7.2.1+(1:Int))))]) <|
 .br (decide ((↑y7.1.n:Int) > (0:Int))) (
  .ret [qv8 ((((0:Int)):Int),({ data:={ toList:=[]:Array UInt8 }:ByteArray }),({ data:={ toList:=[]:Array UInt8 }:ByteArray }),({ data:={ toList:=[]:Array UInt8 }:ByteArray }),({ data:={ toList:=[]:Array UInt8 }:ByteArray }),({ data:={ toList:=[]:Array UInt8 }:ByteArray }),(false),nilS,(((0:Int)):Int),nilS,nilS,(false),nilS,(((0:Int)):Int),({ data:={ toList:=[]:Array UInt8 }:ByteArray }),({ data:={ toList:=[]:Array UInt8 }:ByteArray }),(false),nilS,(((0:Int)):Int),()),.bool (false)]) <|
 .ql48 ({ block:=b6,off:=(0:Nat):Addr }) fun y8 =>
 .qc6 48 [qv8 y8] fun y9 =>
 .bn y9 (.ret [qv8 ((((0:Int)):Int),({ data:={ toList:=[]:Array UInt8 }:ByteArray }),({ data:={ toList:=[]:Array UInt8 }:ByteArray }),({ data:={ toList:=[]:Array UInt8 }:ByteArray }),({ data:={ toList:=[]:Array UInt8 }:ByteArray }),({ data:={ toList:=[]:Array UInt8 }:ByteArray }),(false),nilS,(((0:Int)):Int),nilS,nilS,(false),nilS,(((0:Int)):Int),({ data:={ toList:=[]:Array UInt8 }:ByteArray }),({ data:={ toList:=[]:Array UInt8 }:ByteArray }),(false),nilS,(((0:Int)):Int),()),.bool (false)]) <|
 .ql48 ({ block:=b6,off:=(0:Nat):Addr }) fun y10 =>
 .ret [qv8 y10,.bool (true)]
theorem fI_TextCmd x0:qft aI_TextCmd 81 [.string x0] (tI_TextCmd x0) :=fitK (by kernel_rfl)
def tI_Apply (x0:qy0) (x1:qy8):T :=
 .qc37 129 [qv0 x0,qv8 x1] fun y1 =>
 .br (y1.2.1 != (0:Int)) (
  .qc0 35 [qv0 x0] fun y2 =>
  .ret [qv0 y2,.int .i64 y1.2.1]) <|
 .ret [qv0 y1.1,.int .i64 0]
theorem fI_Apply x0 x1:qft qa0 82 [qv0 x0,qv8 x1] (tI_Apply x0 x1) :=fitK (by kernel_rfl)
def tI_intSame (x0:qy1) (x1:qy1):T :=
 .br (x0.1 == x1.1) (
  .qc6 84 [Sc.val .l x0.2.1,Sc.val .l x1.2.1] fun y1 =>
  .ret [.bool y1]) <|
 .rF
theorem fI_intSame x0 x1:qft qa0 83 [qv1 x0,qv1 x1] (tI_intSame x0 x1) :=fitK (by kernel_rfl)
def aI_sameInts:An:=⟨[(4,[.s 13],[.o (.o (.i .i64))])],[],[]⟩
def tI_sameInts (x0:SlV) (x1:SlV):T :=
 .br ((↑x0.n:Int) != (↑x1.n:Int)) (
  .rF) <|
 .lp [.o (.o (.i .i64))] [.v (.int .i64 0)] fun y1 =>
 .br (decide (y1.1<(↑x0.n:Int))) (
  .rg <|
 .el x0.1 (x0.n) y1.1 fun y2 =>
  .ql45 (y2.add (Int.toNat y1.1*(1:Nat))) fun y3 =>
  .el x1.1 (x1.n) y1.1 fun y4 =>
  .ql45 (y4.add (Int.toNat y1.1*(1:Nat))) fun y5 =>
  .br (y3 != y5) (
   .rF) <|
 .nx 0 [.v (.int .i64 (IntKind.i64.wrap (y1.1+(1:Int))))]) <|
 .rT
theorem fI_sameInts x0 x1:qft aI_sameInts 84 [Sc.val .l x0,Sc.val .l x1] (tI_sameInts x0 x1) :=fitK (by kernel_rfl)
def tI_fieldZero (x0:Addr) (x1:Int):T :=
 .br (x1 == (0:Int)) (
  .ql9 (x0.add (1:Nat)) fun y1 =>
  .ret [.bool (y1.toList == { data:={ toList:=[]:Array UInt8 }:ByteArray }.toList)]) <|
 .br (x1 == (1:Int)) (
  .ql9 (x0.add (2:Nat)) fun y1 =>
  .ret [.bool (y1.toList == { data:={ toList:=[]:Array UInt8 }:ByteArray }.toList)]) <|
 .br (x1 == (2:Int)) (
  .ql9 (x0.add (3:Nat)) fun y1 =>
  .ret [.bool (y1.toList == { data:={ toList:=[]:Array UInt8 }:ByteArray }.toList)]) <|
 .br (x1 == (3:Int)) (
  .ql9 (x0.add (4:Nat)) fun y1 =>
  .ret [.bool (y1.toList == { data:={ toList:=[]:Array UInt8 }:ByteArray }.toList)]) <|
 .br (x1 == (4:Int)) (
  .ql39 (x0.add (5:Nat)) fun y1 =>
  .qc6 40 [qv2 y1,qv2 (({ data:={ toList:=[]:Array UInt8 }:ByteArray }),(false),nilS,())] fun y2 =>
  .ret [.bool y2]) <|
 .br (x1 == (5:Int)) (
  .ql49 (x0.add (9:Nat)) fun y1 =>
  .br ((↑y1.n:Int) == (0:Int)) (
   .ql49 (x0.add (10:Nat)) fun y2 =>
   .ret [.bool ((↑y2.n:Int) == (0:Int))]) <|
 .rF) <|
 .br (x1 == (6:Int)) (
  .ql41 (x0.add (11:Nat)) fun y1 =>
  .qc6 130 [qv3 y1] fun y2 =>
  .ret [.bool y2]) <|
 .br (x1 == (7:Int)) (
  .ql23 (x0.add (8:Nat)) fun y1 =>
  .ret [.bool (y1 == (0:Int))]) <|
 .ql9 ((x0.add (14:Nat)).add (0:Nat)) fun y1 =>
 .br (y1.toList == { data:={ toList:=[]:Array UInt8 }:ByteArray }.toList) (
  .ql9 ((x0.add (14:Nat)).add (1:Nat)) fun y2 =>
  .br (y2.toList == { data:={ toList:=[]:Array UInt8 }:ByteArray }.toList) (
   .ql41 ((x0.add (14:Nat)).add (2:Nat)) fun y3 =>
   .qc6 130 [qv3 y3] fun y4 =>
   .ret [.bool y4]) <|
 .rF) <|
 .rF
theorem fI_fieldZero x0 x1:qft qa0 85 [.pointer (some x0),.int .i64 x1] (tI_fieldZero x0 x1) :=fitK (by kernel_rfl)
def tX_Contains_int (x0:SlV) (x1:Int):T :=
 .qc4 131 [Sc.val .l x0,.int .i64 x1] fun y1 =>
 .ret [.bool (decide (y1≥(0:Int)))]
theorem fX_Contains_int x0 x1:qft qa0 86 [Sc.val .l x0,.int .i64 x1] (tX_Contains_int x0 x1) :=fitK (by kernel_rfl)
def tI_fieldOk (x0:Addr) (x1:Int):T :=
 .br (x1 == (0:Int)) (
  .ql9 (x0.add (1:Nat)) fun y1 =>
  .qc6 73 [.string y1] fun y2 =>
  .ret [.bool y2]) <|
 .br (x1 == (1:Int)) (
  .ql9 (x0.add (2:Nat)) fun y1 =>
  .qc6 73 [.string y1] fun y2 =>
  .ret [.bool y2]) <|
 .br (x1 == (2:Int)) (
  .ql9 (x0.add (3:Nat)) fun y1 =>
  .qc6 73 [.string y1] fun y2 =>
  .ret [.bool y2]) <|
 .br (x1 == (3:Int)) (
  .ql9 (x0.add (4:Nat)) fun y1 =>
  .qc6 132 [.string y1] fun y2 =>
  .ret [.bool y2]) <|
 .br (x1 == (4:Int)) (
  .ql39 (x0.add (5:Nat)) fun y1 =>
  .qc6 133 [qv2 y1] fun y2 =>
  .ret [.bool y2]) <|
 .br (x1 == (5:Int)) (
  .rf <|
 .ql40 (x0.add (9:Nat)) fun y1 =>
  .ql40 (x0.add (10:Nat)) fun y2 =>
  .qc6 134 [Sc.val .l y1,Sc.val .l y2] fun y3 =>
  .ret [.bool y3]) <|
 .br (x1 == (6:Int)) (
  .rf <|
 .ql50 (x0.add (11:Nat)) fun y1 =>
  .qc2 135 [qv3 y1] fun y2 =>
  .br y2 (
   .ql50 (x0.add (11:Nat)) fun y3 =>
   .ql50 (x0.add (11:Nat)) fun y4 =>
   .qc51 136 [qv3 y4] fun y5 =>
   .qc6 44 [qv3 y3,qv3 y5] fun y6 =>
   .ret [.bool y6]) <|
 .rF) <|
 .br (x1 == (7:Int)) (
  .ql23 (x0.add (8:Nat)) fun y1 =>
  .qc6 137 [.int .i64 y1] fun y2 =>
  .ret [.bool y2]) <|
 .ql11 (x0.add (14:Nat)) fun y1 =>
 .qc6 77 [qv6 y1] fun y2 =>
 .ret [.bool y2]
theorem fI_fieldOk x0 x1:qft qa0 87 [.pointer (some x0),.int .i64 x1] (tI_fieldOk x0 x1) :=fitK (by kernel_rfl)
def tI_MoneyText (x0:qy2):T :=
 .qc6 74 [qv2 x0] fun y1 =>
 .bn y1 (.ret [.string ({ data:={ toList:=[]:Array UInt8 }:ByteArray })]) <|
 .rg <|
 .rq (ByteArray.size x0.1+{ data:={ toList:=[(32:UInt8)]:Array UInt8 }:ByteArray }.size≤(9223372036854775807:Nat)) <|
 .qc34 139 [.string x0.1] fun y2 =>
 .qc14 138 [qv3 (x0.2.1,x0.2.2.1,((y2):Int),())] fun y3 =>
 .rq ((x0.1++{ data:={ toList:=[(32:UInt8)]:Array UInt8 }:ByteArray }).size+y3.size≤(9223372036854775807:Nat)) <|
 .ret [.string (x0.1++{ data:={ toList:=[(32:UInt8)]:Array UInt8 }:ByteArray }++y3)]
theorem fI_MoneyText x0:qft qa0 88 [qv2 x0] (tI_MoneyText x0) :=fitK (by kernel_rfl)
def tI_RateText (x0:qy5):T :=
 .qc6 77 [qv6 x0] fun y1 =>
 .bn y1 (.ret [.string ({ data:={ toList:=[]:Array UInt8 }:ByteArray })]) <|
 .rg <|
 .rq (ByteArray.size x0.1+{ data:={ toList:=[(32:UInt8)]:Array UInt8 }:ByteArray }.size≤(9223372036854775807:Nat)) <|
 .rq ((x0.1++{ data:={ toList:=[(32:UInt8)]:Array UInt8 }:ByteArray }).size+ByteArray.size x0.2.1≤(9223372036854775807:Nat)) <|
 .rq ((x0.1++{ data:={ toList:=[(32:UInt8)]:Array UInt8 }:ByteArray }++x0.2.1).size+{ data:={ toList:=[(32:UInt8)]:Array UInt8 }:ByteArray }.size≤(9223372036854775807:Nat)) <|
 .qc14 138 [qv3 x0.2.2] fun y2 =>
 .rq ((x0.1++{ data:={ toList:=[(32:UInt8)]:Array UInt8 }:ByteArray }++x0.2.1++{ data:={ toList:=[(32:UInt8)]:Array UInt8 }:ByteArray }).size+y2.size≤(9223372036854775807:Nat)) <|
 .ret [.string (x0.1++{ data:={ toList:=[(32:UInt8)]:Array UInt8 }:ByteArray }++x0.2.1++{ data:={ toList:=[(32:UInt8)]:Array UInt8 }:ByteArray }++y2)]
theorem fI_RateText x0:qft qa0 92 [qv6 x0] (tI_RateText x0) :=fitK (by kernel_rfl)
def tI_signed (x0:Bool) (x1:SlV):T :=
 .br x0 (
  .ret [qv1 ((decide ((↑x1.n:Int) > (0:Int))),x1,())]) <|
 .ret [qv1 ((false),x1,())]
theorem fI_signed x0 x1:qft qa0 94 [.bool x0,Sc.val .l x1] (tI_signed x0 x1) :=fitK (by kernel_rfl)
def tI_natCopy (x0:SlV):T :=
 .rd ({ a:=x0.1,n:=x0.n,c:=x0.c:SlV }) ((1:Nat)) fun y1 =>
 .rq (one y1=true∧((0:Nat)+x0.n)*(8:Nat)≤(140737488355328:Nat)∧(0:Nat)+x0.n≤(9223372036854775807:Nat)) <|
 .fz ((0:Nat)+x0.n) ([]++y1) 3 fun b2 c2 =>
 .ret [.slice (some { block:=b2,off:=(0:Nat):Addr }) ((0:Nat)+x0.n) (c2)]
theorem fI_natCopy x0:qft qa0 95 [Sc.val .l x0] (tI_natCopy x0) :=fitK (by kernel_rfl)
def aS_BookOk:An:=⟨[(2,[.s 8],[.o (.o (.i .i64))])],[],[]⟩
def tS_BookOk (x0:qy3):T :=
 .lp [.o (.o (.i .i64))] [.v (.int .i64 0)] fun y1 =>
 .br (decide (y1.1<(↑x0.1.n:Int))) (
  .el x0.1.1 (x0.1.n) y1.1 fun y2 =>
  .ql12 (y2.add (Int.toNat y1.1*(4:Nat))) fun y3 =>
  .rg <|
 .qc2 147 [.string y3.1] fun y4 =>
  .bF y4 <|
 .qc2 148 [qv2 y3.2] fun y5 =>
  .bF y5 <|
 .br (decide (y1.1 > (0:Int))) (
   .el x0.1.1 (x0.1.n) (IntKind.i64.wrap (y1.1-(1:Int))) fun y6 =>
   .ql33 ((y6.add ((IntKind.i64.wrap (y1.1-(1:Int))).toNat*(4:Nat))).add (0:Nat)) fun y7 =>
   .br (!Op.bytesLess y7.toList (ByteArray.toList y3.1)) (
    .rF) <|
 .nx 0 [.v (.int .i64 (IntKind.i64.wrap (y1.1+(1:Int))))]) <|
 .nx 0 [.v (.int .i64 (IntKind.i64.wrap (y1.1+(1:Int))))]) <|
 .ret [.bool (decide ((↑x0.1.n:Int)≤(12:Int)))]
theorem fS_BookOk x0:qft aS_BookOk 96 [qv4 x0] (tS_BookOk x0) :=fitK (by kernel_rfl)
def aS_AcctAt:An:=⟨[(2,[.s 10],[.o (.o (.i .i64))])],[],[]⟩
def tS_AcctAt (x0:qy3) (x1:ByteArray):T :=
 .lp [.o (.o (.i .i64))] [.v (.int .i64 0)] fun y1 =>
 .br (decide (y1.1<(↑x0.1.n:Int))) (
  .el x0.1.1 (x0.1.n) y1.1 fun y2 =>
  .ql12 (y2.add (Int.toNat y1.1*(4:Nat))) fun y3 =>
  .br (ByteArray.toList y3.1 == x1.toList) (
   .ret [.int .i64 y1.1]) <|
 .nx 0 [.v (.int .i64 (IntKind.i64.wrap (y1.1+(1:Int))))]) <|
 .rM
theorem fS_AcctAt x0 x1:qft aS_AcctAt 97 [qv4 x0,.string x1] (tS_AcctAt x0 x1) :=fitK (by kernel_rfl)
def aS_l17Copy:An:=⟨[(3,[.s 10,.c 3 0],[.o (.o (.i .i64)),.o (.o (.l))])],[],[]⟩
def tS_l17Copy (x0:qy3):T :=
 .lp [.o (.o (.i .i64)),.o (.o (.l))] [.v (.int .i64 0),.v (.slice none 0 0)] fun y1 =>
 .br (decide (y1.1<(↑x0.1.n:Int))) (
  .el x0.1.1 (x0.1.n) y1.1 fun y2 =>
  .ql12 (y2.add (Int.toNat y1.1*(4:Nat))) fun y3 =>
  .rg <|
 .qc13 149 [qv2 y3.2] fun y4 =>
  .rq ([Value.string y3.1,Value.string y4.1,Value.bool y4.2.1,Value.slice y4.2.2.1.1 y4.2.2.1.n y4.2.2.1.c].length=(1:Nat)*(4:Nat)) <|
 .rq (one [Value.string y3.1,Value.string y4.1,Value.bool y4.2.1,Value.slice y4.2.2.1.1 y4.2.2.1.n y4.2.2.1.c]=true) <|
 .ap ({ a:=y1.2.1.1,n:=y1.2.1.n,c:=y1.2.1.c:SlV }) 4 64 [.string y3.1,.string y4.1,.bool y4.2.1,Sc.val .l y4.2.2.1] ((1:Nat)) 76 fun y5 =>
  .nx 0 [.v (.int .i64 (IntKind.i64.wrap (y1.1+(1:Int)))),.v (Sc.val .l y5)]) <|
 .ret [qv4 y1.2]
theorem fS_l17Copy x0:qft aS_l17Copy 98 [qv4 x0] (tS_l17Copy x0) :=fitK (by kernel_rfl)
def tS_MoneyAdd (x0:qy2) (x1:qy2):T :=
 .qc6 150 [qv2 x0,qv2 x1] fun y1 =>
 .bn y1 (.ret [qv2 (({ data:={ toList:=[]:Array UInt8 }:ByteArray }),(false),nilS,()),.bool (false)]) <|
 .rg <|
 .qc24 152 [qv1 x0.2,qv1 x1.2] fun y2 =>
 .qc43 151 [.string x0.1,qv1 y2] fun y3 =>
 .ret [qv2 y3.1,.bool y3.2.1]
theorem fS_MoneyAdd x0 x1:qft qa0 99 [qv2 x0,qv2 x1] (tS_MoneyAdd x0 x1) :=fitK (by kernel_rfl)
def tS_l04Make (x0:Bool) (x1:SlV):T :=
 .qc22 153 [Sc.val .l x1] fun y1 =>
 .br x0 (
  .rd ({ a:=y1.1,n:=y1.n,c:=y1.c:SlV }) ((1:Nat)) fun y2 =>
  .rq (one y2=true∧((0:Nat)+y1.n)*(8:Nat)≤(140737488355328:Nat)∧(0:Nat)+y1.n≤(9223372036854775807:Nat)) <|
 .fz ((0:Nat)+y1.n) ([]++y2) 3 fun b3 c3 =>
  .ret [qv1 ((decide ((↑y1.n:Int) > (0:Int))),(⟨(some { block:=b3,off:=(0:Nat):Addr }),((0:Nat)+y1.n),(c3)⟩:SlV),())]) <|
 .rd ({ a:=y1.1,n:=y1.n,c:=y1.c:SlV }) ((1:Nat)) fun y2 =>
 .rq (one y2=true∧((0:Nat)+y1.n)*(8:Nat)≤(140737488355328:Nat)∧(0:Nat)+y1.n≤(9223372036854775807:Nat)) <|
 .fz ((0:Nat)+y1.n) ([]++y2) 3 fun b3 c3 =>
 .ret [qv1 ((false),(⟨(some { block:=b3,off:=(0:Nat):Addr }),((0:Nat)+y1.n),(c3)⟩:SlV),())]
theorem fS_l04Make x0 x1:qft qa0 100 [.bool x0,Sc.val .l x1] (tS_l04Make x0 x1) :=fitK (by kernel_rfl)
def tS_l01Pick (x0:Addr) (x1:SlV):T :=
 .qc4 28 [.pointer (some x0),.int .i64 ((↑x1.n:Int))] fun y1 =>
 .el x1.1 (x1.n) y1 fun y2 =>
 .ql23 (y2.add (y1.toNat*(1:Nat))) fun y3 =>
 .ret [.int .i64 y3]
theorem fS_l01Pick x0 x1:qft qa0 101 [.pointer (some x0),Sc.val .l x1] (tS_l01Pick x0 x1) :=fitK (by kernel_rfl)
def aS_RatesOk:An:=⟨[(4,[.s 18],[.o (.o (.i .i64))])],[],[]⟩
def tS_RatesOk (x0:qy7):T :=
 .qc6 65 [.string x0.1] fun y1 =>
 .bF y1 <|
 .br (decide ((↑x0.2.1.n:Int) > (12:Int))) (
  .rF) <|
 .lp [.o (.o (.i .i64))] [.v (.int .i64 0)] fun y2 =>
 .br (decide (y2.1<(↑x0.2.1.n:Int))) (
  .el x0.2.1.1 (x0.2.1.n) y2.1 fun y3 =>
  .ql11 (y3.add (Int.toNat y2.1*(5:Nat))) fun y4 =>
  .qc6 103 [qv6 y4] fun y5 =>
  .bF y5 <|
 .qc4 105 [Sc.val .l x0.2.1,.string y4.1,.string y4.2.1] fun y6 =>
  .br (y6 != y2.1) (
   .rF) <|
 .nx 0 [.v (.int .i64 (IntKind.i64.wrap (y2.1+(1:Int))))]) <|
 .rT
theorem fS_RatesOk x0:qft aS_RatesOk 102 [qv7 x0] (tS_RatesOk x0) :=fitK (by kernel_rfl)
def tS_RateOk (x0:qy5):T :=
 .qc6 65 [.string x0.1] fun y1 =>
 .br y1 (
  .qc6 65 [.string x0.2.1] fun y2 =>
  .br y2 (
   .br (!ByteArray.toList x0.1 == ByteArray.toList x0.2.1) (
    .qc6 154 [qv3 x0.2.2] fun y3 =>
    .br y3 (
     .qc4 155 [qv1 (x0.2.2.1,x0.2.2.2.1,())] fun y4 =>
     .br (decide (y4 > (0:Int))) (
      .ret [.bool (decide ((↑x0.2.2.2.1.n:Int)≤(2:Int)))]) <|
 .rF) <|
 .rF) <|
 .rF) <|
 .rF) <|
 .rF
theorem fS_RateOk x0:qft qa0 103 [qv6 x0] (tS_RateOk x0) :=fitK (by kernel_rfl)
def aS_l10Copy:An:=⟨[(3,[.s 12,.c 3 0,.c 3 1],[.o (.o (.i .i64)),.o (.o (.s)),.o (.o (.l))])],[],[]⟩
def tS_l10Copy (x0:qy7):T :=
 .lp [.o (.o (.i .i64)),.o (.o (.s)),.o (.o (.l))] [.v (.int .i64 0),.v (.string x0.1),.v (.slice none 0 0)] fun y1 =>
 .br (decide (y1.1<(↑x0.2.1.n:Int))) (
  .el x0.2.1.1 (x0.2.1.n) y1.1 fun y2 =>
  .ql11 (y2.add (Int.toNat y1.1*(5:Nat))) fun y3 =>
  .rg <|
 .qc44 106 [qv6 y3] fun y4 =>
  .rq ([Value.string y4.1,Value.string y4.2.1,Value.bool y4.2.2.1,Value.slice y4.2.2.2.1.1 y4.2.2.2.1.n y4.2.2.2.1.c,Value.int IntKind.i64 y4.2.2.2.2.1].length=(1:Nat)*(5:Nat)) <|
 .rq (one [Value.string y4.1,Value.string y4.2.1,Value.bool y4.2.2.1,Value.slice y4.2.2.2.1.1 y4.2.2.2.1.n y4.2.2.2.1.c,Value.int IntKind.i64 y4.2.2.2.2.1]=true) <|
 .ap ({ a:=y1.2.2.1.1,n:=y1.2.2.1.n,c:=y1.2.2.1.c:SlV }) 5 72 [.string y4.1,.string y4.2.1,.bool y4.2.2.1,Sc.val .l y4.2.2.2.1,.int .i64 y4.2.2.2.2.1] ((1:Nat)) 57 fun y5 =>
  .nx 0 [.v (.int .i64 (IntKind.i64.wrap (y1.1+(1:Int)))),.v (.string y1.2.1),.v (Sc.val .l y5)]) <|
 .ret [qv7 y1.2]
theorem fS_l10Copy x0:qft aS_l10Copy 104 [qv7 x0] (tS_l10Copy x0) :=fitK (by kernel_rfl)
def aS_l10At:An:=⟨[(2,[.s 11],[.o (.o (.i .i64))])],[],[]⟩
def tS_l10At (x0:SlV) (x1:ByteArray) (x2:ByteArray):T :=
 .lp [.o (.o (.i .i64))] [.v (.int .i64 0)] fun y1 =>
 .br (decide (y1.1<(↑x0.n:Int))) (
  .el x0.1 (x0.n) y1.1 fun y2 =>
  .ql11 (y2.add (Int.toNat y1.1*(5:Nat))) fun y3 =>
  .br (ByteArray.toList y3.1 == x1.toList) (
   .br (ByteArray.toList y3.2.1 == x2.toList) (
    .ret [.int .i64 y1.1]) <|
 .nx 0 [.v (.int .i64 (IntKind.i64.wrap (y1.1+(1:Int))))]) <|
 .nx 0 [.v (.int .i64 (IntKind.i64.wrap (y1.1+(1:Int))))]) <|
 .rM
theorem fS_l10At x0 x1 x2:qft aS_l10At 105 [Sc.val .l x0,.string x1,.string x2] (tS_l10At x0 x1 x2) :=fitK (by kernel_rfl)
def tS_l10Rate (x0:qy5):T :=
 .rg <|
 .qc24 100 [.bool x0.2.2.1,Sc.val .l x0.2.2.2.1] fun y1 =>
 .ret [qv6 (x0.1,x0.2.1,y1.1,y1.2.1,((x0.2.2.2.2.1):Int),())]
theorem fS_l10Rate x0:qft qa0 106 [qv6 x0] (tS_l10Rate x0) :=fitK (by kernel_rfl)
def tS_RatOk (x0:qy4):T :=
 .qc6 115 [qv1 (x0.1,x0.2.1,())] fun y1 =>
 .bF y1 <|
 .qc6 156 [Sc.val .l x0.2.2.1] fun y2 =>
 .bF y2 <|
 .br ((↑x0.2.2.1.n:Int) == (0:Int)) (
  .rF) <|
 .br (decide ((↑x0.2.2.1.n:Int) > (18:Int))) (
  .rF) <|
 .br (decide ((↑x0.2.1.n:Int) > (18:Int))) (
  .rF) <|
 .qc22 158 [Sc.val .l x0.2.1,Sc.val .l x0.2.2.1] fun y3 =>
 .fz ((1:Nat)) [.int .i64 1] 3 fun b4 c4 =>
 .qc4 157 [Sc.val .l y3,.slice (some { block:=b4,off:=(0:Nat):Addr }) ((1:Nat)) (c4)] fun y5 =>
 .ret [.bool (y5 == (0:Int))]
theorem fS_RatOk x0:qft qa0 107 [qv5 x0] (tS_RatOk x0) :=fitK (by kernel_rfl)
def aS_l02Mul:An:=⟨[(5,[.s 5,.s 28],[.a 3,.o (.o (.i .i64))]),(9,[.s 5,.s 8,.s 35],[.a 3,.o (.o (.i .i64)),.o (.o (.i .i64))])],[],[]⟩
def tS_l02Mul (x0:SlV) (x1:SlV):T :=
 .br ((↑x0.n:Int) == (0:Int)) (
  .ret [.slice none 0 0]) <|
 .br ((↑x1.n:Int) == (0:Int)) (
  .ret [.slice none 0 0]) <|
 .rq ((0:Int)≤IntKind.i64.wrap ((↑x0.n:Int)+(↑x1.n:Int))∧IntKind.i64.wrap ((↑x0.n:Int)+(↑x1.n:Int))≤IntKind.i64.wrap ((↑x0.n:Int)+(↑x1.n:Int))∧(↑(8:Nat):Int)*IntKind.i64.wrap ((↑x0.n:Int)+(↑x1.n:Int))≤(281474976710656:Int)∧IntKind.i64.wrap ((↑x0.n:Int)+(↑x1.n:Int))≤(9223372036854775807:Int)) <|
 .lp [.a 3,.o (.o (.i .i64))] [.a 3 ((IntKind.i64.wrap ((↑x0.n:Int)+(↑x1.n:Int))).toNat) ((madeCells { toList:=[Value.int IntKind.i64 (0:Int)]:Array Value } ((IntKind.i64.wrap ((↑x0.n:Int)+(↑x1.n:Int))).toNat*(1:Nat))).toList),.v (.int .i64 0)] fun y1 =>
 .br (decide (y1.2.1<(↑x0.n:Int))) (
  .el x0.1 (x0.n) y1.2.1 fun y2 =>
  .ql23 (y2.add (Int.toNat y1.2.1*(1:Nat))) fun y3 =>
  .lp [.a 3,.o (.o (.i .i64)),.o (.o (.i .i64))] [.a 3 y1.1.1 y1.1.2,.v (.int .i64 0),.v (.int .i64 0)] fun y4 =>
  .br (decide (y4.2.2.1<(↑x1.n:Int))) (
   .el x1.1 (x1.n) y4.2.2.1 fun y5 =>
   .ql23 (y5.add (Int.toNat y4.2.2.1*(1:Nat))) fun y6 =>
   .rq ((0:Int)≤IntKind.i64.wrap (y1.2.1+y4.2.2.1)∧IntKind.i64.wrap (y1.2.1+y4.2.2.1)<(↑y4.1.1:Int)) <|
 .xs y4.1.2 ((IntKind.i64.wrap (y1.2.1+y4.2.2.1)).toNat*(1:Nat)) (.o (.i .i64)) fun y7 =>
   .rq ((1000000000:Int)≠(0:Int)) <|
 .rq ((0:Int)≤IntKind.i64.wrap (y1.2.1+y4.2.2.1)∧IntKind.i64.wrap (y1.2.1+y4.2.2.1)<(↑y4.1.1:Int)) <|
 .rq ((IntKind.i64.wrap (y1.2.1+y4.2.2.1)).toNat*(1:Nat)+[Value.int IntKind.i64 ((IntKind.i64.wrap (IntKind.i64.wrap (y7+IntKind.i64.wrap (y3*y6))+y4.2.1)).tmod (1000000000:Int))].length≤y4.1.2.length) <|
 .rq ((1000000000:Int)≠(0:Int)) <|
 .nx 1 [.a 3 y4.1.1 (setl y4.1.2 ((IntKind.i64.wrap (y1.2.1+y4.2.2.1)).toNat*(1:Nat)) [Value.int IntKind.i64 ((IntKind.i64.wrap (IntKind.i64.wrap (y7+IntKind.i64.wrap (y3*y6))+y4.2.1)).tmod (1000000000:Int))]),.v (.int .i64 (IntKind.i64.wrap ((IntKind.i64.wrap (IntKind.i64.wrap (y7+IntKind.i64.wrap (y3*y6))+y4.2.1)).tdiv (1000000000:Int)))),.v (.int .i64 (IntKind.i64.wrap (y4.2.2.1+(1:Int))))]) <|
 .rq ((0:Int)≤IntKind.i64.wrap (y1.2.1+(↑x1.n:Int))∧IntKind.i64.wrap (y1.2.1+(↑x1.n:Int))<(↑y4.1.1:Int)) <|
 .rq ((IntKind.i64.wrap (y1.2.1+(↑x1.n:Int))).toNat*(1:Nat)+[(Sh1.o (Sc.i IntKind.i64)).val y4.2.1].length≤y4.1.2.length) <|
 .nx 0 [.a 3 y4.1.1 (setl y4.1.2 ((IntKind.i64.wrap (y1.2.1+(↑x1.n:Int))).toNat*(1:Nat)) [(Sh1.o (Sc.i IntKind.i64)).val y4.2.1]),.v (.int .i64 (IntKind.i64.wrap (y1.2.1+(1:Int))))]) <|
 .fz y1.1.1 y1.1.2 3 fun b2 c2 =>
 .qc22 114 [.slice (some { block:=b2,off:=(0:Nat):Addr }) y1.1.1 (c2)] fun y3 =>
 .ret [Sc.val .l y3]
theorem fS_l02Mul x0 x1:qft aS_l02Mul 108 [Sc.val .l x0,Sc.val .l x1] (tS_l02Mul x0 x1) :=fitK (by kernel_rfl)
def tS_l04Add (x0:qy1) (x1:qy1):T :=
 .br (x0.1 == x1.1) (
  .rg <|
 .qc3 159 [Sc.val .l x0.2.1,Sc.val .l x1.2.1] fun y1 =>
  .qc31 100 [.bool x0.1,Sc.val .l y1] fun y2 =>
  .ret [qv1 y2]) <|
 .qc4 157 [Sc.val .l x0.2.1,Sc.val .l x1.2.1] fun y1 =>
 .br (decide (y1≥(0:Int))) (
  .rg <|
 .qc3 160 [Sc.val .l x0.2.1,Sc.val .l x1.2.1] fun y2 =>
  .qc31 100 [.bool x0.1,Sc.val .l y2] fun y3 =>
  .ret [qv1 y3]) <|
 .rg <|
 .qc3 160 [Sc.val .l x1.2.1,Sc.val .l x0.2.1] fun y2 =>
 .qc31 100 [.bool x1.1,Sc.val .l y2] fun y3 =>
 .ret [qv1 y3]
theorem fS_l04Add x0 x1:qft qa0 109 [qv1 x0,qv1 x1] (tS_l04Add x0 x1) :=fitK (by kernel_rfl)
def tS_l05Low (x0:Bool) (x1:SlV) (x2:SlV):T :=
 .qc22 114 [Sc.val .l x1] fun y1 =>
 .qc22 114 [Sc.val .l x2] fun y2 =>
 .br ((↑y2.n:Int) == (0:Int)) (
  .ret [qv5 ((false),nilS,nilS,()),.bool (false)]) <|
 .qc22 161 [Sc.val .l y1,Sc.val .l y2] fun y3 =>
 .qc8 162 [Sc.val .l y1,Sc.val .l y3] fun y4 =>
 .qc8 162 [Sc.val .l y2,Sc.val .l y3] fun y5 =>
 .br (decide ((↑y4.1.n:Int) > (18:Int))) (
  .ret [qv5 ((false),nilS,nilS,()),.bool (false)]) <|
 .br (decide ((↑y5.1.n:Int) > (18:Int))) (
  .ret [qv5 ((false),nilS,nilS,()),.bool (false)]) <|
 .qc31 100 [.bool x0,Sc.val .l y4.1] fun y6 =>
 .rd ({ a:=y5.1.1,n:=y5.1.n,c:=y5.1.c:SlV }) ((1:Nat)) fun y7 =>
 .rq (one y7=true∧((0:Nat)+y5.1.n)*(8:Nat)≤(140737488355328:Nat)∧(0:Nat)+y5.1.n≤(9223372036854775807:Nat)) <|
 .fz ((0:Nat)+y5.1.n) ([]++y7) 3 fun b8 c8 =>
 .ret [qv5 (y6.1,y6.2.1,(⟨(some { block:=b8,off:=(0:Nat):Addr }),((0:Nat)+y5.1.n),(c8)⟩:SlV),()),.bool (true)]
theorem fS_l05Low x0 x1 x2:qft qa0 110 [.bool x0,Sc.val .l x1,Sc.val .l x2] (tS_l05Low x0 x1 x2) :=fitK (by kernel_rfl)
def tS_l19Rat (x0:qy4):T :=
 .rg <|
 .es [] 3 fun b1 =>
 .ra ({ a:=x0.2.1.1,n:=x0.2.1.n,c:=x0.2.1.c:SlV }) ((1:Nat)) fun y2 =>
 .rq (one y2=true∧x0.2.1.n*(8:Nat)≤(140737488355328:Nat)∧x0.2.1.n≤(9223372036854775807:Nat)) <|
 .br (decide (x0.2.1.n=(0:Nat))) (
  .es [] 3 fun b3 =>
  .ra ({ a:=x0.2.2.1.1,n:=x0.2.2.1.n,c:=x0.2.2.1.c:SlV }) ((1:Nat)) fun y4 =>
  .rq (one y4=true∧x0.2.2.1.n*(8:Nat)≤(140737488355328:Nat)∧x0.2.2.1.n≤(9223372036854775807:Nat)) <|
 .br (decide (x0.2.2.1.n=(0:Nat))) (
   .ret [qv5 (x0.1,(⟨(some { block:=b1,off:=(0:Nat):Addr }),((0:Nat)),((0:Nat))⟩:SlV),(⟨(some { block:=b3,off:=(0:Nat):Addr }),((0:Nat)),((0:Nat))⟩:SlV),())]) <|
 .fz (x0.2.2.1.n) y4 3 fun b5 c5 =>
  .ret [qv5 (x0.1,(⟨(some { block:=b1,off:=(0:Nat):Addr }),((0:Nat)),((0:Nat))⟩:SlV),(⟨(some { block:=b5,off:=(0:Nat):Addr }),(x0.2.2.1.n),(c5)⟩:SlV),())]) <|
 .fz (x0.2.1.n) y2 3 fun b3 c3 =>
 .es [] 3 fun b4 =>
 .ra ({ a:=x0.2.2.1.1,n:=x0.2.2.1.n,c:=x0.2.2.1.c:SlV }) ((1:Nat)) fun y5 =>
 .rq (one y5=true∧x0.2.2.1.n*(8:Nat)≤(140737488355328:Nat)∧x0.2.2.1.n≤(9223372036854775807:Nat)) <|
 .br (decide (x0.2.2.1.n=(0:Nat))) (
  .ret [qv5 (x0.1,(⟨(some { block:=b3,off:=(0:Nat):Addr }),(x0.2.1.n),(c3)⟩:SlV),(⟨(some { block:=b4,off:=(0:Nat):Addr }),((0:Nat)),((0:Nat))⟩:SlV),())]) <|
 .fz (x0.2.2.1.n) y5 3 fun b6 c6 =>
 .ret [qv5 (x0.1,(⟨(some { block:=b3,off:=(0:Nat):Addr }),(x0.2.1.n),(c3)⟩:SlV),(⟨(some { block:=b6,off:=(0:Nat):Addr }),(x0.2.2.1.n),(c6)⟩:SlV),())]
theorem fS_l19Rat x0:qft qa0 111 [qv5 x0] (tS_l19Rat x0) :=fitK (by kernel_rfl)
def aS_l08Find:An:=⟨[(2,[.s 7,.c 2 0,.c 2 1,.c 2 2,.c 2 3],[.o (.o (.i .i64)),.o (.o (.s)),.o (.o (.s)),.o (.o (.i .i64)),.o (.o (.i .i64))])],[],[]⟩
def tS_l08Find (x0:ByteArray):T :=
 .qc22 163 [] fun y1 =>
 .lp [.o (.o (.i .i64)),.o (.o (.s)),.o (.o (.s)),.o (.o (.i .i64)),.o (.o (.i .i64))] [.v (.int .i64 0),.v (.string ({ data:={ toList:=[]:Array UInt8 }:ByteArray })),.v (.string ({ data:={ toList:=[]:Array UInt8 }:ByteArray })),.v (.int .i64 0),.v (.int .i64 0)] fun y2 =>
 .br (decide (y2.1<(↑y1.n:Int))) (
  .el y1.1 (y1.n) y2.1 fun y3 =>
  .ql52 (y3.add (Int.toNat y2.1*(4:Nat))) fun y4 =>
  .br (ByteArray.toList y4.1 == x0.toList) (
   .ret [qv12 y4]) <|
 .nx 0 [.v (.int .i64 (IntKind.i64.wrap (y2.1+(1:Int)))),.v (.string y2.2.1),.v (.string y2.2.2.1),.v (.int .i64 y2.2.2.2.1),.v (.int .i64 y2.2.2.2.2.1)]) <|
 .ret [qv12 (({ data:={ toList:=[]:Array UInt8 }:ByteArray }),({ data:={ toList:=[]:Array UInt8 }:ByteArray }),(((0:Int)):Int),(((0:Int)):Int),())]
theorem fS_l08Find x0:qft aS_l08Find 112 [.string x0] (tS_l08Find x0) :=fitK (by kernel_rfl)
def tS_RatCmp (x0:qy4) (x1:qy4):T :=
 .qc6 107 [qv5 x0] fun y1 =>
 .bn y1 (.ret [.int .i64 0]) <|
 .qc6 107 [qv5 x1] fun y2 =>
 .bn y2 (.ret [.int .i64 0]) <|
 .rg <|
 .qc3 108 [Sc.val .l x0.2.1,Sc.val .l x1.2.2.1] fun y3 =>
 .qc24 100 [.bool x0.1,Sc.val .l y3] fun y4 =>
 .qc3 108 [Sc.val .l x1.2.1,Sc.val .l x0.2.2.1] fun y5 =>
 .qc31 100 [.bool x1.1,Sc.val .l y5] fun y6 =>
 .qc4 164 [qv1 y4,qv1 y6] fun y7 =>
 .ret [.int .i64 y7]
theorem fS_RatCmp x0 x1:qft qa0 113 [qv5 x0,qv5 x1] (tS_RatCmp x0 x1) :=fitK (by kernel_rfl)
def aS_l02Trim:An:=⟨[(2,[.s 3],[.o (.o (.i .i64))])],[],[]⟩
def tS_l02Trim (x0:SlV):T :=
 .lp [.o (.o (.i .i64))] [.v (.int .i64 ((↑x0.n:Int)))] fun y1 =>
 .br (decide (y1.1 > (0:Int))) (
  .el x0.1 (x0.n) (IntKind.i64.wrap (y1.1-(1:Int))) fun y2 =>
  .ql23 (y2.add ((IntKind.i64.wrap (y1.1-(1:Int))).toNat*(1:Nat))) fun y3 =>
  .br (y3 == (0:Int)) (
   .nx 0 [.v (.int .i64 (IntKind.i64.wrap (y1.1-(1:Int))))]) <|
 .rq ((0:Int)≤(0:Int)∧(0:Int)≤y1.1∧y1.1≤(↑x0.c:Int)∧(↑x0.c:Int)≤(↑x0.c:Int)) <|
 .ret [.slice (if (↑x0.c:Int).toNat=Int.toNat (0:Int) then x0.1 else Option.map (fun x=>x.add (Int.toNat (0:Int)*Go.Proofs.Tryz.prog.types[(3:Nat)].size)) x0.1) (Int.toNat y1.1-Int.toNat (0:Int)) ((↑x0.c:Int).toNat-Int.toNat (0:Int))]) <|
 .rq ((0:Int)≤(0:Int)∧(0:Int)≤y1.1∧y1.1≤(↑x0.c:Int)∧(↑x0.c:Int)≤(↑x0.c:Int)) <|
 .ret [.slice (if (↑x0.c:Int).toNat=Int.toNat (0:Int) then x0.1 else Option.map (fun x=>x.add (Int.toNat (0:Int)*Go.Proofs.Tryz.prog.types[(3:Nat)].size)) x0.1) (Int.toNat y1.1-Int.toNat (0:Int)) ((↑x0.c:Int).toNat-Int.toNat (0:Int))]
theorem fS_l02Trim x0:qft aS_l02Trim 114 [Sc.val .l x0] (tS_l02Trim x0) :=fitK (by kernel_rfl)
def tS_IntOk (x0:qy1):T :=
 .qc6 156 [Sc.val .l x0.2.1] fun y1 =>
 .br y1 (
  .br (!x0.1) (
   .rT) <|
 .ret [.bool (decide ((↑x0.2.1.n:Int) > (0:Int)))]) <|
 .rF
theorem fS_IntOk x0:qft qa0 115 [qv1 x0] (tS_IntOk x0) :=fitK (by kernel_rfl)
def tI_isLower (x0:Int):T :=
 .br (decide (x0≥(97:Int))) (
  .ret [.bool (decide (x0≤(122:Int)))]) <|
 .rF
theorem fI_isLower x0:qft qa0 116 [.int .u8 x0] (tI_isLower x0) :=fitK (by kernel_rfl)
def tI_isDigit (x0:Int):T :=
 .br (decide (x0≥(48:Int))) (
  .ret [.bool (decide (x0≤(57:Int)))]) <|
 .rF
theorem fI_isDigit x0:qft qa0 117 [.int .u8 x0] (tI_isDigit x0) :=fitK (by kernel_rfl)
def tI_IntOk (x0:qy1):T :=
 .qc6 119 [Sc.val .l x0.2.1] fun y1 =>
 .br y1 (
  .br (!x0.1) (
   .rT) <|
 .ret [.bool (decide ((↑x0.2.1.n:Int) > (0:Int)))]) <|
 .rF
theorem fI_IntOk x0:qft qa0 118 [qv1 x0] (tI_IntOk x0) :=fitK (by kernel_rfl)
def aI_NatOk:An:=⟨[(4,[.s 24],[.o (.o (.i .i64))])],[],[]⟩
def tI_NatOk (x0:SlV):T :=
 .br (decide ((↑x0.n:Int) > (50:Int))) (
  .rF) <|
 .br (decide ((↑x0.n:Int) > (0:Int))) (
  .el x0.1 (x0.n) (IntKind.i64.wrap ((↑x0.n:Int)-(1:Int))) fun y1 =>
  .ql23 (y1.add ((IntKind.i64.wrap ((↑x0.n:Int)-(1:Int))).toNat*(1:Nat))) fun y2 =>
  .br (y2 == (0:Int)) (
   .rF) <|
 .lp [.o (.o (.i .i64))] [.v (.int .i64 0)] fun y3 =>
  .br (decide (y3.1<(↑x0.n:Int))) (
   .el x0.1 (x0.n) y3.1 fun y4 =>
   .ql23 (y4.add (Int.toNat y3.1*(1:Nat))) fun y5 =>
   .br (decide (y5<(0:Int))) (
    .rF) <|
 .br (decide (y5≥(1000000000:Int))) (
    .rF) <|
 .nx 0 [.v (.int .i64 (IntKind.i64.wrap (y3.1+(1:Int))))]) <|
 .rT) <|
 .lp [.o (.o (.i .i64))] [.v (.int .i64 0)] fun y1 =>
 .br (decide (y1.1<(↑x0.n:Int))) (
  .el x0.1 (x0.n) y1.1 fun y2 =>
  .ql23 (y2.add (Int.toNat y1.1*(1:Nat))) fun y3 =>
  .br (decide (y3<(0:Int))) (
   .rF) <|
 .br (decide (y3≥(1000000000:Int))) (
   .rF) <|
 .nx 0 [.v (.int .i64 (IntKind.i64.wrap (y1.1+(1:Int))))]) <|
 .rT
theorem fI_NatOk x0:qft aI_NatOk 119 [Sc.val .l x0] (tI_NatOk x0) :=fitK (by kernel_rfl)
def aI_natGcd:An:=⟨[(1,[.s 0,.s 1],[.o (.o (.l)),.o (.o (.l))])],[],[]⟩
def tI_natGcd (x0:SlV) (x1:SlV):T :=
 .lp [.o (.o (.l)),.o (.o (.l))] [.v (Sc.val .l x0),.v (Sc.val .l x1)] fun y1 =>
 .br (decide ((↑y1.2.1.n:Int) > (0:Int))) (
  .qc8 165 [Sc.val .l y1.1,Sc.val .l y1.2.1] fun y2 =>
  .nx 0 [.v (Sc.val .l y1.2.1),.v (Sc.val .l y2.2.1)]) <|
 .qc22 95 [Sc.val .l y1.1] fun y2 =>
 .ret [Sc.val .l y2]
theorem fI_natGcd x0 x1:qft aI_natGcd 120 [Sc.val .l x0,Sc.val .l x1] (tI_natGcd x0 x1) :=fitK (by kernel_rfl)
def tI_DecOk (x0:qy6):T :=
 .qc6 118 [qv1 (x0.1,x0.2.1,())] fun y1 =>
 .br y1 (
  .br (decide ((↑x0.2.1.n:Int)≤(6:Int))) (
   .qc6 166 [.int .i64 x0.2.2.1] fun y2 =>
   .ret [.bool y2]) <|
 .rF) <|
 .rF
theorem fI_DecOk x0:qft qa0 121 [qv3 x0] (tI_DecOk x0) :=fitK (by kernel_rfl)
def aI_moneyCopy:An:=⟨[],[],[(3,[.s 3])]⟩
def tI_moneyCopy (x0:qy2):T :=
 .rq ((0:Int)≤(↑x0.2.2.1.n:Int)∧(↑x0.2.2.1.n:Int)≤(↑x0.2.2.1.n:Int)∧(↑(8:Nat):Int)*(↑x0.2.2.1.n:Int)≤(281474976710656:Int)∧(↑x0.2.2.1.n:Int)≤(9223372036854775807:Int)) <|
 .rd ({ a:=x0.2.2.1.1,n:=x0.2.2.1.n,c:=x0.2.2.1.c:SlV }) ((1:Nat)) fun y1 =>
 .rq (one y1=true) <|
 .fz ((↑x0.2.2.1.n:Int).toNat) (setl (madeCells { toList:=[Value.int IntKind.i64 (0:Int)]:Array Value } ((↑x0.2.2.1.n:Int).toNat*(1:Nat))).toList (0:Nat) (List.take (x0.2.2.1.n.min (↑x0.2.2.1.n:Int).toNat) y1)) 3 fun b2 c2 =>
 .rg <|
 .rq ((0:Int)≤(0:Int)∧(0:Int)≤(↑(↑x0.2.2.1.n:Int).toNat:Int)∧(↑(↑x0.2.2.1.n:Int).toNat:Int)≤(↑(↑x0.2.2.1.n:Int).toNat:Int)∧(↑(↑x0.2.2.1.n:Int).toNat:Int)≤(↑c2:Int)) <|
 .ret [qv2 (x0.1,x0.2.1,(⟨(if (↑(↑x0.2.2.1.n:Int).toNat:Int).toNat=Int.toNat (0:Int) then some { block:=b2,off:=(0:Nat):Addr } else Option.map (fun x=>x.add (Int.toNat (0:Int)*Go.Proofs.Tryz.prog.types[(3:Nat)].size)) (some { block:=b2,off:=(0:Nat):Addr })),((↑(↑x0.2.2.1.n:Int).toNat:Int).toNat-Int.toNat (0:Int)),((↑(↑x0.2.2.1.n:Int).toNat:Int).toNat-Int.toNat (0:Int))⟩:SlV),())]
theorem fI_moneyCopy x0:qft aI_moneyCopy 122 [qv2 x0] (tI_moneyCopy x0) :=fitK (by kernel_rfl)
def tI_ratCopy (x0:qy4):T :=
 .rg <|
 .qc24 167 [qv1 (x0.1,x0.2.1,())] fun y1 =>
 .qc22 95 [Sc.val .l x0.2.2.1] fun y2 =>
 .ret [qv5 (y1.1,y1.2.1,y2,())]
theorem fI_ratCopy x0:qft qa0 123 [qv5 x0] (tI_ratCopy x0) :=fitK (by kernel_rfl)
def tI_rateCopy (x0:qy5):T :=
 .rg <|
 .qc51 168 [qv3 x0.2.2] fun y1 =>
 .ret [qv6 (x0.1,x0.2.1,y1.1,y1.2.1,((y1.2.2.1):Int),())]
theorem fI_rateCopy x0:qft qa0 124 [qv6 x0] (tI_rateCopy x0) :=fitK (by kernel_rfl)
def tI_Cut (x0:ByteArray):T :=
 .qc22 169 [.string x0,.string ({ data:={ toList:=[(32:UInt8)]:Array UInt8 }:ByteArray })] fun y1 =>
 .ret [Sc.val .l y1]
theorem fI_Cut x0:qft qa0 125 [.string x0] (tI_Cut x0) :=fitK (by kernel_rfl)
def aI_NameOp:An:=⟨[(2,[.s 3],[.o (.o (.i .i64))])],[],[]⟩
def tI_NameOp (x0:ByteArray):T :=
 .lp [.o (.o (.i .i64))] [.v (.int .i64 1)] fun y1 =>
 .br (decide (y1.1≤(9:Int))) (
  .qc10 49 [.int .i64 y1.1] fun y2 =>
  .br (y2.toList == x0.toList) (
   .ret [.int .i64 y1.1]) <|
 .nx 0 [.v (.int .i64 (IntKind.i64.wrap (y1.1+(1:Int))))]) <|
 .ret [.int .i64 0]
theorem fI_NameOp x0:qft aI_NameOp 126 [.string x0] (tI_NameOp x0) :=fitK (by kernel_rfl)
def tI_wordsOf (x0:Int):T :=
 .br (x0 == (8:Int)) (
  .ret [.int .i64 3]) <|
 .br (x0 == (4:Int)) (
  .ret [.int .i64 2]) <|
 .ret [.int .i64 1]
theorem fI_wordsOf x0:qft qa0 127 [.int .i64 x0] (tI_wordsOf x0) :=fitK (by kernel_rfl)
def tI_readField (x0:Addr) (x1:ByteArray) (x2:Int):T :=
 .qc53 170 [.string x1,.int .i64 x2] fun y1 =>
 .br (x2 == (0:Int)) (
  .mo (.as (y1.1) 20 9 true) (.t [(.o (.s)),(.o (.b))]) fun y2 =>
  .st (x0.add (1:Nat)) [.string y2.1] <|
 .ret [.bool y2.2.1]) <|
 .br (x2 == (1:Int)) (
  .mo (.as (y1.1) 20 9 true) (.t [(.o (.s)),(.o (.b))]) fun y2 =>
  .st (x0.add (2:Nat)) [.string y2.1] <|
 .ret [.bool y2.2.1]) <|
 .br (x2 == (2:Int)) (
  .mo (.as (y1.1) 20 9 true) (.t [(.o (.s)),(.o (.b))]) fun y2 =>
  .st (x0.add (3:Nat)) [.string y2.1] <|
 .ret [.bool y2.2.1]) <|
 .br (x2 == (3:Int)) (
  .mo (.as (y1.1) 20 9 true) (.t [(.o (.s)),(.o (.b))]) fun y2 =>
  .st (x0.add (4:Nat)) [.string y2.1] <|
 .ret [.bool y2.2.1]) <|
 .br (x2 == (4:Int)) (
  .mo (.as (y1.1) 20 72 true) (.t [(.g [.s,.b,.l]),(.o (.b))]) fun y2 =>
  .st (x0.add (5:Nat)) [.string y2.1.1,.bool y2.1.2.1,Sc.val .l y2.1.2.2.1] <|
 .ret [.bool y2.2.1]) <|
 .br (x2 == (5:Int)) (
  .qc54 171 [.string x1] fun y2 =>
  .st (x0.add (9:Nat)) [Sc.val .l y2.1] <|
 .st (x0.add (10:Nat)) [Sc.val .l y2.2.1] <|
 .ret [.bool y2.2.2.1]) <|
 .br (x2 == (6:Int)) (
  .mo (.as (y1.1) 20 55 true) (.t [(.g [.b,.l,.i .i64]),(.o (.b))]) fun y2 =>
  .st (x0.add (11:Nat)) [.bool y2.1.1,Sc.val .l y2.1.2.1,.int .i64 y2.1.2.2.1] <|
 .ret [.bool y2.2.1]) <|
 .br (x2 == (7:Int)) (
  .mo (.as (y1.1) 20 3 true) (.t [(.o (.i .i64)),(.o (.b))]) fun y2 =>
  .st (x0.add (8:Nat)) [.int .i64 y2.1] <|
 .ret [.bool y2.2.1]) <|
 .br (x2 == (8:Int)) (
  .mo (.as (y1.1) 20 57 true) (.t [(.g [.s,.s,.b,.l,.i .i64]),(.o (.b))]) fun y2 =>
  .st (x0.add (14:Nat)) [.string y2.1.1,.string y2.1.2.1,.bool y2.1.2.2.1,Sc.val .l y2.1.2.2.2.1,.int .i64 y2.1.2.2.2.2.1] <|
 .ret [.bool y2.2.1]) <|
 .rF
theorem fI_readField x0 x1 x2:qft qa0 128 [.pointer (some x0),.string x1,.int .i64 x2] (tI_readField x0 x1 x2) :=fitK (by kernel_rfl)
def tI_Do (x0:qy0) (x1:qy8):T :=
 .qc6 48 [qv8 x1] fun y1 =>
 .bn y1 (.ret [qv0 (nilS,nilS,({ data:={ toList:=[]:Array UInt8 }:ByteArray }),nilS,()),.int .i64 1]) <|
 .rg <|
 .qc55 173 [qv8 x1] fun y2 =>
 .qc37 172 [qv0 x0,y2.1] fun y3 =>
 .ret [qv0 y3.1,.int .i64 y3.2.1]
theorem fI_Do x0 x1:qft qa0 129 [qv0 x0,qv8 x1] (tI_Do x0 x1) :=fitK (by kernel_rfl)
def tI_decIsZero (x0:qy6):T :=
 .qc6 44 [qv3 x0,qv3 ((false),nilS,(((0:Int)):Int),())] fun y1 =>
 .ret [.bool y1]
theorem fI_decIsZero x0:qft qa0 130 [qv3 x0] (tI_decIsZero x0) :=fitK (by kernel_rfl)
def aX_Index_int:An:=⟨[(2,[.s 8],[.o (.o (.i .i64))])],[],[]⟩
def tX_Index_int (x0:SlV) (x1:Int):T :=
 .lp [.o (.o (.i .i64))] [.v (.int .i64 0)] fun y1 =>
 .br (decide (y1.1<(↑x0.n:Int))) (
  .el x0.1 (x0.n) y1.1 fun y2 =>
  .ql23 (y2.add (Int.toNat y1.1*(1:Nat))) fun y3 =>
  .br (x1 == y3) (
   .ret [.int .i64 y1.1]) <|
 .nx 0 [.v (.int .i64 (IntKind.i64.wrap (y1.1+(1:Int))))]) <|
 .rM
theorem fX_Index_int x0 x1:qft aX_Index_int 131 [Sc.val .l x0,.int .i64 x1] (tX_Index_int x0 x1) :=fitK (by kernel_rfl)
def aI_IsCode:An:=⟨[(4,[.s 3],[.o (.o (.i .i64))])],[],[]⟩
def tI_IsCode (x0:ByteArray):T :=
 .br ((↑x0.size:Int) != (3:Int)) (
  .rF) <|
 .lp [.o (.o (.i .i64))] [.v (.int .i64 0)] fun y1 =>
 .br (decide (y1.1<(3:Int))) (
  .rq ((0:Int)≤y1.1∧y1.1<(↑x0.size:Int)) <|
 .br (decide (at0 x0 (Int.toNat y1.1)<(65:Int))) (
   .rF) <|
 .rq ((0:Int)≤y1.1∧y1.1<(↑x0.size:Int)) <|
 .br (decide (at0 x0 (Int.toNat y1.1) > (90:Int))) (
   .rF) <|
 .nx 0 [.v (.int .i64 (IntKind.i64.wrap (y1.1+(1:Int))))]) <|
 .rT
theorem fI_IsCode x0:qft aI_IsCode 132 [.string x0] (tI_IsCode x0) :=fitK (by kernel_rfl)
def tI_payable (x0:qy2):T :=
 .qc6 74 [qv2 x0] fun y1 =>
 .br y1 (
  .ret [.bool (!x0.2.1)]) <|
 .rF
theorem fI_payable x0:qft qa0 133 [qv2 x0] (tI_payable x0) :=fitK (by kernel_rfl)
def tI_DecText (x0:qy6):T :=
 .qc6 121 [qv3 x0] fun y1 =>
 .bn y1 (.ret [.string ({ data:={ toList:=[]:Array UInt8 }:ByteArray })]) <|
 .rg <|
 .qc14 180 [Sc.val .l x0.2.1] fun y2 =>
 .qc10 179 [.string y2,.int .i64 (IntKind.i64.wrap (x0.2.2.1+(1:Int)))] fun y3 =>
 .br (decide (x0.2.2.1 > (0:Int))) (
  .rg <|
 .rq ((0:Int)≤(0:Int)∧(0:Int)≤IntKind.i64.wrap ((↑y3.size:Int)-x0.2.2.1)∧IntKind.i64.wrap ((↑y3.size:Int)-x0.2.2.1)≤(↑y3.size:Int)) <|
 .rq ((y3.extract (Int.toNat (0:Int)) (IntKind.i64.wrap ((↑y3.size:Int)-x0.2.2.1)).toNat).size+{ data:={ toList:=[(46:UInt8)]:Array UInt8 }:ByteArray }.size≤(9223372036854775807:Nat)) <|
 .rq ((0:Int)≤IntKind.i64.wrap ((↑y3.size:Int)-x0.2.2.1)∧IntKind.i64.wrap ((↑y3.size:Int)-x0.2.2.1)≤(↑y3.size:Int)∧(↑y3.size:Int)≤(↑y3.size:Int)) <|
 .rq ((y3.extract (Int.toNat (0:Int)) (IntKind.i64.wrap ((↑y3.size:Int)-x0.2.2.1)).toNat++{ data:={ toList:=[(46:UInt8)]:Array UInt8 }:ByteArray }).size+(y3.extract (IntKind.i64.wrap ((↑y3.size:Int)-x0.2.2.1)).toNat (↑y3.size:Int).toNat).size≤(9223372036854775807:Nat)) <|
 .br x0.1 (
   .rq ({ data:={ toList:=[(45:UInt8)]:Array UInt8 }:ByteArray }.size+(y3.extract (Int.toNat (0:Int)) (IntKind.i64.wrap ((↑y3.size:Int)-x0.2.2.1)).toNat++{ data:={ toList:=[(46:UInt8)]:Array UInt8 }:ByteArray }++y3.extract (IntKind.i64.wrap ((↑y3.size:Int)-x0.2.2.1)).toNat (↑y3.size:Int).toNat).size≤(9223372036854775807:Nat)) <|
 .ret [.string ({ data:={ toList:=[(45:UInt8)]:Array UInt8 }:ByteArray }++(y3.extract (Int.toNat (0:Int)) (IntKind.i64.wrap ((↑y3.size:Int)-x0.2.2.1)).toNat++{ data:={ toList:=[(46:UInt8)]:Array UInt8 }:ByteArray }++y3.extract (IntKind.i64.wrap ((↑y3.size:Int)-x0.2.2.1)).toNat (↑y3.size:Int).toNat))]) <|
 .ret [.string (y3.extract (Int.toNat (0:Int)) (IntKind.i64.wrap ((↑y3.size:Int)-x0.2.2.1)).toNat++{ data:={ toList:=[(46:UInt8)]:Array UInt8 }:ByteArray }++y3.extract (IntKind.i64.wrap ((↑y3.size:Int)-x0.2.2.1)).toNat (↑y3.size:Int).toNat)]) <|
 .br x0.1 (
  .rq ({ data:={ toList:=[(45:UInt8)]:Array UInt8 }:ByteArray }.size+y3.size≤(9223372036854775807:Nat)) <|
 .ret [.string ({ data:={ toList:=[(45:UInt8)]:Array UInt8 }:ByteArray }++y3)]) <|
 .ret [.string y3]
theorem fI_DecText x0:qft qa0 138 [qv3 x0] (tI_DecText x0) :=fitK (by kernel_rfl)
def tI_CurPlaces (x0:ByteArray):T :=
 .qc20 37 [.string x0] fun y1 =>
 .ret [.int .i64 y1.1.2.2.1]
theorem fI_CurPlaces x0:qft qa0 139 [.string x0] (tI_CurPlaces x0) :=fitK (by kernel_rfl)
def tI_IntText (x0:Int):T :=
 .qc10 181 [.int .i64 x0] fun y1 =>
 .ret [.string y1]
theorem fI_IntText x0:qft qa0 140 [.int .i64 x0] (tI_IntText x0) :=fitK (by kernel_rfl)
def tS_IsWord (x0:ByteArray):T :=
 .qc6 194 [.string x0,.int .u8 ((97:Int)),.int .u8 ((122:Int)),.int .u8 ((48:Int)),.int .u8 ((57:Int))] fun y1 =>
 .br y1 (
  .br (decide ((↑x0.size:Int)≤(12:Int))) (
   .rq ((0:Int)≤(0:Int)∧(0:Int)<(↑x0.size:Int)) <|
 .ret [.bool (decide (at0 x0 (Int.toNat (0:Int))≥(97:Int)))]) <|
 .rF) <|
 .rF
theorem fS_IsWord x0:qft qa0 147 [.string x0] (tS_IsWord x0) :=fitK (by kernel_rfl)
def tS_MoneyOk (x0:qy2):T :=
 .qc6 65 [.string x0.1] fun y1 =>
 .br y1 (
  .qc6 115 [qv1 x0.2] fun y2 =>
  .br y2 (
   .ret [.bool (decide ((↑x0.2.2.1.n:Int)≤(4:Int)))]) <|
 .rF) <|
 .rF
theorem fS_MoneyOk x0:qft qa0 148 [qv2 x0] (tS_MoneyOk x0) :=fitK (by kernel_rfl)
def tS_l17Money (x0:qy2):T :=
 .rg <|
 .es [] 3 fun b1 =>
 .ra ({ a:=x0.2.2.1.1,n:=x0.2.2.1.n,c:=x0.2.2.1.c:SlV }) ((1:Nat)) fun y2 =>
 .rq (one y2=true∧x0.2.2.1.n*(8:Nat)≤(140737488355328:Nat)∧x0.2.2.1.n≤(9223372036854775807:Nat)) <|
 .br (decide (x0.2.2.1.n=(0:Nat))) (
  .ret [qv2 (x0.1,x0.2.1,(⟨(some { block:=b1,off:=(0:Nat):Addr }),((0:Nat)),((0:Nat))⟩:SlV),())]) <|
 .fz (x0.2.2.1.n) y2 3 fun b3 c3 =>
 .ret [qv2 (x0.1,x0.2.1,(⟨(some { block:=b3,off:=(0:Nat):Addr }),(x0.2.2.1.n),(c3)⟩:SlV),())]
theorem fS_l17Money x0:qft qa0 149 [qv2 x0] (tS_l17Money x0) :=fitK (by kernel_rfl)
def tS_l09Both (x0:qy2) (x1:qy2):T :=
 .qc6 148 [qv2 x0] fun y1 =>
 .br y1 (
  .qc6 148 [qv2 x1] fun y2 =>
  .br y2 (
   .ret [.bool (ByteArray.toList x0.1 == ByteArray.toList x1.1)]) <|
 .rF) <|
 .rF
theorem fS_l09Both x0 x1:qft qa0 150 [qv2 x0,qv2 x1] (tS_l09Both x0 x1) :=fitK (by kernel_rfl)
def tS_l09Make (x0:ByteArray) (x1:qy1):T :=
 .qc6 148 [qv2 (x0,x1.1,x1.2.1,())] fun y1 =>
 .bn y1 (.ret [qv2 (({ data:={ toList:=[]:Array UInt8 }:ByteArray }),(false),nilS,()),.bool (false)]) <|
 .ret [qv2 (x0,x1.1,x1.2.1,()),.bool (true)]
theorem fS_l09Make x0 x1:qft qa0 151 [.string x0,qv1 x1] (tS_l09Make x0 x1) :=fitK (by kernel_rfl)
end
end Go.Proofs.YtpdfdkccgkieoaaGreatDoor
