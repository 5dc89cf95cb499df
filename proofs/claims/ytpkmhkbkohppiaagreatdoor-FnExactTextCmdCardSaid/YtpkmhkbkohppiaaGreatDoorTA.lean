/-
  What each function of the seat comes to, as a tree; each tree is checked against the code.
-/
import Derived.Test.YtpkmhkbkohppiaaGreatDoorEngD
import Derived.Test.YtpkmhkbkohppiaaGreatDoorChecked
import Derived.KernelRfl
namespace Go.Proofs.YtpkmhkbkohppiaaGreatDoor
open Sx
set_option maxRecDepth 100000
noncomputable section
abbrev qft:=@fits Tryz.prog
abbrev qa0:An:=⟨[],[],[]⟩
abbrev _root_.Sx.T.rF:T:=.ret [.bool false]
abbrev _root_.Sx.T.rT:T:=.ret [.bool true]
abbrev _root_.Sx.T.rM:T:=.ret [.int .i64 (-1)]
abbrev _root_.Sx.T.bF (b:Bool) (y:T):T:=.br (!b) (.ret [.bool false]) y
abbrev _root_.Sx.T.bn (b:Bool) (x:T) (y:T):T:=.br (!b) x y
abbrev _root_.Sx.T.qc0 (g:Nat) (l:List Value) (k:Sh.ty (.t [(.g [.i .i64,.s,.s,.s,.s,.s,.b,.l,.i .i64,.l,.l,.b,.l,.i .i64,.s,.s,.b,.l,.i .i64]),(.o (.b))])→T):T:=.call false g l (.t [(.g [.i .i64,.s,.s,.s,.s,.s,.b,.l,.i .i64,.l,.l,.b,.l,.i .i64,.s,.s,.b,.l,.i .i64]),(.o (.b))]) k
abbrev _root_.Sx.T.qc1 (g:Nat) (l:List Value) (k:Sh.ty (.v (.o (.b)))→T):T:=.call false g l (.v (.o (.b))) k
abbrev _root_.Sx.T.qc2 (g:Nat) (l:List Value) (k:Sh.ty (.v (.o (.i .i64)))→T):T:=.call false g l (.v (.o (.i .i64))) k
abbrev _root_.Sx.T.qc3 (g:Nat) (l:List Value) (k:Sh.ty (.v (.o (.l)))→T):T:=.call false g l (.v (.o (.l))) k
abbrev _root_.Sx.T.qc4 (g:Nat) (l:List Value) (k:Sh.ty (.t [(.o (.s)),(.o (.l))])→T):T:=.call false g l (.t [(.o (.s)),(.o (.l))]) k
abbrev _root_.Sx.T.qc5 (g:Nat) (l:List Value) (k:Sh.ty (.t [(.o (.b)),(.o (.b)),(.o (.b)),(.o (.b))])→T):T:=.call false g l (.t [(.o (.b)),(.o (.b)),(.o (.b)),(.o (.b))]) k
abbrev _root_.Sx.T.qc6 (g:Nat) (l:List Value) (k:Sh.ty (.v (.o (.s)))→T):T:=.call false g l (.v (.o (.s))) k
abbrev _root_.Sx.T.qc7 (g:Nat) (l:List Value) (k:Sh.ty (.t [(.o (.i .i64)),(.o (.b))])→T):T:=.call false g l (.t [(.o (.i .i64)),(.o (.b))]) k
abbrev _root_.Sx.T.qc8 (g:Nat) (l:List Value) (k:Sh.ty (.t [(.g [.b,.l,.i .i64]),(.o (.b))])→T):T:=.call false g l (.t [(.g [.b,.l,.i .i64]),(.o (.b))]) k
abbrev _root_.Sx.T.ql9 (a:Addr) (k:Sh1.ty (.o (.s))→T):T:=.ld false a (.o (.s)) k
abbrev _root_.Sx.T.ql10 (a:Addr) (k:Sh1.ty (.o (.s))→T):T:=.ld true a (.o (.s)) k
abbrev _root_.Sx.T.qc11 (g:Nat) (l:List Value) (k:Sh.ty (.t [(.g [.s,.b,.l]),(.o (.b))])→T):T:=.call false g l (.t [(.g [.s,.b,.l]),(.o (.b))]) k
abbrev _root_.Sx.T.qc12 (g:Nat) (l:List Value) (k:Sh.ty (.t [(.g [.s,.s,.b,.l,.i .i64]),(.o (.b))])→T):T:=.call false g l (.t [(.g [.s,.s,.b,.l,.i .i64]),(.o (.b))]) k
abbrev _root_.Sx.T.ql13 (a:Addr) (k:Sh1.ty (.o (.i .i64))→T):T:=.ld false a (.o (.i .i64)) k
abbrev _root_.Sx.T.ql14 (a:Addr) (k:Sh1.ty (.g [.i .i64,.s,.s,.s,.s,.s,.b,.l,.i .i64,.l,.l,.b,.l,.i .i64,.s,.s,.b,.l,.i .i64])→T):T:=.ld false a (.g [.i .i64,.s,.s,.s,.s,.s,.b,.l,.i .i64,.l,.l,.b,.l,.i .i64,.s,.s,.b,.l,.i .i64]) k
abbrev _root_.Sx.T.qc15 (g:Nat) (l:List Value) (k:Sh.ty (.v (.g [.b,.l,.i .i64]))→T):T:=.call false g l (.v (.g [.b,.l,.i .i64])) k
abbrev _root_.Sx.T.qc16 (g:Nat) (l:List Value) (k:Sh.ty (.v (.o (.b)))→T):T:=.call true g l (.v (.o (.b))) k
abbrev _root_.Sx.T.qc17 (g:Nat) (l:List Value) (k:Sh.ty (.v (.g [.b,.l,.i .i64]))→T):T:=.call true g l (.v (.g [.b,.l,.i .i64])) k
abbrev _root_.Sx.T.qc18 (g:Nat) (l:List Value) (k:Sh.ty (.v (.o (.s)))→T):T:=.call true g l (.v (.o (.s))) k
abbrev _root_.Sx.T.qc19 (g:Nat) (l:List Value) (k:Sh.ty (.v (.o (.x)))→T):T:=.call false g l (.v (.o (.x))) k
abbrev _root_.Sx.T.qc20 (g:Nat) (l:List Value) (k:Sh.ty (.t [(.o (.l)),(.o (.l)),(.o (.b))])→T):T:=.call false g l (.t [(.o (.l)),(.o (.l)),(.o (.b))]) k
abbrev _root_.Sx.T.ql21 (a:Addr) (k:Sh1.ty (.o (.i .i64))→T):T:=.ld true a (.o (.i .i64)) k
abbrev _root_.Sx.T.qc22 (g:Nat) (l:List Value) (k:Sh.ty (.t [(.o (.l)),(.o (.b))])→T):T:=.call false g l (.t [(.o (.l)),(.o (.b))]) k
abbrev _root_.Sx.T.qc23 (g:Nat) (l:List Value) (k:Sh.ty (.v (.o (.i .i64)))→T):T:=.call true g l (.v (.o (.i .i64))) k
abbrev _root_.Sx.T.qc24 (g:Nat) (l:List Value) (k:Sh.ty (.v (.g [.b,.l]))→T):T:=.call false g l (.v (.g [.b,.l])) k
abbrev _root_.Sx.T.qc25 (g:Nat) (l:List Value) (k:Sh.ty (.v (.g [.b,.l]))→T):T:=.call true g l (.v (.g [.b,.l])) k
abbrev _root_.Sx.T.ql26 (a:Addr) (k:Sh1.ty (.g [.s,.b,.l])→T):T:=.ld false a (.g [.s,.b,.l]) k
abbrev _root_.Sx.T.ql27 (a:Addr) (k:Sh1.ty (.o (.l))→T):T:=.ld false a (.o (.l)) k
abbrev _root_.Sx.T.ql28 (a:Addr) (k:Sh1.ty (.g [.b,.l,.i .i64])→T):T:=.ld false a (.g [.b,.l,.i .i64]) k
abbrev _root_.Sx.T.ql29 (a:Addr) (k:Sh1.ty (.o (.l))→T):T:=.ld true a (.o (.l)) k
abbrev _root_.Sx.T.ql30 (a:Addr) (k:Sh1.ty (.g [.b,.l,.i .i64])→T):T:=.ld true a (.g [.b,.l,.i .i64]) k
abbrev _root_.Sx.T.ql31 (a:Addr) (k:Sh1.ty (.g [.s,.s,.b,.l,.i .i64])→T):T:=.ld false a (.g [.s,.s,.b,.l,.i .i64]) k
abbrev _root_.Sx.T.qc32 (g:Nat) (l:List Value) (k:Sh.ty (.v (.g [.s,.s,.i .i64,.i .i64]))→T):T:=.call false g l (.v (.g [.s,.s,.i .i64,.i .i64])) k
abbrev _root_.Sx.T.qc33 (g:Nat) (l:List Value) (k:Sh.ty (.t [(.o (.l)),(.o (.l))])→T):T:=.call false g l (.t [(.o (.l)),(.o (.l))]) k
abbrev _root_.Sx.T.qc34 (g:Nat) (l:List Value) (k:Sh.ty (.t [(.g [.b,.l]),(.g [.b,.l]),(.o (.i .i64))])→T):T:=.call false g l (.t [(.g [.b,.l]),(.g [.b,.l]),(.o (.i .i64))]) k
abbrev _root_.Sx.T.qc35 (g:Nat) (l:List Value) (k:Sh.ty (.v (.g [.s,.f,.s,.f,.s,.f,.s,.f,.s,.f,.s,.f,.s,.f]))→T):T:=.call false g l (.v (.g [.s,.f,.s,.f,.s,.f,.s,.f,.s,.f,.s,.f,.s,.f])) k
abbrev _root_.Sx.T.qc36 (g:Nat) (l:List Value) (k:Sh.ty (.t [(.o (.i .i64)),(.o (.e))])→T):T:=.call false g l (.t [(.o (.i .i64)),(.o (.e))]) k
abbrev _root_.Sx.T.ql37 (a:Addr) (k:Sh1.ty (.g [.s,.s,.i .i64,.i .i64])→T):T:=.ld false a (.g [.s,.s,.i .i64,.i .i64]) k
abbrev _root_.Sx.T.qc38 (g:Nat) (l:List Value) (k:Sh.ty (.v (.o (.l)))→T):T:=.call true g l (.v (.o (.l))) k
abbrev _root_.Sx.T.qc39 (g:Nat) (l:List Value) (k:Sh.ty (.t [(.o (.l)),(.o (.i .i64))])→T):T:=.call false g l (.t [(.o (.l)),(.o (.i .i64))]) k
abbrev _root_.Sx.T.qc40 (g:Nat) (l:List Value) (k:Sh.ty (.v (.o (.c)))→T):T:=.call false g l (.v (.o (.c))) k
abbrev _root_.Sx.T.qc41 (g:Nat) (l:List Value) (k:Sh.ty (.v (.o (.c)))→T):T:=.call true g l (.v (.o (.c))) k
abbrev _root_.Sx.T.qc42 (g:Nat) (l:List Value) (k:Sh.ty (.t [(.g [.s,.s,.i .i64,.i .i64]),(.o (.b))])→T):T:=.call false g l (.t [(.g [.s,.s,.i .i64,.i .i64]),(.o (.b))]) k
abbrev _root_.Sx.T.ql43 (a:Addr) (k:Sh1.ty (.o (.i .u8))→T):T:=.ld false a (.o (.i .u8)) k
abbrev _root_.Sx.T.ql44 (a:Addr) (k:Sh1.ty (.g [.s,.s,.i .i64,.i .i64,.s,.s,.i .i64,.i .i64,.s,.s,.i .i64,.i .i64,.s,.s,.i .i64,.i .i64,.s,.s,.i .i64,.i .i64,.s,.s,.i .i64,.i .i64,.s,.s,.i .i64,.i .i64,.s,.s,.i .i64,.i .i64,.s,.s,.i .i64,.i .i64,.s,.s,.i .i64,.i .i64,.s,.s,.i .i64,.i .i64,.s,.s,.i .i64,.i .i64,.s,.s,.i .i64,.i .i64,.s,.s,.i .i64,.i .i64,.s,.s,.i .i64,.i .i64,.s,.s,.i .i64,.i .i64,.s,.s,.i .i64,.i .i64,.s,.s,.i .i64,.i .i64,.s,.s,.i .i64,.i .i64,.s,.s,.i .i64,.i .i64])→T):T:=.ld false a (.g [.s,.s,.i .i64,.i .i64,.s,.s,.i .i64,.i .i64,.s,.s,.i .i64,.i .i64,.s,.s,.i .i64,.i .i64,.s,.s,.i .i64,.i .i64,.s,.s,.i .i64,.i .i64,.s,.s,.i .i64,.i .i64,.s,.s,.i .i64,.i .i64,.s,.s,.i .i64,.i .i64,.s,.s,.i .i64,.i .i64,.s,.s,.i .i64,.i .i64,.s,.s,.i .i64,.i .i64,.s,.s,.i .i64,.i .i64,.s,.s,.i .i64,.i .i64,.s,.s,.i .i64,.i .i64,.s,.s,.i .i64,.i .i64,.s,.s,.i .i64,.i .i64,.s,.s,.i .i64,.i .i64,.s,.s,.i .i64,.i .i64,.s,.s,.i .i64,.i .i64]) k
abbrev _root_.Sx.T.qc45 (g:Nat) (l:List Value) (k:Sh.ty (.t [])→T):T:=.call false g l (.t []) k
def tL_FnExactTextCmd (x0:ByteArray):T :=
 .br (decide ((↑x0.size:Int) > (1048576:Int))) (
  .rT) <|
 .qc0 4 [.string x0] fun y1 =>
 .qc0 5 [.string x0] fun y2 =>
 .qc1 6 [qv3 y2.1,qv3 y1.1] fun y3 =>
 .bF y3 <|
 .br (!y2.2.1 == y1.2.1) (
  .rF) <|
 .qc2 7 [qv3 y2.1,.int .i64 1] fun y4 =>
 .qc2 8 [qv3 y2.1,.int .i64 1] fun y5 =>
 .br (decide (y5<(0:Int))) (
  .rF) <|
 .br (y5 != y4) (
  .rF) <|
 .qc0 5 [.string x0] fun y6 =>
 .qc1 6 [qv3 y6.1,qv3 y1.1] fun y7 =>
 .bF y7 <|
 .br (!y6.2.1 == y1.2.1) (
  .rF) <|
 .qc2 8 [qv3 y2.1,.int .i64 1] fun y8 =>
 .br (decide (y8<(0:Int))) (
  .rF) <|
 .br (y8 != y4) (
  .rF) <|
 .rT
theorem fL_FnExactTextCmd x0:qft qa0 3 [.string x0] (tL_FnExactTextCmd x0) :=fitK (by kernel_rfl)
def aS_TextCmd:An:=⟨[(22,[.s 115,.c 6 0,.c 6 1,.c 6 2,.c 6 3,.c 6 4,.c 6 5,.c 6 6,.c 6 7,.c 6 8,.c 6 9,.c 6 10,.c 6 11,.c 6 12,.c 6 13,.c 6 14,.c 6 15,.c 6 16,.c 6 17,.c 6 18],[.o (.o (.i .i64)),.o (.o (.i .i64)),.o (.o (.s)),.o (.o (.s)),.o (.o (.s)),.o (.o (.s)),.o (.o (.s)),.o (.o (.b)),.o (.o (.l)),.o (.o (.i .i64)),.o (.o (.l)),.o (.o (.l)),.o (.o (.b)),.o (.o (.l)),.o (.o (.i .i64)),.o (.o (.s)),.o (.o (.s)),.o (.o (.b)),.o (.o (.l)),.o (.o (.i .i64))])],[(7,[.s 5,.c 6 0,.c 6 1,.c 6 2,.c 6 3,.c 6 4,.c 6 5,.c 6 6,.c 6 7,.c 6 8,.c 6 9,.c 6 10,.c 6 11,.c 6 12,.c 6 13,.c 6 14,.c 6 15,.c 6 16,.c 6 17,.c 6 18],[.o (.o (.l)),.o (.o (.i .i64)),.o (.o (.s)),.o (.o (.s)),.o (.o (.s)),.o (.o (.s)),.o (.o (.s)),.o (.o (.b)),.o (.o (.l)),.o (.o (.i .i64)),.o (.o (.l)),.o (.o (.l)),.o (.o (.b)),.o (.o (.l)),.o (.o (.i .i64)),.o (.o (.s)),.o (.o (.s)),.o (.o (.b)),.o (.o (.l)),.o (.o (.i .i64))]),(9,[.s 5,.c 6 0,.c 6 1,.c 6 2,.c 6 3,.c 6 4,.c 6 5,.c 6 6,.c 6 7,.c 6 8,.c 6 9,.c 6 10,.c 6 11,.c 6 12,.c 6 13,.c 6 14,.c 6 15,.c 6 16,.c 6 17,.c 6 18],[.o (.o (.l)),.o (.o (.i .i64)),.o (.o (.s)),.o (.o (.s)),.o (.o (.s)),.o (.o (.s)),.o (.o (.s)),.o (.o (.b)),.o (.o (.l)),.o (.o (.i .i64)),.o (.o (.l)),.o (.o (.l)),.o (.o (.b)),.o (.o (.l)),.o (.o (.i .i64)),.o (.o (.s)),.o (.o (.s)),.o (.o (.b)),.o (.o (.l)),.o (.o (.i .i64))]),(11,[.s 5,.c 6 0,.c 6 1,.c 6 2,.c 6 3,.c 6 4,.c 6 5,.c 6 6,.c 6 7,.c 6 8,.c 6 9,.c 6 10,.c 6 11,.c 6 12,.c 6 13,.c 6 14,.c 6 15,.c 6 16,.c 6 17,.c 6 18],[.o (.o (.l)),.o (.o (.i .i64)),.o (.o (.s)),.o (.o (.s)),.o (.o (.s)),.o (.o (.s)),.o (.o (.s)),.o (.o (.b)),.o (.o (.l)),.o (.o (.i .i64)),.o (.o (.l)),.o (.o (.l)),.o (.o (.b)),.o (.o (.l)),.o (.o (.i .i64)),.o (.o (.s)),.o (.o (.s)),.o (.o (.b)),.o (.o (.l)),.o (.o (.i .i64))]),(13,[.s 5,.c 6 0,.c 6 1,.c 6 2,.c 6 3,.c 6 4,.c 6 5,.c 6 6,.c 6 7,.c 6 8,.c 6 9,.c 6 10,.c 6 11,.c 6 12,.c 6 13,.c 6 14,.c 6 15,.c 6 16,.c 6 17,.c 6 18],[.o (.o (.l)),.o (.o (.i .i64)),.o (.o (.s)),.o (.o (.s)),.o (.o (.s)),.o (.o (.s)),.o (.o (.s)),.o (.o (.b)),.o (.o (.l)),.o (.o (.i .i64)),.o (.o (.l)),.o (.o (.l)),.o (.o (.b)),.o (.o (.l)),.o (.o (.i .i64)),.o (.o (.s)),.o (.o (.s)),.o (.o (.b)),.o (.o (.l)),.o (.o (.i .i64))]),(18,[.s 5,.c 6 0,.c 6 1,.c 6 2,.c 6 3,.c 6 4,.c 6 5,.c 6 6,.c 6 7,.c 6 8,.c 6 9,.c 6 10,.c 6 11,.c 6 12,.c 6 13,.c 6 14,.c 6 15,.c 6 16,.c 6 17,.c 6 18],[.o (.o (.l)),.o (.o (.i .i64)),.o (.o (.s)),.o (.o (.s)),.o (.o (.s)),.o (.o (.s)),.o (.o (.s)),.o (.o (.b)),.o (.o (.l)),.o (.o (.i .i64)),.o (.o (.l)),.o (.o (.l)),.o (.o (.b)),.o (.o (.l)),.o (.o (.i .i64)),.o (.o (.s)),.o (.o (.s)),.o (.o (.b)),.o (.o (.l)),.o (.o (.i .i64))]),(29,[.s 5,.c 6 0,.c 6 1,.c 6 2,.c 6 3,.c 6 4,.c 6 5,.c 6 6,.c 6 7,.c 6 8,.c 6 9,.c 6 10,.c 6 11,.c 6 12,.c 6 13,.c 6 14,.c 6 15,.c 6 16,.c 6 17,.c 6 18],[.o (.o (.l)),.o (.o (.i .i64)),.o (.o (.s)),.o (.o (.s)),.o (.o (.s)),.o (.o (.s)),.o (.o (.s)),.o (.o (.b)),.o (.o (.l)),.o (.o (.i .i64)),.o (.o (.l)),.o (.o (.l)),.o (.o (.b)),.o (.o (.l)),.o (.o (.i .i64)),.o (.o (.s)),.o (.o (.s)),.o (.o (.b)),.o (.o (.l)),.o (.o (.i .i64))]),(33,[.s 5,.c 6 0,.c 6 1,.c 6 2,.c 6 3,.c 6 4,.c 6 5,.c 6 6,.c 6 7,.c 6 8,.c 6 9,.c 6 10,.c 6 11,.c 6 12,.c 6 13,.c 6 14,.c 6 15,.c 6 16,.c 6 17,.c 6 18],[.o (.o (.l)),.o (.o (.i .i64)),.o (.o (.s)),.o (.o (.s)),.o (.o (.s)),.o (.o (.s)),.o (.o (.s)),.o (.o (.b)),.o (.o (.l)),.o (.o (.i .i64)),.o (.o (.l)),.o (.o (.l)),.o (.o (.b)),.o (.o (.l)),.o (.o (.i .i64)),.o (.o (.s)),.o (.o (.s)),.o (.o (.b)),.o (.o (.l)),.o (.o (.i .i64))]),(36,[.c 6 0,.c 6 1,.c 6 2,.c 6 3,.c 6 4,.c 6 5,.c 6 6,.c 6 7,.c 6 8,.c 6 9,.c 6 10,.c 6 11,.c 6 12,.c 6 13,.c 6 14,.c 6 15,.c 6 16,.c 6 17,.c 6 18],[.o (.o (.i .i64)),.o (.o (.s)),.o (.o (.s)),.o (.o (.s)),.o (.o (.s)),.o (.o (.s)),.o (.o (.b)),.o (.o (.l)),.o (.o (.i .i64)),.o (.o (.l)),.o (.o (.l)),.o (.o (.b)),.o (.o (.l)),.o (.o (.i .i64)),.o (.o (.s)),.o (.o (.s)),.o (.o (.b)),.o (.o (.l)),.o (.o (.i .i64))])],[]⟩
def tS_TextCmd (x0:ByteArray):T :=
 .qc3 10 [.string x0] fun y1 =>
 .qc4 9 [Sc.val .l y1] fun y2 =>
 .qc2 11 [.string y2.1] fun y3 =>
 .qc5 12 [.int .i64 y3] fun y4 =>
 .jn [.o (.o (.l)),.o (.o (.i .i64)),.o (.o (.s)),.o (.o (.s)),.o (.o (.s)),.o (.o (.s)),.o (.o (.s)),.o (.o (.b)),.o (.o (.l)),.o (.o (.i .i64)),.o (.o (.l)),.o (.o (.l)),.o (.o (.b)),.o (.o (.l)),.o (.o (.i .i64)),.o (.o (.s)),.o (.o (.s)),.o (.o (.b)),.o (.o (.l)),.o (.o (.i .i64))] (fun y5 =>
  .jn [.o (.o (.l)),.o (.o (.i .i64)),.o (.o (.s)),.o (.o (.s)),.o (.o (.s)),.o (.o (.s)),.o (.o (.s)),.o (.o (.b)),.o (.o (.l)),.o (.o (.i .i64)),.o (.o (.l)),.o (.o (.l)),.o (.o (.b)),.o (.o (.l)),.o (.o (.i .i64)),.o (.o (.s)),.o (.o (.s)),.o (.o (.b)),.o (.o (.l)),.o (.o (.i .i64))] (fun y6 =>
   .jn [.o (.o (.l)),.o (.o (.i .i64)),.o (.o (.s)),.o (.o (.s)),.o (.o (.s)),.o (.o (.s)),.o (.o (.s)),.o (.o (.b)),.o (.o (.l)),.o (.o (.i .i64)),.o (.o (.l)),.o (.o (.l)),.o (.o (.b)),.o (.o (.l)),.o (.o (.i .i64)),.o (.o (.s)),.o (.o (.s)),.o (.o (.b)),.o (.o (.l)),.o (.o (.i .i64))] (fun y7 =>
    .jn [.o (.o (.l)),.o (.o (.i .i64)),.o (.o (.s)),.o (.o (.s)),.o (.o (.s)),.o (.o (.s)),.o (.o (.s)),.o (.o (.b)),.o (.o (.l)),.o (.o (.i .i64)),.o (.o (.l)),.o (.o (.l)),.o (.o (.b)),.o (.o (.l)),.o (.o (.i .i64)),.o (.o (.s)),.o (.o (.s)),.o (.o (.b)),.o (.o (.l)),.o (.o (.i .i64))] (fun y8 =>
     .jn [.o (.o (.l)),.o (.o (.i .i64)),.o (.o (.s)),.o (.o (.s)),.o (.o (.s)),.o (.o (.s)),.o (.o (.s)),.o (.o (.b)),.o (.o (.l)),.o (.o (.i .i64)),.o (.o (.l)),.o (.o (.l)),.o (.o (.b)),.o (.o (.l)),.o (.o (.i .i64)),.o (.o (.s)),.o (.o (.s)),.o (.o (.b)),.o (.o (.l)),.o (.o (.i .i64))] (fun y9 =>
      .jn [.o (.o (.l)),.o (.o (.i .i64)),.o (.o (.s)),.o (.o (.s)),.o (.o (.s)),.o (.o (.s)),.o (.o (.s)),.o (.o (.b)),.o (.o (.l)),.o (.o (.i .i64)),.o (.o (.l)),.o (.o (.l)),.o (.o (.b)),.o (.o (.l)),.o (.o (.i .i64)),.o (.o (.s)),.o (.o (.s)),.o (.o (.b)),.o (.o (.l)),.o (.o (.i .i64))] (fun y10 =>
       .jn [.o (.o (.l)),.o (.o (.i .i64)),.o (.o (.s)),.o (.o (.s)),.o (.o (.s)),.o (.o (.s)),.o (.o (.s)),.o (.o (.b)),.o (.o (.l)),.o (.o (.i .i64)),.o (.o (.l)),.o (.o (.l)),.o (.o (.b)),.o (.o (.l)),.o (.o (.i .i64)),.o (.o (.s)),.o (.o (.s)),.o (.o (.b)),.o (.o (.l)),.o (.o (.i .i64))] (fun y11 =>
        .jn [.o (.o (.i .i64)),.o (.o (.s)),.o (.o (.s)),.o (.o (.s)),.o (.o (.s)),.o (.o (.s)),.o (.o (.b)),.o (.o (.l)),.o (.o (.i .i64)),.o (.o (.l)),.o (.o (.l)),.o (.o (.b)),.o (.o (.l)),.o (.o (.i .i64)),.o (.o (.s)),.o (.o (.s)),.o (.o (.b)),.o (.o (.l)),.o (.o (.i .i64))] (fun y12 =>
         .qc1 20 [qv3 y12] fun y13 =>
         .bn y13 (.ret [qv3 ((((0:Int)):Int),({ data:={ toList:=[]:Array UInt8 }:ByteArray }),({ data:={ toList:=[]:Array UInt8 }:ByteArray }),({ data:={ toList:=[]:Array UInt8 }:ByteArray }),({ data:={ toList:=[]:Array UInt8 }:ByteArray }),({ data:={ toList:=[]:Array UInt8 }:ByteArray }),(false),nilS,(((0:Int)):Int),nilS,nilS,(false),nilS,(((0:Int)):Int),({ data:={ toList:=[]:Array UInt8 }:ByteArray }),({ data:={ toList:=[]:Array UInt8 }:ByteArray }),(false),nilS,(((0:Int)):Int),()),.bool (false)]) <|
 .qc6 21 [qv3 y12] fun y14 =>
         .br (!y14.toList == x0.toList) (
          .ret [qv3 ((((0:Int)):Int),({ data:={ toList:=[]:Array UInt8 }:ByteArray }),({ data:={ toList:=[]:Array UInt8 }:ByteArray }),({ data:={ toList:=[]:Array UInt8 }:ByteArray }),({ data:={ toList:=[]:Array UInt8 }:ByteArray }),({ data:={ toList:=[]:Array UInt8 }:ByteArray }),(false),nilS,(((0:Int)):Int),nilS,nilS,(false),nilS,(((0:Int)):Int),({ data:={ toList:=[]:Array UInt8 }:ByteArray }),({ data:={ toList:=[]:Array UInt8 }:ByteArray }),(false),nilS,(((0:Int)):Int),()),.bool (false)]) <|
 .ret [qv3 y12,.bool (true)]) <|
 .br y4.2.2.2.1 (
         .qc4 9 [Sc.val .l y11.1] fun y12 =>
         .qc7 19 [.string y12.1] fun y13 =>
         .nx 7 [.v (.int .i64 y11.2.1),.v (.string y11.2.2.1),.v (.string y11.2.2.2.1),.v (.string y11.2.2.2.2.1),.v (.string y11.2.2.2.2.2.1),.v (.string y11.2.2.2.2.2.2.1),.v (.bool y11.2.2.2.2.2.2.2.1),.v (Sc.val .l y11.2.2.2.2.2.2.2.2.1),.v (.int .i64 y13.1),.v (Sc.val .l y11.2.2.2.2.2.2.2.2.2.2.1),.v (Sc.val .l y11.2.2.2.2.2.2.2.2.2.2.2.1),.v (.bool y11.2.2.2.2.2.2.2.2.2.2.2.2.1),.v (Sc.val .l y11.2.2.2.2.2.2.2.2.2.2.2.2.2.1),.v (.int .i64 y11.2.2.2.2.2.2.2.2.2.2.2.2.2.2.1),.v (.string y11.2.2.2.2.2.2.2.2.2.2.2.2.2.2.2.1),.v (.string y11.2.2.2.2.2.2.2.2.2.2.2.2.2.2.2.2.1),.v (.bool y11.2.2.2.2.2.2.2.2.2.2.2.2.2.2.2.2.2.1),.v (Sc.val .l y11.2.2.2.2.2.2.2.2.2.2.2.2.2.2.2.2.2.2.1),.v (.int .i64 y11.2.2.2.2.2.2.2.2.2.2.2.2.2.2.2.2.2.2.2.1)]) <|
 .nx 7 [.v (.int .i64 y11.2.1),.v (.string y11.2.2.1),.v (.string y11.2.2.2.1),.v (.string y11.2.2.2.2.1),.v (.string y11.2.2.2.2.2.1),.v (.string y11.2.2.2.2.2.2.1),.v (.bool y11.2.2.2.2.2.2.2.1),.v (Sc.val .l y11.2.2.2.2.2.2.2.2.1),.v (.int .i64 y11.2.2.2.2.2.2.2.2.2.1),.v (Sc.val .l y11.2.2.2.2.2.2.2.2.2.2.1),.v (Sc.val .l y11.2.2.2.2.2.2.2.2.2.2.2.1),.v (.bool y11.2.2.2.2.2.2.2.2.2.2.2.2.1),.v (Sc.val .l y11.2.2.2.2.2.2.2.2.2.2.2.2.2.1),.v (.int .i64 y11.2.2.2.2.2.2.2.2.2.2.2.2.2.2.1),.v (.string y11.2.2.2.2.2.2.2.2.2.2.2.2.2.2.2.1),.v (.string y11.2.2.2.2.2.2.2.2.2.2.2.2.2.2.2.2.1),.v (.bool y11.2.2.2.2.2.2.2.2.2.2.2.2.2.2.2.2.2.1),.v (Sc.val .l y11.2.2.2.2.2.2.2.2.2.2.2.2.2.2.2.2.2.2.1),.v (.int .i64 y11.2.2.2.2.2.2.2.2.2.2.2.2.2.2.2.2.2.2.2.1)]) <|
 .br y4.2.1 (
        .qc4 9 [Sc.val .l y10.1] fun y11 =>
        .qc8 18 [.string y11.1] fun y12 =>
        .nx 6 [.v (Sc.val .l y11.2.1),.v (.int .i64 y10.2.1),.v (.string y10.2.2.1),.v (.string y10.2.2.2.1),.v (.string y10.2.2.2.2.1),.v (.string y10.2.2.2.2.2.1),.v (.string y10.2.2.2.2.2.2.1),.v (.bool y10.2.2.2.2.2.2.2.1),.v (Sc.val .l y10.2.2.2.2.2.2.2.2.1),.v (.int .i64 y10.2.2.2.2.2.2.2.2.2.1),.v (Sc.val .l y10.2.2.2.2.2.2.2.2.2.2.1),.v (Sc.val .l y10.2.2.2.2.2.2.2.2.2.2.2.1),.v (.bool y12.1.1),.v (Sc.val .l y12.1.2.1),.v (.int .i64 y12.1.2.2.1),.v (.string y10.2.2.2.2.2.2.2.2.2.2.2.2.2.2.2.1),.v (.string y10.2.2.2.2.2.2.2.2.2.2.2.2.2.2.2.2.1),.v (.bool y10.2.2.2.2.2.2.2.2.2.2.2.2.2.2.2.2.2.1),.v (Sc.val .l y10.2.2.2.2.2.2.2.2.2.2.2.2.2.2.2.2.2.2.1),.v (.int .i64 y10.2.2.2.2.2.2.2.2.2.2.2.2.2.2.2.2.2.2.2.1)]) <|
 .nx 6 [.v (Sc.val .l y10.1),.v (.int .i64 y10.2.1),.v (.string y10.2.2.1),.v (.string y10.2.2.2.1),.v (.string y10.2.2.2.2.1),.v (.string y10.2.2.2.2.2.1),.v (.string y10.2.2.2.2.2.2.1),.v (.bool y10.2.2.2.2.2.2.2.1),.v (Sc.val .l y10.2.2.2.2.2.2.2.2.1),.v (.int .i64 y10.2.2.2.2.2.2.2.2.2.1),.v (Sc.val .l y10.2.2.2.2.2.2.2.2.2.2.1),.v (Sc.val .l y10.2.2.2.2.2.2.2.2.2.2.2.1),.v (.bool y10.2.2.2.2.2.2.2.2.2.2.2.2.1),.v (Sc.val .l y10.2.2.2.2.2.2.2.2.2.2.2.2.2.1),.v (.int .i64 y10.2.2.2.2.2.2.2.2.2.2.2.2.2.2.1),.v (.string y10.2.2.2.2.2.2.2.2.2.2.2.2.2.2.2.1),.v (.string y10.2.2.2.2.2.2.2.2.2.2.2.2.2.2.2.2.1),.v (.bool y10.2.2.2.2.2.2.2.2.2.2.2.2.2.2.2.2.2.1),.v (Sc.val .l y10.2.2.2.2.2.2.2.2.2.2.2.2.2.2.2.2.2.2.1),.v (.int .i64 y10.2.2.2.2.2.2.2.2.2.2.2.2.2.2.2.2.2.2.2.1)]) <|
 .br (y9.2.1 == (6:Int)) (
       .qc4 9 [Sc.val .l y9.1] fun y10 =>
       .qc3 16 [.string y10.1,.string ({ data:={ toList:=[(44:UInt8)]:Array UInt8 }:ByteArray })] fun y11 =>
       .lp [.o (.o (.i .i64)),.o (.o (.i .i64)),.o (.o (.s)),.o (.o (.s)),.o (.o (.s)),.o (.o (.s)),.o (.o (.s)),.o (.o (.b)),.o (.o (.l)),.o (.o (.i .i64)),.o (.o (.l)),.o (.o (.l)),.o (.o (.b)),.o (.o (.l)),.o (.o (.i .i64)),.o (.o (.s)),.o (.o (.s)),.o (.o (.b)),.o (.o (.l)),.o (.o (.i .i64))] [.v (.int .i64 0),.v (.int .i64 y9.2.1),.v (.string y9.2.2.1),.v (.string y9.2.2.2.1),.v (.string y9.2.2.2.2.1),.v (.string y9.2.2.2.2.2.1),.v (.string y9.2.2.2.2.2.2.1),.v (.bool y9.2.2.2.2.2.2.2.1),.v (Sc.val .l y9.2.2.2.2.2.2.2.2.1),.v (.int .i64 y9.2.2.2.2.2.2.2.2.2.1),.v (Sc.val .l y9.2.2.2.2.2.2.2.2.2.2.1),.v (Sc.val .l y9.2.2.2.2.2.2.2.2.2.2.2.1),.v (.bool y9.2.2.2.2.2.2.2.2.2.2.2.2.1),.v (Sc.val .l y9.2.2.2.2.2.2.2.2.2.2.2.2.2.1),.v (.int .i64 y9.2.2.2.2.2.2.2.2.2.2.2.2.2.2.1),.v (.string y9.2.2.2.2.2.2.2.2.2.2.2.2.2.2.2.1),.v (.string y9.2.2.2.2.2.2.2.2.2.2.2.2.2.2.2.2.1),.v (.bool y9.2.2.2.2.2.2.2.2.2.2.2.2.2.2.2.2.2.1),.v (Sc.val .l y9.2.2.2.2.2.2.2.2.2.2.2.2.2.2.2.2.2.2.1),.v (.int .i64 y9.2.2.2.2.2.2.2.2.2.2.2.2.2.2.2.2.2.2.2.1)] fun y12 =>
       .br (decide (y12.1<(↑y11.n:Int))) (
        .el y11.1 (y11.n) y12.1 fun y13 =>
        .ql9 (y13.add (Int.toNat y12.1*(1:Nat))) fun y14 =>
        .qc3 16 [.string y14,.string ({ data:={ toList:=[(58:UInt8)]:Array UInt8 }:ByteArray })] fun y15 =>
        .rq ([Value.string { data:={ toList:=[]:Array UInt8 }:ByteArray }].length=(1:Nat)*(1:Nat)) <|
 .rq (one [Value.string { data:={ toList:=[]:Array UInt8 }:ByteArray }]=true) <|
 .ap ({ a:=y15.1,n:=y15.n,c:=y15.c:SlV }) 1 16 [.string ({ data:={ toList:=[]:Array UInt8 }:ByteArray })] ((1:Nat)) 9 fun y16 =>
        .el y16.1 (y16.n) ((1:Int)) fun y17 =>
        .ql9 (y17.add (Int.toNat (1:Int)*(1:Nat))) fun y18 =>
        .qc7 17 [.string y18] fun y19 =>
        .rg <|
 .el y16.1 (y16.n) ((0:Int)) fun y20 =>
        .ql10 (y20.add (Int.toNat (0:Int)*(1:Nat))) fun y21 =>
        .rq ([Value.string y21].length=(1:Nat)*(1:Nat)) <|
 .rq (one [Value.string y21]=true) <|
 .ap ({ a:=y12.2.2.2.2.2.2.2.2.2.2.1.1,n:=y12.2.2.2.2.2.2.2.2.2.2.1.n,c:=y12.2.2.2.2.2.2.2.2.2.2.1.c:SlV }) 1 16 [.string y21] ((1:Nat)) 9 fun y22 =>
        .rq ([Value.int IntKind.i64 y19.1].length=(1:Nat)*(1:Nat)) <|
 .rq (one [Value.int IntKind.i64 y19.1]=true) <|
 .ap ({ a:=y12.2.2.2.2.2.2.2.2.2.2.2.1.1,n:=y12.2.2.2.2.2.2.2.2.2.2.2.1.n,c:=y12.2.2.2.2.2.2.2.2.2.2.2.1.c:SlV }) 1 8 [.int .i64 y19.1] ((1:Nat)) 3 fun y23 =>
        .nx 6 [.v (.int .i64 (IntKind.i64.wrap (y12.1+(1:Int)))),.v (.int .i64 y12.2.1),.v (.string y12.2.2.1),.v (.string y12.2.2.2.1),.v (.string y12.2.2.2.2.1),.v (.string y12.2.2.2.2.2.1),.v (.string y12.2.2.2.2.2.2.1),.v (.bool y12.2.2.2.2.2.2.2.1),.v (Sc.val .l y12.2.2.2.2.2.2.2.2.1),.v (.int .i64 y12.2.2.2.2.2.2.2.2.2.1),.v (Sc.val .l y22),.v (Sc.val .l y23),.v (.bool y12.2.2.2.2.2.2.2.2.2.2.2.2.1),.v (Sc.val .l y12.2.2.2.2.2.2.2.2.2.2.2.2.2.1),.v (.int .i64 y12.2.2.2.2.2.2.2.2.2.2.2.2.2.2.1),.v (.string y12.2.2.2.2.2.2.2.2.2.2.2.2.2.2.2.1),.v (.string y12.2.2.2.2.2.2.2.2.2.2.2.2.2.2.2.2.1),.v (.bool y12.2.2.2.2.2.2.2.2.2.2.2.2.2.2.2.2.2.1),.v (Sc.val .l y12.2.2.2.2.2.2.2.2.2.2.2.2.2.2.2.2.2.2.1),.v (.int .i64 y12.2.2.2.2.2.2.2.2.2.2.2.2.2.2.2.2.2.2.2.1)]) <|
 .nx 5 [.v (Sc.val .l y10.2.1),.v (.int .i64 y12.2.1),.v (.string y12.2.2.1),.v (.string y12.2.2.2.1),.v (.string y12.2.2.2.2.1),.v (.string y12.2.2.2.2.2.1),.v (.string y12.2.2.2.2.2.2.1),.v (.bool y12.2.2.2.2.2.2.2.1),.v (Sc.val .l y12.2.2.2.2.2.2.2.2.1),.v (.int .i64 y12.2.2.2.2.2.2.2.2.2.1),.v (Sc.val .l y12.2.2.2.2.2.2.2.2.2.2.1),.v (Sc.val .l y12.2.2.2.2.2.2.2.2.2.2.2.1),.v (.bool y12.2.2.2.2.2.2.2.2.2.2.2.2.1),.v (Sc.val .l y12.2.2.2.2.2.2.2.2.2.2.2.2.2.1),.v (.int .i64 y12.2.2.2.2.2.2.2.2.2.2.2.2.2.2.1),.v (.string y12.2.2.2.2.2.2.2.2.2.2.2.2.2.2.2.1),.v (.string y12.2.2.2.2.2.2.2.2.2.2.2.2.2.2.2.2.1),.v (.bool y12.2.2.2.2.2.2.2.2.2.2.2.2.2.2.2.2.2.1),.v (Sc.val .l y12.2.2.2.2.2.2.2.2.2.2.2.2.2.2.2.2.2.2.1),.v (.int .i64 y12.2.2.2.2.2.2.2.2.2.2.2.2.2.2.2.2.2.2.2.1)]) <|
 .nx 5 [.v (Sc.val .l y9.1),.v (.int .i64 y9.2.1),.v (.string y9.2.2.1),.v (.string y9.2.2.2.1),.v (.string y9.2.2.2.2.1),.v (.string y9.2.2.2.2.2.1),.v (.string y9.2.2.2.2.2.2.1),.v (.bool y9.2.2.2.2.2.2.2.1),.v (Sc.val .l y9.2.2.2.2.2.2.2.2.1),.v (.int .i64 y9.2.2.2.2.2.2.2.2.2.1),.v (Sc.val .l y9.2.2.2.2.2.2.2.2.2.2.1),.v (Sc.val .l y9.2.2.2.2.2.2.2.2.2.2.2.1),.v (.bool y9.2.2.2.2.2.2.2.2.2.2.2.2.1),.v (Sc.val .l y9.2.2.2.2.2.2.2.2.2.2.2.2.2.1),.v (.int .i64 y9.2.2.2.2.2.2.2.2.2.2.2.2.2.2.1),.v (.string y9.2.2.2.2.2.2.2.2.2.2.2.2.2.2.2.1),.v (.string y9.2.2.2.2.2.2.2.2.2.2.2.2.2.2.2.2.1),.v (.bool y9.2.2.2.2.2.2.2.2.2.2.2.2.2.2.2.2.2.1),.v (Sc.val .l y9.2.2.2.2.2.2.2.2.2.2.2.2.2.2.2.2.2.2.1),.v (.int .i64 y9.2.2.2.2.2.2.2.2.2.2.2.2.2.2.2.2.2.2.2.1)]) <|
 .br y4.2.2.1 (
      .qc4 9 [Sc.val .l y8.1] fun y9 =>
      .qc4 9 [Sc.val .l y9.2.1] fun y10 =>
      .rq (ByteArray.size y9.1+{ data:={ toList:=[(32:UInt8)]:Array UInt8 }:ByteArray }.size≤(9223372036854775807:Nat)) <|
 .rq ((y9.1++{ data:={ toList:=[(32:UInt8)]:Array UInt8 }:ByteArray }).size+ByteArray.size y10.1≤(9223372036854775807:Nat)) <|
 .qc11 15 [.string (y9.1++{ data:={ toList:=[(32:UInt8)]:Array UInt8 }:ByteArray }++y10.1)] fun y11 =>
      .nx 4 [.v (Sc.val .l y10.2.1),.v (.int .i64 y8.2.1),.v (.string y8.2.2.1),.v (.string y8.2.2.2.1),.v (.string y8.2.2.2.2.1),.v (.string y8.2.2.2.2.2.1),.v (.string y11.1.1),.v (.bool y11.1.2.1),.v (Sc.val .l y11.1.2.2.1),.v (.int .i64 y8.2.2.2.2.2.2.2.2.2.1),.v (Sc.val .l y8.2.2.2.2.2.2.2.2.2.2.1),.v (Sc.val .l y8.2.2.2.2.2.2.2.2.2.2.2.1),.v (.bool y8.2.2.2.2.2.2.2.2.2.2.2.2.1),.v (Sc.val .l y8.2.2.2.2.2.2.2.2.2.2.2.2.2.1),.v (.int .i64 y8.2.2.2.2.2.2.2.2.2.2.2.2.2.2.1),.v (.string y8.2.2.2.2.2.2.2.2.2.2.2.2.2.2.2.1),.v (.string y8.2.2.2.2.2.2.2.2.2.2.2.2.2.2.2.2.1),.v (.bool y8.2.2.2.2.2.2.2.2.2.2.2.2.2.2.2.2.2.1),.v (Sc.val .l y8.2.2.2.2.2.2.2.2.2.2.2.2.2.2.2.2.2.2.1),.v (.int .i64 y8.2.2.2.2.2.2.2.2.2.2.2.2.2.2.2.2.2.2.2.1)]) <|
 .nx 4 [.v (Sc.val .l y8.1),.v (.int .i64 y8.2.1),.v (.string y8.2.2.1),.v (.string y8.2.2.2.1),.v (.string y8.2.2.2.2.1),.v (.string y8.2.2.2.2.2.1),.v (.string y8.2.2.2.2.2.2.1),.v (.bool y8.2.2.2.2.2.2.2.1),.v (Sc.val .l y8.2.2.2.2.2.2.2.2.1),.v (.int .i64 y8.2.2.2.2.2.2.2.2.2.1),.v (Sc.val .l y8.2.2.2.2.2.2.2.2.2.2.1),.v (Sc.val .l y8.2.2.2.2.2.2.2.2.2.2.2.1),.v (.bool y8.2.2.2.2.2.2.2.2.2.2.2.2.1),.v (Sc.val .l y8.2.2.2.2.2.2.2.2.2.2.2.2.2.1),.v (.int .i64 y8.2.2.2.2.2.2.2.2.2.2.2.2.2.2.1),.v (.string y8.2.2.2.2.2.2.2.2.2.2.2.2.2.2.2.1),.v (.string y8.2.2.2.2.2.2.2.2.2.2.2.2.2.2.2.2.1),.v (.bool y8.2.2.2.2.2.2.2.2.2.2.2.2.2.2.2.2.2.1),.v (Sc.val .l y8.2.2.2.2.2.2.2.2.2.2.2.2.2.2.2.2.2.2.1),.v (.int .i64 y8.2.2.2.2.2.2.2.2.2.2.2.2.2.2.2.2.2.2.2.1)]) <|
 .br (y7.2.1 == (1:Int)) (
     .qc4 9 [Sc.val .l y7.1] fun y8 =>
     .nx 3 [.v (Sc.val .l y8.2.1),.v (.int .i64 y7.2.1),.v (.string y7.2.2.1),.v (.string y7.2.2.2.1),.v (.string y7.2.2.2.2.1),.v (.string y8.1),.v (.string y7.2.2.2.2.2.2.1),.v (.bool y7.2.2.2.2.2.2.2.1),.v (Sc.val .l y7.2.2.2.2.2.2.2.2.1),.v (.int .i64 y7.2.2.2.2.2.2.2.2.2.1),.v (Sc.val .l y7.2.2.2.2.2.2.2.2.2.2.1),.v (Sc.val .l y7.2.2.2.2.2.2.2.2.2.2.2.1),.v (.bool y7.2.2.2.2.2.2.2.2.2.2.2.2.1),.v (Sc.val .l y7.2.2.2.2.2.2.2.2.2.2.2.2.2.1),.v (.int .i64 y7.2.2.2.2.2.2.2.2.2.2.2.2.2.2.1),.v (.string y7.2.2.2.2.2.2.2.2.2.2.2.2.2.2.2.1),.v (.string y7.2.2.2.2.2.2.2.2.2.2.2.2.2.2.2.2.1),.v (.bool y7.2.2.2.2.2.2.2.2.2.2.2.2.2.2.2.2.2.1),.v (Sc.val .l y7.2.2.2.2.2.2.2.2.2.2.2.2.2.2.2.2.2.2.1),.v (.int .i64 y7.2.2.2.2.2.2.2.2.2.2.2.2.2.2.2.2.2.2.2.1)]) <|
 .nx 3 [.v (Sc.val .l y7.1),.v (.int .i64 y7.2.1),.v (.string y7.2.2.1),.v (.string y7.2.2.2.1),.v (.string y7.2.2.2.2.1),.v (.string y7.2.2.2.2.2.1),.v (.string y7.2.2.2.2.2.2.1),.v (.bool y7.2.2.2.2.2.2.2.1),.v (Sc.val .l y7.2.2.2.2.2.2.2.2.1),.v (.int .i64 y7.2.2.2.2.2.2.2.2.2.1),.v (Sc.val .l y7.2.2.2.2.2.2.2.2.2.2.1),.v (Sc.val .l y7.2.2.2.2.2.2.2.2.2.2.2.1),.v (.bool y7.2.2.2.2.2.2.2.2.2.2.2.2.1),.v (Sc.val .l y7.2.2.2.2.2.2.2.2.2.2.2.2.2.1),.v (.int .i64 y7.2.2.2.2.2.2.2.2.2.2.2.2.2.2.1),.v (.string y7.2.2.2.2.2.2.2.2.2.2.2.2.2.2.2.1),.v (.string y7.2.2.2.2.2.2.2.2.2.2.2.2.2.2.2.2.1),.v (.bool y7.2.2.2.2.2.2.2.2.2.2.2.2.2.2.2.2.2.1),.v (Sc.val .l y7.2.2.2.2.2.2.2.2.2.2.2.2.2.2.2.2.2.2.1),.v (.int .i64 y7.2.2.2.2.2.2.2.2.2.2.2.2.2.2.2.2.2.2.2.1)]) <|
 .br y4.2.1 (
    .qc4 9 [Sc.val .l y6.1] fun y7 =>
    .nx 2 [.v (Sc.val .l y7.2.1),.v (.int .i64 y6.2.1),.v (.string y6.2.2.1),.v (.string y6.2.2.2.1),.v (.string y7.1),.v (.string y6.2.2.2.2.2.1),.v (.string y6.2.2.2.2.2.2.1),.v (.bool y6.2.2.2.2.2.2.2.1),.v (Sc.val .l y6.2.2.2.2.2.2.2.2.1),.v (.int .i64 y6.2.2.2.2.2.2.2.2.2.1),.v (Sc.val .l y6.2.2.2.2.2.2.2.2.2.2.1),.v (Sc.val .l y6.2.2.2.2.2.2.2.2.2.2.2.1),.v (.bool y6.2.2.2.2.2.2.2.2.2.2.2.2.1),.v (Sc.val .l y6.2.2.2.2.2.2.2.2.2.2.2.2.2.1),.v (.int .i64 y6.2.2.2.2.2.2.2.2.2.2.2.2.2.2.1),.v (.string y6.2.2.2.2.2.2.2.2.2.2.2.2.2.2.2.1),.v (.string y6.2.2.2.2.2.2.2.2.2.2.2.2.2.2.2.2.1),.v (.bool y6.2.2.2.2.2.2.2.2.2.2.2.2.2.2.2.2.2.1),.v (Sc.val .l y6.2.2.2.2.2.2.2.2.2.2.2.2.2.2.2.2.2.2.1),.v (.int .i64 y6.2.2.2.2.2.2.2.2.2.2.2.2.2.2.2.2.2.2.2.1)]) <|
 .nx 2 [.v (Sc.val .l y6.1),.v (.int .i64 y6.2.1),.v (.string y6.2.2.1),.v (.string y6.2.2.2.1),.v (.string y6.2.2.2.2.1),.v (.string y6.2.2.2.2.2.1),.v (.string y6.2.2.2.2.2.2.1),.v (.bool y6.2.2.2.2.2.2.2.1),.v (Sc.val .l y6.2.2.2.2.2.2.2.2.1),.v (.int .i64 y6.2.2.2.2.2.2.2.2.2.1),.v (Sc.val .l y6.2.2.2.2.2.2.2.2.2.2.1),.v (Sc.val .l y6.2.2.2.2.2.2.2.2.2.2.2.1),.v (.bool y6.2.2.2.2.2.2.2.2.2.2.2.2.1),.v (Sc.val .l y6.2.2.2.2.2.2.2.2.2.2.2.2.2.1),.v (.int .i64 y6.2.2.2.2.2.2.2.2.2.2.2.2.2.2.1),.v (.string y6.2.2.2.2.2.2.2.2.2.2.2.2.2.2.2.1),.v (.string y6.2.2.2.2.2.2.2.2.2.2.2.2.2.2.2.2.1),.v (.bool y6.2.2.2.2.2.2.2.2.2.2.2.2.2.2.2.2.2.1),.v (Sc.val .l y6.2.2.2.2.2.2.2.2.2.2.2.2.2.2.2.2.2.2.1),.v (.int .i64 y6.2.2.2.2.2.2.2.2.2.2.2.2.2.2.2.2.2.2.2.1)]) <|
 .br y4.1 (
   .qc4 9 [Sc.val .l y5.1] fun y6 =>
   .nx 1 [.v (Sc.val .l y6.2.1),.v (.int .i64 y5.2.1),.v (.string y5.2.2.1),.v (.string y6.1),.v (.string y5.2.2.2.2.1),.v (.string y5.2.2.2.2.2.1),.v (.string y5.2.2.2.2.2.2.1),.v (.bool y5.2.2.2.2.2.2.2.1),.v (Sc.val .l y5.2.2.2.2.2.2.2.2.1),.v (.int .i64 y5.2.2.2.2.2.2.2.2.2.1),.v (Sc.val .l y5.2.2.2.2.2.2.2.2.2.2.1),.v (Sc.val .l y5.2.2.2.2.2.2.2.2.2.2.2.1),.v (.bool y5.2.2.2.2.2.2.2.2.2.2.2.2.1),.v (Sc.val .l y5.2.2.2.2.2.2.2.2.2.2.2.2.2.1),.v (.int .i64 y5.2.2.2.2.2.2.2.2.2.2.2.2.2.2.1),.v (.string y5.2.2.2.2.2.2.2.2.2.2.2.2.2.2.2.1),.v (.string y5.2.2.2.2.2.2.2.2.2.2.2.2.2.2.2.2.1),.v (.bool y5.2.2.2.2.2.2.2.2.2.2.2.2.2.2.2.2.2.1),.v (Sc.val .l y5.2.2.2.2.2.2.2.2.2.2.2.2.2.2.2.2.2.2.1),.v (.int .i64 y5.2.2.2.2.2.2.2.2.2.2.2.2.2.2.2.2.2.2.2.1)]) <|
 .nx 1 [.v (Sc.val .l y5.1),.v (.int .i64 y5.2.1),.v (.string y5.2.2.1),.v (.string y5.2.2.2.1),.v (.string y5.2.2.2.2.1),.v (.string y5.2.2.2.2.2.1),.v (.string y5.2.2.2.2.2.2.1),.v (.bool y5.2.2.2.2.2.2.2.1),.v (Sc.val .l y5.2.2.2.2.2.2.2.2.1),.v (.int .i64 y5.2.2.2.2.2.2.2.2.2.1),.v (Sc.val .l y5.2.2.2.2.2.2.2.2.2.2.1),.v (Sc.val .l y5.2.2.2.2.2.2.2.2.2.2.2.1),.v (.bool y5.2.2.2.2.2.2.2.2.2.2.2.2.1),.v (Sc.val .l y5.2.2.2.2.2.2.2.2.2.2.2.2.2.1),.v (.int .i64 y5.2.2.2.2.2.2.2.2.2.2.2.2.2.2.1),.v (.string y5.2.2.2.2.2.2.2.2.2.2.2.2.2.2.2.1),.v (.string y5.2.2.2.2.2.2.2.2.2.2.2.2.2.2.2.2.1),.v (.bool y5.2.2.2.2.2.2.2.2.2.2.2.2.2.2.2.2.2.1),.v (Sc.val .l y5.2.2.2.2.2.2.2.2.2.2.2.2.2.2.2.2.2.2.1),.v (.int .i64 y5.2.2.2.2.2.2.2.2.2.2.2.2.2.2.2.2.2.2.2.1)]) <|
 .br (y3 == (9:Int)) (
  .qc6 14 [Sc.val .l y2.2.1,.string ({ data:={ toList:=[(32:UInt8)]:Array UInt8 }:ByteArray })] fun y5 =>
  .qc12 13 [.string y5] fun y6 =>
  .nx 0 [.v (Sc.val .l y2.2.1),.v (.int .i64 y3),.v (.string ({ data:={ toList:=[]:Array UInt8 }:ByteArray })),.v (.string ({ data:={ toList:=[]:Array UInt8 }:ByteArray })),.v (.string ({ data:={ toList:=[]:Array UInt8 }:ByteArray })),.v (.string ({ data:={ toList:=[]:Array UInt8 }:ByteArray })),.v (.string ({ data:={ toList:=[]:Array UInt8 }:ByteArray })),.v (.bool (false)),.v (.slice none 0 0),.v (.int .i64 0),.v (.slice none 0 0),.v (.slice none 0 0),.v (.bool (false)),.v (.slice none 0 0),.v (.int .i64 0),.v (.string y6.1.1),.v (.string y6.1.2.1),.v (.bool y6.1.2.2.1),.v (Sc.val .l y6.1.2.2.2.1),.v (.int .i64 y6.1.2.2.2.2.1)]) <|
 .qc4 9 [Sc.val .l y2.2.1] fun y5 =>
 .nx 0 [.v (Sc.val .l y5.2.1),.v (.int .i64 y3),.v (.string y5.1),.v (.string ({ data:={ toList:=[]:Array UInt8 }:ByteArray })),.v (.string ({ data:={ toList:=[]:Array UInt8 }:ByteArray })),.v (.string ({ data:={ toList:=[]:Array UInt8 }:ByteArray })),.v (.string ({ data:={ toList:=[]:Array UInt8 }:ByteArray })),.v (.bool (false)),.v (.slice none 0 0),.v (.int .i64 0),.v (.slice none 0 0),.v (.slice none 0 0),.v (.bool (false)),.v (.slice none 0 0),.v (.int .i64 0),.v (.string ({ data:={ toList:=[]:Array UInt8 }:ByteArray })),.v (.string ({ data:={ toList:=[]:Array UInt8 }:ByteArray })),.v (.bool (false)),.v (.slice none 0 0),.v (.int .i64 0)]
theorem fS_TextCmd x0:qft aS_TextCmd 4 [.string x0] (tS_TextCmd x0) :=fitK (by kernel_rfl)
def aI_TextCmd:An:=⟨[(5,[.s 4,.s 22],[.o (.o (.l)),.o (.o (.i .i64))])],[],[(2000005,[.s 5])]⟩
def tI_TextCmd (x0:ByteArray):T :=
 .qc3 22 [.string x0] fun y1 =>
 .el y1.1 (y1.n) ((0:Int)) fun y2 =>
 .ql9 (y2.add (Int.toNat (0:Int)*(1:Nat))) fun y3 =>
 .qc2 23 [.string y3] fun y4 =>
 .rq ((0:Int)≤(1:Int)∧(1:Int)≤(↑y1.n:Int)∧(↑y1.n:Int)≤(↑y1.c:Int)∧(↑y1.c:Int)≤(↑y1.c:Int)) <|
 .qc3 24 [.int .i64 y4] fun y5 =>
 .es [.int .i64 y4,.string ({ data:={ toList:=[]:Array UInt8 }:ByteArray }),.string ({ data:={ toList:=[]:Array UInt8 }:ByteArray }),.string ({ data:={ toList:=[]:Array UInt8 }:ByteArray }),.string ({ data:={ toList:=[]:Array UInt8 }:ByteArray }),.string ({ data:={ toList:=[]:Array UInt8 }:ByteArray }),.bool (false),.slice none 0 0,.int .i64 0,.slice none 0 0,.slice none 0 0,.bool (false),.slice none 0 0,.int .i64 0,.string ({ data:={ toList:=[]:Array UInt8 }:ByteArray }),.string ({ data:={ toList:=[]:Array UInt8 }:ByteArray }),.bool (false),.slice none 0 0,.int .i64 0] 33 fun b6 =>
 .lp [.o (.o (.l)),.o (.o (.i .i64))] [.v (.slice (if (↑y1.c:Int).toNat=Int.toNat (1:Int) then y1.1 else Option.map (fun x=>x.add (Int.toNat (1:Int)*Go.Proofs.Tryz.prog.types[(9:Nat)].size)) y1.1) ((↑y1.n:Int).toNat-Int.toNat (1:Int)) ((↑y1.c:Int).toNat-Int.toNat (1:Int))),.v (.int .i64 0)] fun y7 =>
 .br (decide (y7.2.1<(↑y5.n:Int))) (
  .el y5.1 (y5.n) y7.2.1 fun y8 =>
  .ql13 (y8.add (Int.toNat y7.2.1*(1:Nat))) fun y9 =>
  .qc2 25 [.int .i64 y9] fun y10 =>
  .br (decide ((↑y7.1.n:Int)<y10)) (
   .ret [qv3 ((((0:Int)):Int),({ data:={ toList:=[]:Array UInt8 }:ByteArray }),({ data:={ toList:=[]:Array UInt8 }:ByteArray }),({ data:={ toList:=[]:Array UInt8 }:ByteArray }),({ data:={ toList:=[]:Array UInt8 }:ByteArray }),({ data:={ toList:=[]:Array UInt8 }:ByteArray }),(false),nilS,(((0:Int)):Int),nilS,nilS,(false),nilS,(((0:Int)):Int),({ data:={ toList:=[]:Array UInt8 }:ByteArray }),({ data:={ toList:=[]:Array UInt8 }:ByteArray }),(false),nilS,(((0:Int)):Int),()),.bool (false)]) <|
 .rq ((0:Int)≤(0:Int)∧(0:Int)≤y10∧y10≤(↑y7.1.c:Int)∧(↑y7.1.c:Int)≤(↑y7.1.c:Int)) <|
 .qc6 27 [.slice (if (↑y7.1.c:Int).toNat=Int.toNat (0:Int) then y7.1.1 else Option.map (fun x=>x.add (Int.toNat (0:Int)*Go.Proofs.Tryz.prog.types[(9:Nat)].size)) y7.1.1) (y10.toNat-Int.toNat (0:Int)) ((↑y7.1.c:Int).toNat-Int.toNat (0:Int)),.string ({ data:={ toList:=[(32:UInt8)]:Array UInt8 }:ByteArray })] fun y11 =>
  .qc1 26 [.pointer (some { block:=b6,off:=(0:Nat):Addr }),.string y11,.int .i64 y9] fun y12 =>
  .bn y12 (.ret [qv3 ((((0:Int)):Int),({ data:={ toList:=[]:Array UInt8 }:ByteArray }),({ data:={ toList:=[]:Array UInt8 }:ByteArray }),({ data:={ toList:=[]:Array UInt8 }:ByteArray }),({ data:={ toList:=[]:Array UInt8 }:ByteArray }),({ data:={ toList:=[]:Array UInt8 }:ByteArray }),(false),nilS,(((0:Int)):Int),nilS,nilS,(false),nilS,(((0:Int)):Int),({ data:={ toList:=[]:Array UInt8 }:ByteArray }),({ data:={ toList:=[]:Array UInt8 }:ByteArray }),(false),nilS,(((0:Int)):Int),()),.bool (false)]) <|
 .rq ((0:Int)≤y10∧y10≤(↑y7.1.n:Int)∧(↑y7.1.n:Int)≤(↑y7.1.c:Int)∧(↑y7.1.c:Int)≤(↑y7.1.c:Int)) <|
 .nx 0 [.v (.slice (if (↑y7.1.c:Int).toNat=y10.toNat then y7.1.1 else Option.map (fun x=>x.add (y10.toNat*Go.Proofs.Tryz.prog.types[(9:Nat)].size)) y7.1.1) ((↑y7.1.n:Int).toNat-y10.toNat) ((↑y7.1.c:Int).toNat-y10.toNat)),.v (.int .i64 (IntKind.i64.wrap (y7.2.1+(1:Int))))]) <|
 .br (decide ((↑y7.1.n:Int) > (0:Int))) (
  .ret [qv3 ((((0:Int)):Int),({ data:={ toList:=[]:Array UInt8 }:ByteArray }),({ data:={ toList:=[]:Array UInt8 }:ByteArray }),({ data:={ toList:=[]:Array UInt8 }:ByteArray }),({ data:={ toList:=[]:Array UInt8 }:ByteArray }),({ data:={ toList:=[]:Array UInt8 }:ByteArray }),(false),nilS,(((0:Int)):Int),nilS,nilS,(false),nilS,(((0:Int)):Int),({ data:={ toList:=[]:Array UInt8 }:ByteArray }),({ data:={ toList:=[]:Array UInt8 }:ByteArray }),(false),nilS,(((0:Int)):Int),()),.bool (false)]) <|
 .ql14 ({ block:=b6,off:=(0:Nat):Addr }) fun y8 =>
 .qc1 28 [qv3 y8] fun y9 =>
 .bn y9 (.ret [qv3 ((((0:Int)):Int),({ data:={ toList:=[]:Array UInt8 }:ByteArray }),({ data:={ toList:=[]:Array UInt8 }:ByteArray }),({ data:={ toList:=[]:Array UInt8 }:ByteArray }),({ data:={ toList:=[]:Array UInt8 }:ByteArray }),({ data:={ toList:=[]:Array UInt8 }:ByteArray }),(false),nilS,(((0:Int)):Int),nilS,nilS,(false),nilS,(((0:Int)):Int),({ data:={ toList:=[]:Array UInt8 }:ByteArray }),({ data:={ toList:=[]:Array UInt8 }:ByteArray }),(false),nilS,(((0:Int)):Int),()),.bool (false)]) <|
 .ql14 ({ block:=b6,off:=(0:Nat):Addr }) fun y10 =>
 .ret [qv3 y10,.bool (true)]
theorem fI_TextCmd x0:qft aI_TextCmd 5 [.string x0] (tI_TextCmd x0) :=fitK (by kernel_rfl)
def tL_eqCmd (x0:qy3) (x1:qy3):T :=
 .br (x0.1 != x1.1) (
  .rF) <|
 .br (!ByteArray.toList x0.2.1 == ByteArray.toList x1.2.1) (
  .rF) <|
 .br (!ByteArray.toList x0.2.2.1 == ByteArray.toList x1.2.2.1) (
  .rF) <|
 .br (!ByteArray.toList x0.2.2.2.1 == ByteArray.toList x1.2.2.2.1) (
  .rF) <|
 .br (!ByteArray.toList x0.2.2.2.2.1 == ByteArray.toList x1.2.2.2.2.1) (
  .rF) <|
 .qc1 29 [qv2 (x0.2.2.2.2.2.1,x0.2.2.2.2.2.2.1,x0.2.2.2.2.2.2.2.1,()),qv2 (x1.2.2.2.2.2.1,x1.2.2.2.2.2.2.1,x1.2.2.2.2.2.2.2.1,())] fun y1 =>
 .bF y1 <|
 .br (x0.2.2.2.2.2.2.2.2.1 != x1.2.2.2.2.2.2.2.2.1) (
  .rF) <|
 .qc1 30 [Sc.val .l x0.2.2.2.2.2.2.2.2.2.1,Sc.val .l x1.2.2.2.2.2.2.2.2.2.1] fun y2 =>
 .bF y2 <|
 .qc1 31 [Sc.val .l x0.2.2.2.2.2.2.2.2.2.2.1,Sc.val .l x1.2.2.2.2.2.2.2.2.2.2.1] fun y3 =>
 .bF y3 <|
 .qc1 32 [qv0 (x0.2.2.2.2.2.2.2.2.2.2.2.1,x0.2.2.2.2.2.2.2.2.2.2.2.2.1,((x0.2.2.2.2.2.2.2.2.2.2.2.2.2.1):Int),()),qv0 (x1.2.2.2.2.2.2.2.2.2.2.2.1,x1.2.2.2.2.2.2.2.2.2.2.2.2.1,((x1.2.2.2.2.2.2.2.2.2.2.2.2.2.1):Int),())] fun y4 =>
 .bF y4 <|
 .qc1 33 [qv4 x0.2.2.2.2.2.2.2.2.2.2.2.2.2.2,qv4 x1.2.2.2.2.2.2.2.2.2.2.2.2.2.2] fun y5 =>
 .bF y5 <|
 .rT
theorem fL_eqCmd x0 x1:qft qa0 6 [qv3 x0,qv3 x1] (tL_eqCmd x0 x1) :=fitK (by kernel_rfl)
def tL_markCmd (x0:qy3) (x1:Int):T :=
 .qc2 34 [qv2 (x0.2.2.2.2.2.1,x0.2.2.2.2.2.2.1,x0.2.2.2.2.2.2.2.1,()),.int .i64 x1] fun y1 =>
 .qc2 35 [Sc.val .l x0.2.2.2.2.2.2.2.2.2.1,.int .i64 y1] fun y2 =>
 .qc2 36 [Sc.val .l x0.2.2.2.2.2.2.2.2.2.2.1,.int .i64 y2] fun y3 =>
 .qc2 37 [qv0 (x0.2.2.2.2.2.2.2.2.2.2.2.1,x0.2.2.2.2.2.2.2.2.2.2.2.2.1,((x0.2.2.2.2.2.2.2.2.2.2.2.2.2.1):Int),()),.int .i64 y3] fun y4 =>
 .qc2 38 [qv4 x0.2.2.2.2.2.2.2.2.2.2.2.2.2.2,.int .i64 y4] fun y5 =>
 .ret [.int .i64 y5]
theorem fL_markCmd x0 x1:qft qa0 7 [qv3 x0,.int .i64 x1] (tL_markCmd x0 x1) :=fitK (by kernel_rfl)
def tL_heldCmd (x0:qy3) (x1:Int):T :=
 .qc2 39 [qv2 (x0.2.2.2.2.2.1,x0.2.2.2.2.2.2.1,x0.2.2.2.2.2.2.2.1,()),.int .i64 x1] fun y1 =>
 .br (decide (y1<(0:Int))) (
  .rM) <|
 .qc2 40 [Sc.val .l x0.2.2.2.2.2.2.2.2.2.1,.int .i64 y1] fun y2 =>
 .br (decide (y2<(0:Int))) (
  .rM) <|
 .qc2 41 [Sc.val .l x0.2.2.2.2.2.2.2.2.2.2.1,.int .i64 y2] fun y3 =>
 .br (decide (y3<(0:Int))) (
  .rM) <|
 .qc2 42 [qv0 (x0.2.2.2.2.2.2.2.2.2.2.2.1,x0.2.2.2.2.2.2.2.2.2.2.2.2.1,((x0.2.2.2.2.2.2.2.2.2.2.2.2.2.1):Int),()),.int .i64 y3] fun y4 =>
 .br (decide (y4<(0:Int))) (
  .rM) <|
 .qc2 43 [qv4 x0.2.2.2.2.2.2.2.2.2.2.2.2.2.2,.int .i64 y4] fun y5 =>
 .br (decide (y5<(0:Int))) (
  .rM) <|
 .ret [.int .i64 y5]
theorem fL_heldCmd x0 x1:qft qa0 8 [qv3 x0,.int .i64 x1] (tL_heldCmd x0 x1) :=fitK (by kernel_rfl)
def tS_l22Take (x0:SlV):T :=
 .br ((↑x0.n:Int) == (0:Int)) (
  .ret [.string ({ data:={ toList:=[]:Array UInt8 }:ByteArray }),Sc.val .l x0]) <|
 .rg <|
 .el x0.1 (x0.n) ((0:Int)) fun y1 =>
 .ql10 (y1.add (Int.toNat (0:Int)*(1:Nat))) fun y2 =>
 .rq ((0:Int)≤(1:Int)∧(1:Int)≤(↑x0.n:Int)∧(↑x0.n:Int)≤(↑x0.c:Int)∧(↑x0.c:Int)≤(↑x0.c:Int)) <|
 .ret [.string y2,.slice (if (↑x0.c:Int).toNat=Int.toNat (1:Int) then x0.1 else Option.map (fun x=>x.add (Int.toNat (1:Int)*Go.Proofs.Tryz.prog.types[(9:Nat)].size)) x0.1) ((↑x0.n:Int).toNat-Int.toNat (1:Int)) ((↑x0.c:Int).toNat-Int.toNat (1:Int))]
theorem fS_l22Take x0:qft qa0 9 [Sc.val .l x0] (tS_l22Take x0) :=fitK (by kernel_rfl)
def tS_Cut (x0:ByteArray):T :=
 .qc3 16 [.string x0,.string ({ data:={ toList:=[(32:UInt8)]:Array UInt8 }:ByteArray })] fun y1 =>
 .ret [Sc.val .l y1]
theorem fS_Cut x0:qft qa0 10 [.string x0] (tS_Cut x0) :=fitK (by kernel_rfl)
def aS_NameOp:An:=⟨[(2,[.s 3],[.o (.o (.i .i64))])],[],[]⟩
def tS_NameOp (x0:ByteArray):T :=
 .lp [.o (.o (.i .i64))] [.v (.int .i64 1)] fun y1 =>
 .br (decide (y1.1≤(9:Int))) (
  .qc6 44 [.int .i64 y1.1] fun y2 =>
  .br (y2.toList == x0.toList) (
   .ret [.int .i64 y1.1]) <|
 .nx 0 [.v (.int .i64 (IntKind.i64.wrap (y1.1+(1:Int))))]) <|
 .ret [.int .i64 0]
theorem fS_NameOp x0:qft aS_NameOp 11 [.string x0] (tS_NameOp x0) :=fitK (by kernel_rfl)
def tS_l22Has (x0:Int):T :=
 .br (x0 == (4:Int)) (
  .qc1 45 [.int .i64 x0,.int .i64 2,.int .i64 7] fun y1 =>
  .br (x0 == (5:Int)) (
   .ret [.bool (true),.bool (x0 == (7:Int)),.bool y1,.bool (true)]) <|
 .br (x0 == (7:Int)) (
   .ret [.bool (true),.bool (x0 == (7:Int)),.bool y1,.bool (true)]) <|
 .ret [.bool (true),.bool (x0 == (7:Int)),.bool y1,.bool (x0 == (8:Int))]) <|
 .br (x0 == (5:Int)) (
  .qc1 45 [.int .i64 x0,.int .i64 2,.int .i64 7] fun y1 =>
  .br (x0 == (5:Int)) (
   .ret [.bool (true),.bool (x0 == (7:Int)),.bool y1,.bool (true)]) <|
 .br (x0 == (7:Int)) (
   .ret [.bool (true),.bool (x0 == (7:Int)),.bool y1,.bool (true)]) <|
 .ret [.bool (true),.bool (x0 == (7:Int)),.bool y1,.bool (x0 == (8:Int))]) <|
 .qc1 45 [.int .i64 x0,.int .i64 2,.int .i64 7] fun y1 =>
 .br (x0 == (5:Int)) (
  .ret [.bool (x0 == (7:Int)),.bool (x0 == (7:Int)),.bool y1,.bool (true)]) <|
 .br (x0 == (7:Int)) (
  .ret [.bool (x0 == (7:Int)),.bool (x0 == (7:Int)),.bool y1,.bool (true)]) <|
 .ret [.bool (x0 == (7:Int)),.bool (x0 == (7:Int)),.bool y1,.bool (x0 == (8:Int))]
theorem fS_l22Has x0:qft qa0 12 [.int .i64 x0] (tS_l22Has x0) :=fitK (by kernel_rfl)
def tS_TextRate (x0:ByteArray):T :=
 .qc3 10 [.string x0] fun y1 =>
 .br ((↑y1.n:Int) != (3:Int)) (
  .ret [qv4 (({ data:={ toList:=[]:Array UInt8 }:ByteArray }),({ data:={ toList:=[]:Array UInt8 }:ByteArray }),(false),nilS,(((0:Int)):Int),()),.bool (false)]) <|
 .el y1.1 (y1.n) ((2:Int)) fun y2 =>
 .ql9 (y2.add (Int.toNat (2:Int)*(1:Nat))) fun y3 =>
 .qc8 46 [.string y3] fun y4 =>
 .rg <|
 .el y1.1 (y1.n) ((0:Int)) fun y5 =>
 .ql10 (y5.add (Int.toNat (0:Int)*(1:Nat))) fun y6 =>
 .el y1.1 (y1.n) ((1:Int)) fun y7 =>
 .ql10 (y7.add (Int.toNat (1:Int)*(1:Nat))) fun y8 =>
 .bn y4.2.1 (.ret [qv4 (({ data:={ toList:=[]:Array UInt8 }:ByteArray }),({ data:={ toList:=[]:Array UInt8 }:ByteArray }),(false),nilS,(((0:Int)):Int),()),.bool (false)]) <|
 .qc1 47 [qv4 (y6,y8,y4.1.1,y4.1.2.1,((y4.1.2.2.1):Int),())] fun y9 =>
 .bn y9 (.ret [qv4 (({ data:={ toList:=[]:Array UInt8 }:ByteArray }),({ data:={ toList:=[]:Array UInt8 }:ByteArray }),(false),nilS,(((0:Int)):Int),()),.bool (false)]) <|
 .qc6 48 [qv4 (y6,y8,y4.1.1,y4.1.2.1,((y4.1.2.2.1):Int),())] fun y10 =>
 .br (!y10.toList == x0.toList) (
  .ret [qv4 (({ data:={ toList:=[]:Array UInt8 }:ByteArray }),({ data:={ toList:=[]:Array UInt8 }:ByteArray }),(false),nilS,(((0:Int)):Int),()),.bool (false)]) <|
 .ret [qv4 (y6,y8,y4.1.1,y4.1.2.1,((y4.1.2.2.1):Int),()),.bool (true)]
theorem fS_TextRate x0:qft qa0 13 [.string x0] (tS_TextRate x0) :=fitK (by kernel_rfl)
def aS_Join:An:=⟨[(3,[.s 5,.s 10],[.o (.o (.s)),.o (.o (.i .i64))])],[],[]⟩
def tS_Join (x0:SlV) (x1:ByteArray):T :=
 .lp [.o (.o (.s)),.o (.o (.i .i64))] [.v (.string ({ data:={ toList:=[]:Array UInt8 }:ByteArray })),.v (.int .i64 0)] fun y1 =>
 .br (decide (y1.2.1<(↑x0.n:Int))) (
  .el x0.1 (x0.n) y1.2.1 fun y2 =>
  .ql9 (y2.add (Int.toNat y1.2.1*(1:Nat))) fun y3 =>
  .br (decide (y1.2.1 > (0:Int))) (
   .rq (ByteArray.size y1.1+x1.size≤(9223372036854775807:Nat)) <|
 .rq ((y1.1++x1).size+y3.size≤(9223372036854775807:Nat)) <|
 .nx 0 [.v (.string (y1.1++x1++y3)),.v (.int .i64 (IntKind.i64.wrap (y1.2.1+(1:Int))))]) <|
 .rq (ByteArray.size y1.1+y3.size≤(9223372036854775807:Nat)) <|
 .nx 0 [.v (.string (y1.1++y3)),.v (.int .i64 (IntKind.i64.wrap (y1.2.1+(1:Int))))]) <|
 .ret [.string y1.1]
theorem fS_Join x0 x1:qft aS_Join 14 [Sc.val .l x0,.string x1] (tS_Join x0 x1) :=fitK (by kernel_rfl)
def tS_TextMoney (x0:ByteArray):T :=
 .qc3 10 [.string x0] fun y1 =>
 .br ((↑y1.n:Int) != (2:Int)) (
  .ret [qv2 (({ data:={ toList:=[]:Array UInt8 }:ByteArray }),(false),nilS,()),.bool (false)]) <|
 .el y1.1 (y1.n) ((1:Int)) fun y2 =>
 .ql9 (y2.add (Int.toNat (1:Int)*(1:Nat))) fun y3 =>
 .qc8 46 [.string y3] fun y4 =>
 .rg <|
 .el y1.1 (y1.n) ((0:Int)) fun y5 =>
 .ql10 (y5.add (Int.toNat (0:Int)*(1:Nat))) fun y6 =>
 .qc11 49 [.string y6,qv1 (y4.1.1,y4.1.2.1,())] fun y7 =>
 .bn y4.2.1 (.ret [qv2 (({ data:={ toList:=[]:Array UInt8 }:ByteArray }),(false),nilS,()),.bool (false)]) <|
 .bn y7.2.1 (.ret [qv2 (({ data:={ toList:=[]:Array UInt8 }:ByteArray }),(false),nilS,()),.bool (false)]) <|
 .qc6 50 [qv2 y7.1] fun y8 =>
 .br (!y8.toList == x0.toList) (
  .ret [qv2 (({ data:={ toList:=[]:Array UInt8 }:ByteArray }),(false),nilS,()),.bool (false)]) <|
 .ret [qv2 y7.1,.bool (true)]
theorem fS_TextMoney x0:qft qa0 15 [.string x0] (tS_TextMoney x0) :=fitK (by kernel_rfl)
def aS_CutAt:An:=⟨[(4,[.s 5,.s 6,.s 7],[.a 9,.o (.o (.i .i64)),.o (.o (.i .i64))]),(7,[.s 5,.s 6,.s 8],[.a 9,.o (.o (.i .i64)),.o (.o (.i .i64))])],[],[]⟩
def tS_CutAt (x0:ByteArray) (x1:ByteArray):T :=
 .lp [.a 9,.o (.o (.i .i64)),.o (.o (.i .i64))] [.a 9 ((0:Nat)) [],.v (.int .i64 0),.v (.int .i64 0)] fun y1 =>
 .br (decide (y1.2.2.1<(↑x0.size:Int))) (
  .lp [.a 9,.o (.o (.i .i64)),.o (.o (.i .i64))] [.a 9 y1.1.1 y1.1.2,.v (.int .i64 y1.2.1),.v (.int .i64 0)] fun y2 =>
  .br (decide (y2.2.2.1<(↑x1.size:Int))) (
   .rg <|
 .rq ((0:Int)≤y1.2.2.1∧y1.2.2.1<(↑x0.size:Int)) <|
 .rq ((0:Int)≤y2.2.2.1∧y2.2.2.1<(↑x1.size:Int)) <|
 .br (at0 x0 (Int.toNat y1.2.2.1) == at0 x1 (Int.toNat y2.2.2.1)) (
    .rq ((0:Int)≤y2.2.1∧y2.2.1≤y1.2.2.1∧y1.2.2.1≤(↑x0.size:Int)) <|
 .rq ([Value.string (x0.extract (Int.toNat y2.2.1) (Int.toNat y1.2.2.1))].length=(1:Nat)*(1:Nat)) <|
 .rq (one [Value.string (x0.extract (Int.toNat y2.2.1) (Int.toNat y1.2.2.1))]=true∧(y2.1.1+(1:Nat))*(16:Nat)≤(140737488355328:Nat)∧y2.1.1+(1:Nat)≤(9223372036854775807:Nat)) <|
 .nx 0 [.a 9 (y2.1.1+(1:Nat)) (y2.1.2++[Value.string (x0.extract (Int.toNat y2.2.1) (Int.toNat y1.2.2.1))]),.v (.int .i64 (IntKind.i64.wrap (y1.2.2.1+(1:Int)))),.v (.int .i64 (IntKind.i64.wrap (y1.2.2.1+(1:Int))))]) <|
 .nx 1 [.a 9 y2.1.1 y2.1.2,.v (.int .i64 y2.2.1),.v (.int .i64 (IntKind.i64.wrap (y2.2.2.1+(1:Int))))]) <|
 .nx 0 [.a 9 y2.1.1 y2.1.2,.v (.int .i64 y2.2.1),.v (.int .i64 (IntKind.i64.wrap (y1.2.2.1+(1:Int))))]) <|
 .rq ((0:Int)≤y1.2.1∧y1.2.1≤(↑x0.size:Int)∧(↑x0.size:Int)≤(↑x0.size:Int)) <|
 .rq ([Value.string (x0.extract (Int.toNat y1.2.1) (↑x0.size:Int).toNat)].length=(1:Nat)*(1:Nat)) <|
 .rq (one [Value.string (x0.extract (Int.toNat y1.2.1) (↑x0.size:Int).toNat)]=true∧(y1.1.1+(1:Nat))*(16:Nat)≤(140737488355328:Nat)∧y1.1.1+(1:Nat)≤(9223372036854775807:Nat)) <|
 .fz (y1.1.1+(1:Nat)) (y1.1.2++[Value.string (x0.extract (Int.toNat y1.2.1) (↑x0.size:Int).toNat)]) 9 fun b2 c2 =>
 .ret [.slice (some { block:=b2,off:=(0:Nat):Addr }) (y1.1.1+(1:Nat)) (c2)]
theorem fS_CutAt x0 x1:qft aS_CutAt 16 [.string x0,.string x1] (tS_CutAt x0 x1) :=fitK (by kernel_rfl)
def aS_TextInt:An:=⟨[(9,[.s 6,.s 7],[.o (.o (.i .i64)),.o (.o (.i .i64))])],[],[]⟩
def tS_TextInt (x0:ByteArray):T :=
 .br (decide ((↑x0.size:Int) > (0:Int))) (
  .rq ((0:Int)≤(0:Int)∧(0:Int)<(↑x0.size:Int)) <|
 .br (at0 x0 (Int.toNat (0:Int)) == (45:Int)) (
   .rq ((0:Int)≤(1:Int)∧(1:Int)≤(↑x0.size:Int)∧(↑x0.size:Int)≤(↑x0.size:Int)) <|
 .qc1 51 [.string (x0.extract (Int.toNat (1:Int)) (↑x0.size:Int).toNat)] fun y1 =>
   .bn y1 (.ret [.int .i64 0,.bool (false)]) <|
 .br (decide ((↑(x0.extract (Int.toNat (1:Int)) (↑x0.size:Int).toNat).size:Int) > (19:Int))) (
    .ret [.int .i64 0,.bool (false)]) <|
 .lp [.o (.o (.i .i64)),.o (.o (.i .i64))] [.v (.int .i64 0),.v (.int .i64 0)] fun y2 =>
   .br (decide (y2.2.1<(↑(x0.extract (Int.toNat (1:Int)) (↑x0.size:Int).toNat).size:Int))) (
    .rq ((0:Int)≤y2.2.1∧y2.2.1<(↑(x0.extract (Int.toNat (1:Int)) (↑x0.size:Int).toNat).size:Int)) <|
 .rq ((10:Int)≠(0:Int)) <|
 .br (decide (y2.1<IntKind.i64.wrap ((IntKind.i64.wrap ((-9223372036854775808:Int)+IntKind.i64.wrap (IntKind.i64.wrap (at0 (x0.extract (Int.toNat (1:Int)) (↑x0.size:Int).toNat) (Int.toNat y2.2.1))-(48:Int)))).tdiv (10:Int)))) (
     .ret [.int .i64 0,.bool (false)]) <|
 .nx 0 [.v (.int .i64 (IntKind.i64.wrap (IntKind.i64.wrap (y2.1*(10:Int))-IntKind.i64.wrap (IntKind.i64.wrap (at0 (x0.extract (Int.toNat (1:Int)) (↑x0.size:Int).toNat) (Int.toNat y2.2.1))-(48:Int))))),.v (.int .i64 (IntKind.i64.wrap (y2.2.1+(1:Int))))]) <|
 .br (!at0 x0 (Int.toNat (0:Int)) == (45:Int)) (
    .br (y2.1 == (-9223372036854775808:Int)) (
     .ret [.int .i64 0,.bool (false)]) <|
 .qc6 52 [.int .i64 (IntKind.i64.wrap ((0:Int)-y2.1))] fun y3 =>
    .br (!y3.toList == x0.toList) (
     .ret [.int .i64 0,.bool (false)]) <|
 .ret [.int .i64 (IntKind.i64.wrap ((0:Int)-y2.1)),.bool (true)]) <|
 .qc6 52 [.int .i64 y2.1] fun y3 =>
   .br (!y3.toList == x0.toList) (
    .ret [.int .i64 0,.bool (false)]) <|
 .ret [.int .i64 y2.1,.bool (true)]) <|
 .qc1 51 [.string x0] fun y1 =>
  .bn y1 (.ret [.int .i64 0,.bool (false)]) <|
 .br (decide ((↑x0.size:Int) > (19:Int))) (
   .ret [.int .i64 0,.bool (false)]) <|
 .lp [.o (.o (.i .i64)),.o (.o (.i .i64))] [.v (.int .i64 0),.v (.int .i64 0)] fun y2 =>
  .br (decide (y2.2.1<(↑x0.size:Int))) (
   .rq ((0:Int)≤y2.2.1∧y2.2.1<(↑x0.size:Int)) <|
 .rq ((10:Int)≠(0:Int)) <|
 .br (decide (y2.1<IntKind.i64.wrap ((IntKind.i64.wrap ((-9223372036854775808:Int)+IntKind.i64.wrap (IntKind.i64.wrap (at0 x0 (Int.toNat y2.2.1))-(48:Int)))).tdiv (10:Int)))) (
    .ret [.int .i64 0,.bool (false)]) <|
 .nx 0 [.v (.int .i64 (IntKind.i64.wrap (IntKind.i64.wrap (y2.1*(10:Int))-IntKind.i64.wrap (IntKind.i64.wrap (at0 x0 (Int.toNat y2.2.1))-(48:Int))))),.v (.int .i64 (IntKind.i64.wrap (y2.2.1+(1:Int))))]) <|
 .br (!at0 x0 (Int.toNat (0:Int)) == (45:Int)) (
   .br (y2.1 == (-9223372036854775808:Int)) (
    .ret [.int .i64 0,.bool (false)]) <|
 .qc6 52 [.int .i64 (IntKind.i64.wrap ((0:Int)-y2.1))] fun y3 =>
   .br (!y3.toList == x0.toList) (
    .ret [.int .i64 0,.bool (false)]) <|
 .ret [.int .i64 (IntKind.i64.wrap ((0:Int)-y2.1)),.bool (true)]) <|
 .qc6 52 [.int .i64 y2.1] fun y3 =>
  .br (!y3.toList == x0.toList) (
   .ret [.int .i64 0,.bool (false)]) <|
 .ret [.int .i64 y2.1,.bool (true)]) <|
 .qc1 51 [.string x0] fun y1 =>
 .bn y1 (.ret [.int .i64 0,.bool (false)]) <|
 .br (decide ((↑x0.size:Int) > (19:Int))) (
  .ret [.int .i64 0,.bool (false)]) <|
 .lp [.o (.o (.i .i64)),.o (.o (.i .i64))] [.v (.int .i64 0),.v (.int .i64 0)] fun y2 =>
 .br (decide (y2.2.1<(↑x0.size:Int))) (
  .rq ((0:Int)≤y2.2.1∧y2.2.1<(↑x0.size:Int)) <|
 .rq ((10:Int)≠(0:Int)) <|
 .br (decide (y2.1<IntKind.i64.wrap ((IntKind.i64.wrap ((-9223372036854775808:Int)+IntKind.i64.wrap (IntKind.i64.wrap (at0 x0 (Int.toNat y2.2.1))-(48:Int)))).tdiv (10:Int)))) (
   .ret [.int .i64 0,.bool (false)]) <|
 .nx 0 [.v (.int .i64 (IntKind.i64.wrap (IntKind.i64.wrap (y2.1*(10:Int))-IntKind.i64.wrap (IntKind.i64.wrap (at0 x0 (Int.toNat y2.2.1))-(48:Int))))),.v (.int .i64 (IntKind.i64.wrap (y2.2.1+(1:Int))))]) <|
 .br (y2.1 == (-9223372036854775808:Int)) (
  .ret [.int .i64 0,.bool (false)]) <|
 .qc6 52 [.int .i64 (IntKind.i64.wrap ((0:Int)-y2.1))] fun y3 =>
 .br (!y3.toList == x0.toList) (
  .ret [.int .i64 0,.bool (false)]) <|
 .ret [.int .i64 (IntKind.i64.wrap ((0:Int)-y2.1)),.bool (true)]
theorem fS_TextInt x0:qft aS_TextInt 17 [.string x0] (tS_TextInt x0) :=fitK (by kernel_rfl)
def tS_TextPercent (x0:ByteArray):T :=
 .br ((↑x0.size:Int) == (0:Int)) (
  .ret [qv0 ((false),nilS,(((0:Int)):Int),()),.bool (false)]) <|
 .rq ((0:Int)≤IntKind.i64.wrap ((↑x0.size:Int)-(1:Int))∧IntKind.i64.wrap ((↑x0.size:Int)-(1:Int))<(↑x0.size:Int)) <|
 .br (at0 x0 (IntKind.i64.wrap ((↑x0.size:Int)-(1:Int))).toNat != (37:Int)) (
  .ret [qv0 ((false),nilS,(((0:Int)):Int),()),.bool (false)]) <|
 .rq ((0:Int)≤(0:Int)∧(0:Int)≤IntKind.i64.wrap ((↑x0.size:Int)-(1:Int))∧IntKind.i64.wrap ((↑x0.size:Int)-(1:Int))≤(↑x0.size:Int)) <|
 .qc8 46 [.string (x0.extract (Int.toNat (0:Int)) (IntKind.i64.wrap ((↑x0.size:Int)-(1:Int))).toNat)] fun y1 =>
 .bn y1.2.1 (.ret [qv0 ((false),nilS,(((0:Int)):Int),()),.bool (false)]) <|
 .qc15 53 [qv0 (y1.1.1,y1.1.2.1,((IntKind.i64.wrap (y1.1.2.2.1+(2:Int))):Int),())] fun y2 =>
 .qc6 54 [qv0 y2] fun y3 =>
 .br (!y3.toList == x0.toList) (
  .ret [qv0 ((false),nilS,(((0:Int)):Int),()),.bool (false)]) <|
 .ret [qv0 y2,.bool (true)]
theorem fS_TextPercent x0:qft qa0 18 [.string x0] (tS_TextPercent x0) :=fitK (by kernel_rfl)
def aS_NameRm:An:=⟨[(2,[.s 4],[.o (.o (.i .i64))])],[],[]⟩
def tS_NameRm (x0:ByteArray):T :=
 .lp [.o (.o (.i .i64))] [.v (.int .i64 0)] fun y1 =>
 .br (decide (y1.1≤(6:Int))) (
  .qc6 55 [.int .i64 y1.1] fun y2 =>
  .br (y2.toList == x0.toList) (
   .ret [.int .i64 y1.1,.bool (true)]) <|
 .nx 0 [.v (.int .i64 (IntKind.i64.wrap (y1.1+(1:Int))))]) <|
 .ret [.int .i64 0,.bool (false)]
theorem fS_NameRm x0:qft aS_NameRm 19 [.string x0] (tS_NameRm x0) :=fitK (by kernel_rfl)
def aS_CmdOk:An:=⟨[],[(4,[],[]),(6,[],[]),(8,[],[]),(10,[],[]),(12,[],[]),(14,[],[]),(16,[],[]),(18,[],[])],[]⟩
def tS_CmdOk (x0:qy3):T :=
 .qc5 12 [.int .i64 x0.1] fun y1 =>
 .jn [] (fun _ =>
  .jn [] (fun _ =>
   .jn [] (fun _ =>
    .jn [] (fun _ =>
     .jn [] (fun _ =>
      .jn [] (fun _ =>
       .jn [] (fun _ =>
        .jn [] (fun _ =>
         .br (ByteArray.toList x0.2.2.2.2.2.2.2.2.2.2.2.2.2.2.1 == { data:={ toList:=[]:Array UInt8 }:ByteArray }.toList) (
          .br (ByteArray.toList x0.2.2.2.2.2.2.2.2.2.2.2.2.2.2.2.1 == { data:={ toList:=[]:Array UInt8 }:ByteArray }.toList) (
           .qc1 64 [qv0 x0.2.2.2.2.2.2.2.2.2.2.2.2.2.2.2.2] fun y10 =>
           .ret [.bool y10]) <|
 .rF) <|
 .rF) <|
 .br (x0.1 == (9:Int)) (
         .qc1 47 [qv4 x0.2.2.2.2.2.2.2.2.2.2.2.2.2.2] fun y9 =>
         .ret [.bool y9]) <|
 .nx 7 []) <|
 .rg <|
 .br y1.2.1 (
        .qc16 62 [qv0 (x0.2.2.2.2.2.2.2.2.2.2.2.1,x0.2.2.2.2.2.2.2.2.2.2.2.2.1,((x0.2.2.2.2.2.2.2.2.2.2.2.2.2.1):Int),())] fun y8 =>
        .bF y8 <|
 .qc17 53 [qv0 (x0.2.2.2.2.2.2.2.2.2.2.2.1,x0.2.2.2.2.2.2.2.2.2.2.2.2.1,((x0.2.2.2.2.2.2.2.2.2.2.2.2.2.1):Int),())] fun y9 =>
        .qc18 63 [qv0 y9] fun y10 =>
        .qc18 63 [qv0 (x0.2.2.2.2.2.2.2.2.2.2.2.1,x0.2.2.2.2.2.2.2.2.2.2.2.2.1,((x0.2.2.2.2.2.2.2.2.2.2.2.2.2.1):Int),())] fun y11 =>
        .br (!y10.toList == y11.toList) (
         .rF) <|
 .bn y1.2.1 (.qc1 64 [qv0 (x0.2.2.2.2.2.2.2.2.2.2.2.1,x0.2.2.2.2.2.2.2.2.2.2.2.2.1,((x0.2.2.2.2.2.2.2.2.2.2.2.2.2.1):Int),())] fun y12 =>
         .bF y12 <|
 .nx 6 []) <|
 .nx 6 []) <|
 .bn y1.2.1 (.qc1 64 [qv0 (x0.2.2.2.2.2.2.2.2.2.2.2.1,x0.2.2.2.2.2.2.2.2.2.2.2.2.1,((x0.2.2.2.2.2.2.2.2.2.2.2.2.2.1):Int),())] fun y8 =>
        .bF y8 <|
 .nx 6 []) <|
 .nx 6 []) <|
 .br (x0.1 == (6:Int)) (
       .qc1 61 [Sc.val .l x0.2.2.2.2.2.2.2.2.2.1,Sc.val .l x0.2.2.2.2.2.2.2.2.2.2.1] fun y7 =>
       .bF y7 <|
 .br (x0.1 != (6:Int)) (
        .br (decide (IntKind.i64.wrap ((↑x0.2.2.2.2.2.2.2.2.2.1.n:Int)+(↑x0.2.2.2.2.2.2.2.2.2.2.1.n:Int)) > (0:Int))) (
         .rF) <|
 .nx 5 []) <|
 .nx 5 []) <|
 .br (x0.1 != (6:Int)) (
       .br (decide (IntKind.i64.wrap ((↑x0.2.2.2.2.2.2.2.2.2.1.n:Int)+(↑x0.2.2.2.2.2.2.2.2.2.2.1.n:Int)) > (0:Int))) (
        .rF) <|
 .nx 5 []) <|
 .nx 5 []) <|
 .br y1.2.2.2.1 (
      .qc1 60 [.int .i64 x0.2.2.2.2.2.2.2.2.1] fun y6 =>
      .bF y6 <|
 .bn y1.2.2.2.1 (.br (x0.2.2.2.2.2.2.2.2.1 != (0:Int)) (
        .rF) <|
 .nx 4 []) <|
 .nx 4 []) <|
 .bn y1.2.2.2.1 (.br (x0.2.2.2.2.2.2.2.2.1 != (0:Int)) (
       .rF) <|
 .nx 4 []) <|
 .nx 4 []) <|
 .br y1.2.2.1 (
     .qc1 59 [qv2 (x0.2.2.2.2.2.1,x0.2.2.2.2.2.2.1,x0.2.2.2.2.2.2.2.1,())] fun y5 =>
     .bF y5 <|
 .bn y1.2.2.1 (.br (!ByteArray.toList x0.2.2.2.2.2.1 == { data:={ toList:=[]:Array UInt8 }:ByteArray }.toList) (
       .rF) <|
 .br x0.2.2.2.2.2.2.1 (
       .rF) <|
 .br (decide ((↑x0.2.2.2.2.2.2.2.1.n:Int) > (0:Int))) (
       .rF) <|
 .nx 3 []) <|
 .nx 3 []) <|
 .bn y1.2.2.1 (.br (!ByteArray.toList x0.2.2.2.2.2.1 == { data:={ toList:=[]:Array UInt8 }:ByteArray }.toList) (
      .rF) <|
 .br x0.2.2.2.2.2.2.1 (
      .rF) <|
 .br (decide ((↑x0.2.2.2.2.2.2.2.1.n:Int) > (0:Int))) (
      .rF) <|
 .nx 3 []) <|
 .nx 3 []) <|
 .rg <|
 .qc16 58 [.string x0.2.2.2.2.1] fun y4 =>
   .br (!(x0.1 == (1:Int)) == y4) (
    .rF) <|
 .br (x0.1 != (1:Int)) (
    .br (!ByteArray.toList x0.2.2.2.2.1 == { data:={ toList:=[]:Array UInt8 }:ByteArray }.toList) (
     .rF) <|
 .nx 2 []) <|
 .nx 2 []) <|
 .qc1 57 [.string x0.2.2.1] fun y3 =>
  .br (!y1.1 == y3) (
   .rF) <|
 .bn y1.1 (.br (!ByteArray.toList x0.2.2.1 == { data:={ toList:=[]:Array UInt8 }:ByteArray }.toList) (
    .rF) <|
 .qc1 57 [.string x0.2.2.2.1] fun y4 =>
   .br (!y1.2.1 == y4) (
    .rF) <|
 .bn y1.2.1 (.br (!ByteArray.toList x0.2.2.2.1 == { data:={ toList:=[]:Array UInt8 }:ByteArray }.toList) (
     .rF) <|
 .nx 1 []) <|
 .nx 1 []) <|
 .qc1 57 [.string x0.2.2.2.1] fun y4 =>
  .br (!y1.2.1 == y4) (
   .rF) <|
 .bn y1.2.1 (.br (!ByteArray.toList x0.2.2.2.1 == { data:={ toList:=[]:Array UInt8 }:ByteArray }.toList) (
    .rF) <|
 .nx 1 []) <|
 .nx 1 []) <|
 .rg <|
 .qc16 56 [.int .i64 x0.1] fun y2 =>
 .bF y2 <|
 .qc16 57 [.string x0.2.1] fun y3 =>
 .br ((x0.1 == (9:Int)) == y3) (
  .rF) <|
 .br (x0.1 == (9:Int)) (
  .br (!ByteArray.toList x0.2.1 == { data:={ toList:=[]:Array UInt8 }:ByteArray }.toList) (
   .rF) <|
 .nx 0 []) <|
 .nx 0 []
theorem fS_CmdOk x0:qft aS_CmdOk 20 [qv3 x0] (tS_CmdOk x0) :=fitK (by kernel_rfl)
def aS_CmdText:An:=⟨[],[(10,[.s 7],[.a 9]),(12,[.s 7],[.a 9]),(14,[.s 7],[.a 9]),(16,[.s 7],[.a 9]),(18,[.s 7],[.a 9]),(20,[.s 7],[.a 9]),(22,[.s 7],[.a 9])],[]⟩
def tS_CmdText (x0:qy3):T :=
 .qc1 20 [qv3 x0] fun y1 =>
 .bn y1 (.ret [.string ({ data:={ toList:=[]:Array UInt8 }:ByteArray })]) <|
 .qc5 12 [.int .i64 x0.1] fun y2 =>
 .qc6 44 [.int .i64 x0.1] fun y3 =>
 .br (x0.1 == (9:Int)) (
  .rg <|
 .qc18 44 [.int .i64 x0.1] fun y4 =>
  .rq (y4.size+{ data:={ toList:=[(32:UInt8)]:Array UInt8 }:ByteArray }.size≤(9223372036854775807:Nat)) <|
 .qc6 48 [qv4 x0.2.2.2.2.2.2.2.2.2.2.2.2.2.2] fun y5 =>
  .rq ((y4++{ data:={ toList:=[(32:UInt8)]:Array UInt8 }:ByteArray }).size+y5.size≤(9223372036854775807:Nat)) <|
 .ret [.string (y4++{ data:={ toList:=[(32:UInt8)]:Array UInt8 }:ByteArray }++y5)]) <|
 .rq ([Value.string x0.2.1].length=(1:Nat)*(1:Nat)) <|
 .rq (one [Value.string x0.2.1]=true∧((1:Nat)+(1:Nat))*(16:Nat)≤(140737488355328:Nat)∧(1:Nat)+(1:Nat)≤(9223372036854775807:Nat)) <|
 .jn [.a 9] (fun y4 =>
  .jn [.a 9] (fun y5 =>
   .jn [.a 9] (fun y6 =>
    .jn [.a 9] (fun y7 =>
     .jn [.a 9] (fun y8 =>
      .jn [.a 9] (fun y9 =>
       .jn [.a 9] (fun y10 =>
        .fz y10.1.1 y10.1.2 9 fun b11 c11 =>
        .qc6 14 [.slice (some { block:=b11,off:=(0:Nat):Addr }) y10.1.1 (c11),.string ({ data:={ toList:=[(32:UInt8)]:Array UInt8 }:ByteArray })] fun y12 =>
        .ret [.string y12]) <|
 .br y2.2.2.2.1 (
        .qc6 55 [.int .i64 x0.2.2.2.2.2.2.2.2.1] fun y10 =>
        .rq ([Value.string y10].length=(1:Nat)*(1:Nat)) <|
 .rq (one [Value.string y10]=true∧(y9.1.1+(1:Nat))*(16:Nat)≤(140737488355328:Nat)∧y9.1.1+(1:Nat)≤(9223372036854775807:Nat)) <|
 .nx 6 [.a 9 (y9.1.1+(1:Nat)) (y9.1.2++[Value.string y10])]) <|
 .nx 6 [.a 9 y9.1.1 y9.1.2]) <|
 .br y2.2.1 (
       .qc6 54 [qv0 (x0.2.2.2.2.2.2.2.2.2.2.2.1,x0.2.2.2.2.2.2.2.2.2.2.2.2.1,((x0.2.2.2.2.2.2.2.2.2.2.2.2.2.1):Int),())] fun y9 =>
       .rq ([Value.string y9].length=(1:Nat)*(1:Nat)) <|
 .rq (one [Value.string y9]=true∧(y8.1.1+(1:Nat))*(16:Nat)≤(140737488355328:Nat)∧y8.1.1+(1:Nat)≤(9223372036854775807:Nat)) <|
 .nx 5 [.a 9 (y8.1.1+(1:Nat)) (y8.1.2++[Value.string y9])]) <|
 .nx 5 [.a 9 y8.1.1 y8.1.2]) <|
 .br (x0.1 == (6:Int)) (
      .qc6 65 [Sc.val .l x0.2.2.2.2.2.2.2.2.2.1,Sc.val .l x0.2.2.2.2.2.2.2.2.2.2.1] fun y8 =>
      .rq ([Value.string y8].length=(1:Nat)*(1:Nat)) <|
 .rq (one [Value.string y8]=true∧(y7.1.1+(1:Nat))*(16:Nat)≤(140737488355328:Nat)∧y7.1.1+(1:Nat)≤(9223372036854775807:Nat)) <|
 .nx 4 [.a 9 (y7.1.1+(1:Nat)) (y7.1.2++[Value.string y8])]) <|
 .nx 4 [.a 9 y7.1.1 y7.1.2]) <|
 .br y2.2.2.1 (
     .qc6 50 [qv2 (x0.2.2.2.2.2.1,x0.2.2.2.2.2.2.1,x0.2.2.2.2.2.2.2.1,())] fun y7 =>
     .rq ([Value.string y7].length=(1:Nat)*(1:Nat)) <|
 .rq (one [Value.string y7]=true∧(y6.1.1+(1:Nat))*(16:Nat)≤(140737488355328:Nat)∧y6.1.1+(1:Nat)≤(9223372036854775807:Nat)) <|
 .nx 3 [.a 9 (y6.1.1+(1:Nat)) (y6.1.2++[Value.string y7])]) <|
 .nx 3 [.a 9 y6.1.1 y6.1.2]) <|
 .br (x0.1 == (1:Int)) (
    .rq ([Value.string x0.2.2.2.2.1].length=(1:Nat)*(1:Nat)) <|
 .rq (one [Value.string x0.2.2.2.2.1]=true∧(y5.1.1+(1:Nat))*(16:Nat)≤(140737488355328:Nat)∧y5.1.1+(1:Nat)≤(9223372036854775807:Nat)) <|
 .nx 2 [.a 9 (y5.1.1+(1:Nat)) (y5.1.2++[Value.string x0.2.2.2.2.1])]) <|
 .nx 2 [.a 9 y5.1.1 y5.1.2]) <|
 .br y2.2.1 (
   .rq ([Value.string x0.2.2.2.1].length=(1:Nat)*(1:Nat)) <|
 .rq (one [Value.string x0.2.2.2.1]=true∧(y4.1.1+(1:Nat))*(16:Nat)≤(140737488355328:Nat)∧y4.1.1+(1:Nat)≤(9223372036854775807:Nat)) <|
 .nx 1 [.a 9 (y4.1.1+(1:Nat)) (y4.1.2++[Value.string x0.2.2.2.1])]) <|
 .nx 1 [.a 9 y4.1.1 y4.1.2]) <|
 .br y2.1 (
  .rq ([Value.string x0.2.2.1].length=(1:Nat)*(1:Nat)) <|
 .rq (one [Value.string x0.2.2.1]=true∧((1:Nat)+(1:Nat)+(1:Nat))*(16:Nat)≤(140737488355328:Nat)∧(1:Nat)+(1:Nat)+(1:Nat)≤(9223372036854775807:Nat)) <|
 .nx 0 [.a 9 ((1:Nat)+(1:Nat)+(1:Nat)) [.string y3,.string x0.2.1,.string x0.2.2.1]]) <|
 .nx 0 [.a 9 ((1:Nat)+(1:Nat)) [.string y3,.string x0.2.1]]
theorem fS_CmdText x0:qft aS_CmdText 21 [qv3 x0] (tS_CmdText x0) :=fitK (by kernel_rfl)
def tI_Cut (x0:ByteArray):T :=
 .qc3 66 [.string x0,.string ({ data:={ toList:=[(32:UInt8)]:Array UInt8 }:ByteArray })] fun y1 =>
 .ret [Sc.val .l y1]
theorem fI_Cut x0:qft qa0 22 [.string x0] (tI_Cut x0) :=fitK (by kernel_rfl)
def aI_NameOp:An:=⟨[(2,[.s 3],[.o (.o (.i .i64))])],[],[]⟩
def tI_NameOp (x0:ByteArray):T :=
 .lp [.o (.o (.i .i64))] [.v (.int .i64 1)] fun y1 =>
 .br (decide (y1.1≤(9:Int))) (
  .qc6 67 [.int .i64 y1.1] fun y2 =>
  .br (y2.toList == x0.toList) (
   .ret [.int .i64 y1.1]) <|
 .nx 0 [.v (.int .i64 (IntKind.i64.wrap (y1.1+(1:Int))))]) <|
 .ret [.int .i64 0]
theorem fI_NameOp x0:qft aI_NameOp 23 [.string x0] (tI_NameOp x0) :=fitK (by kernel_rfl)
def tI_fieldsOf (x0:Int):T :=
 .br (x0 == (1:Int)) (
  .fz ((2:Nat)) [.int .i64 0,.int .i64 3] 3 fun b1 c1 =>
  .ret [.slice (some { block:=b1,off:=(0:Nat):Addr }) ((2:Nat)) (c1)]) <|
 .br (x0 == (2:Int)) (
  .fz ((2:Nat)) [.int .i64 0,.int .i64 4] 3 fun b1 c1 =>
  .ret [.slice (some { block:=b1,off:=(0:Nat):Addr }) ((2:Nat)) (c1)]) <|
 .br (x0 == (3:Int)) (
  .fz ((2:Nat)) [.int .i64 0,.int .i64 4] 3 fun b1 c1 =>
  .ret [.slice (some { block:=b1,off:=(0:Nat):Addr }) ((2:Nat)) (c1)]) <|
 .br (x0 == (4:Int)) (
  .fz ((3:Nat)) [.int .i64 0,.int .i64 1,.int .i64 4] 3 fun b1 c1 =>
  .ret [.slice (some { block:=b1,off:=(0:Nat):Addr }) ((3:Nat)) (c1)]) <|
 .br (x0 == (5:Int)) (
  .fz ((4:Nat)) [.int .i64 0,.int .i64 1,.int .i64 4,.int .i64 7] 3 fun b1 c1 =>
  .ret [.slice (some { block:=b1,off:=(0:Nat):Addr }) ((4:Nat)) (c1)]) <|
 .br (x0 == (6:Int)) (
  .fz ((3:Nat)) [.int .i64 0,.int .i64 4,.int .i64 5] 3 fun b1 c1 =>
  .ret [.slice (some { block:=b1,off:=(0:Nat):Addr }) ((3:Nat)) (c1)]) <|
 .br (x0 == (7:Int)) (
  .fz ((6:Nat)) [.int .i64 0,.int .i64 1,.int .i64 2,.int .i64 4,.int .i64 6,.int .i64 7] 3 fun b1 c1 =>
  .ret [.slice (some { block:=b1,off:=(0:Nat):Addr }) ((6:Nat)) (c1)]) <|
 .br (x0 == (8:Int)) (
  .fz ((2:Nat)) [.int .i64 0,.int .i64 7] 3 fun b1 c1 =>
  .ret [.slice (some { block:=b1,off:=(0:Nat):Addr }) ((2:Nat)) (c1)]) <|
 .br (x0 == (9:Int)) (
  .fz ((1:Nat)) [.int .i64 8] 3 fun b1 c1 =>
  .ret [.slice (some { block:=b1,off:=(0:Nat):Addr }) ((1:Nat)) (c1)]) <|
 .ret [.slice none 0 0]
theorem fI_fieldsOf x0:qft qa0 24 [.int .i64 x0] (tI_fieldsOf x0) :=fitK (by kernel_rfl)
def tI_wordsOf (x0:Int):T :=
 .br (x0 == (8:Int)) (
  .ret [.int .i64 3]) <|
 .br (x0 == (4:Int)) (
  .ret [.int .i64 2]) <|
 .ret [.int .i64 1]
theorem fI_wordsOf x0:qft qa0 25 [.int .i64 x0] (tI_wordsOf x0) :=fitK (by kernel_rfl)
def tI_readField (x0:Addr) (x1:ByteArray) (x2:Int):T :=
 .qc19 68 [.string x1,.int .i64 x2] fun y1 =>
 .br (x2 == (0:Int)) (
  .mo (.as (y1.1) 20 9 true) (.t [(.o (.s)),(.o (.b))]) fun y2 =>
  .st (x0.add (1:Nat)) [.string y2.1] <|
 .ret [.bool y2.2.1]) <|
 .br (x2 == (1:Int)) (
  .mo (.as (y1.1) 20 9 true) (.t [(.o (.s)),(.o (.b))]) fun y2 =>
  .st (x0.add (2:Nat)) [.string y2.1] <|
 .ret [.bool y2.2.1]) <|
 .br (x2 == (2:Int)) (
  .mo (.as (y1.1) 20 9 true) (.t [(.o (.s)),(.o (.b))]) fun y2 =>
  .st (x0.add (3:Nat)) [.string y2.1] <|
 .ret [.bool y2.2.1]) <|
 .br (x2 == (3:Int)) (
  .mo (.as (y1.1) 20 9 true) (.t [(.o (.s)),(.o (.b))]) fun y2 =>
  .st (x0.add (4:Nat)) [.string y2.1] <|
 .ret [.bool y2.2.1]) <|
 .br (x2 == (4:Int)) (
  .mo (.as (y1.1) 20 26 true) (.t [(.g [.s,.b,.l]),(.o (.b))]) fun y2 =>
  .st (x0.add (5:Nat)) [.string y2.1.1,.bool y2.1.2.1,Sc.val .l y2.1.2.2.1] <|
 .ret [.bool y2.2.1]) <|
 .br (x2 == (5:Int)) (
  .qc20 69 [.string x1] fun y2 =>
  .st (x0.add (9:Nat)) [Sc.val .l y2.1] <|
 .st (x0.add (10:Nat)) [Sc.val .l y2.2.1] <|
 .ret [.bool y2.2.2.1]) <|
 .br (x2 == (6:Int)) (
  .mo (.as (y1.1) 20 29 true) (.t [(.g [.b,.l,.i .i64]),(.o (.b))]) fun y2 =>
  .st (x0.add (11:Nat)) [.bool y2.1.1,Sc.val .l y2.1.2.1,.int .i64 y2.1.2.2.1] <|
 .ret [.bool y2.2.1]) <|
 .br (x2 == (7:Int)) (
  .mo (.as (y1.1) 20 3 true) (.t [(.o (.i .i64)),(.o (.b))]) fun y2 =>
  .st (x0.add (8:Nat)) [.int .i64 y2.1] <|
 .ret [.bool y2.2.1]) <|
 .br (x2 == (8:Int)) (
  .mo (.as (y1.1) 20 31 true) (.t [(.g [.s,.s,.b,.l,.i .i64]),(.o (.b))]) fun y2 =>
  .st (x0.add (14:Nat)) [.string y2.1.1,.string y2.1.2.1,.bool y2.1.2.2.1,Sc.val .l y2.1.2.2.2.1,.int .i64 y2.1.2.2.2.2.1] <|
 .ret [.bool y2.2.1]) <|
 .rF
theorem fI_readField x0 x1 x2:qft qa0 26 [.pointer (some x0),.string x1,.int .i64 x2] (tI_readField x0 x1 x2) :=fitK (by kernel_rfl)
def tI_Join (x0:SlV) (x1:ByteArray):T :=
 .qc6 70 [Sc.val .l x0,.string x1] fun y1 =>
 .ret [.string y1]
theorem fI_Join x0 x1:qft qa0 27 [Sc.val .l x0,.string x1] (tI_Join x0 x1) :=fitK (by kernel_rfl)
def aI_CmdOk:An:=⟨[(3,[.s 4],[.o (.o (.i .i64))])],[],[(2000003,[.s 1])]⟩
def tI_CmdOk (x0:qy3):T :=
 .qc3 24 [.int .i64 x0.1] fun y1 =>
 .es [.int .i64 x0.1,.string x0.2.1,.string x0.2.2.1,.string x0.2.2.2.1,.string x0.2.2.2.2.1,.string x0.2.2.2.2.2.1,.bool x0.2.2.2.2.2.2.1,Sc.val .l x0.2.2.2.2.2.2.2.1,.int .i64 x0.2.2.2.2.2.2.2.2.1,Sc.val .l x0.2.2.2.2.2.2.2.2.2.1,Sc.val .l x0.2.2.2.2.2.2.2.2.2.2.1,.bool x0.2.2.2.2.2.2.2.2.2.2.2.1,Sc.val .l x0.2.2.2.2.2.2.2.2.2.2.2.2.1,.int .i64 x0.2.2.2.2.2.2.2.2.2.2.2.2.2.1,.string x0.2.2.2.2.2.2.2.2.2.2.2.2.2.2.1,.string x0.2.2.2.2.2.2.2.2.2.2.2.2.2.2.2.1,.bool x0.2.2.2.2.2.2.2.2.2.2.2.2.2.2.2.2.1,Sc.val .l x0.2.2.2.2.2.2.2.2.2.2.2.2.2.2.2.2.2.1,.int .i64 x0.2.2.2.2.2.2.2.2.2.2.2.2.2.2.2.2.2.2.1] 33 fun b2 =>
 .lp [.o (.o (.i .i64))] [.v (.int .i64 0)] fun y3 =>
 .br (decide (y3.1≤(8:Int))) (
  .qc1 72 [Sc.val .l y1,.int .i64 y3.1] fun y4 =>
  .br y4 (
   .qc1 73 [.pointer (some { block:=b2,off:=(0:Nat):Addr }),.int .i64 y3.1] fun y5 =>
   .bF y5 <|
 .nx 0 [.v (.int .i64 (IntKind.i64.wrap (y3.1+(1:Int))))]) <|
 .qc1 71 [.pointer (some { block:=b2,off:=(0:Nat):Addr }),.int .i64 y3.1] fun y5 =>
  .bF y5 <|
 .nx 0 [.v (.int .i64 (IntKind.i64.wrap (y3.1+(1:Int))))]) <|
 .ret [.bool (decide ((↑y1.n:Int) > (0:Int)))]
theorem fI_CmdOk x0:qft aI_CmdOk 28 [qv3 x0] (tI_CmdOk x0) :=fitK (by kernel_rfl)
def tL_eqMoney (x0:qy2) (x1:qy2):T :=
 .br (!ByteArray.toList x0.1 == ByteArray.toList x1.1) (
  .rF) <|
 .qc1 74 [qv1 x0.2,qv1 x1.2] fun y1 =>
 .bF y1 <|
 .rT
theorem fL_eqMoney x0 x1:qft qa0 29 [qv2 x0,qv2 x1] (tL_eqMoney x0 x1) :=fitK (by kernel_rfl)
def aL_eqStringS:An:=⟨[(4,[.s 5],[.o (.o (.i .i64))])],[],[]⟩
def tL_eqStringS (x0:SlV) (x1:SlV):T :=
 .br ((↑x0.n:Int) != (↑x1.n:Int)) (
  .rF) <|
 .lp [.o (.o (.i .i64))] [.v (.int .i64 0)] fun y1 =>
 .br (decide (y1.1<(↑x0.n:Int))) (
  .rg <|
 .el x0.1 (x0.n) y1.1 fun y2 =>
  .ql10 (y2.add (Int.toNat y1.1*(1:Nat))) fun y3 =>
  .el x1.1 (x1.n) y1.1 fun y4 =>
  .ql10 (y4.add (Int.toNat y1.1*(1:Nat))) fun y5 =>
  .br (!y3.toList == y5.toList) (
   .rF) <|
 .nx 0 [.v (.int .i64 (IntKind.i64.wrap (y1.1+(1:Int))))]) <|
 .rT
theorem fL_eqStringS x0 x1:qft aL_eqStringS 30 [Sc.val .l x0,Sc.val .l x1] (tL_eqStringS x0 x1) :=fitK (by kernel_rfl)
def aL_eqIntS:An:=⟨[(4,[.s 5],[.o (.o (.i .i64))])],[],[]⟩
def tL_eqIntS (x0:SlV) (x1:SlV):T :=
 .br ((↑x0.n:Int) != (↑x1.n:Int)) (
  .rF) <|
 .lp [.o (.o (.i .i64))] [.v (.int .i64 0)] fun y1 =>
 .br (decide (y1.1<(↑x0.n:Int))) (
  .rg <|
 .el x0.1 (x0.n) y1.1 fun y2 =>
  .ql21 (y2.add (Int.toNat y1.1*(1:Nat))) fun y3 =>
  .el x1.1 (x1.n) y1.1 fun y4 =>
  .ql21 (y4.add (Int.toNat y1.1*(1:Nat))) fun y5 =>
  .br (y3 != y5) (
   .rF) <|
 .nx 0 [.v (.int .i64 (IntKind.i64.wrap (y1.1+(1:Int))))]) <|
 .rT
theorem fL_eqIntS x0 x1:qft aL_eqIntS 31 [Sc.val .l x0,Sc.val .l x1] (tL_eqIntS x0 x1) :=fitK (by kernel_rfl)
def tL_eqDec (x0:qy0) (x1:qy0):T :=
 .qc1 74 [qv1 (x0.1,x0.2.1,()),qv1 (x1.1,x1.2.1,())] fun y1 =>
 .bF y1 <|
 .br (x0.2.2.1 != x1.2.2.1) (
  .rF) <|
 .rT
theorem fL_eqDec x0 x1:qft qa0 32 [qv0 x0,qv0 x1] (tL_eqDec x0 x1) :=fitK (by kernel_rfl)
def tL_eqRate (x0:qy4) (x1:qy4):T :=
 .br (!ByteArray.toList x0.1 == ByteArray.toList x1.1) (
  .rF) <|
 .br (!ByteArray.toList x0.2.1 == ByteArray.toList x1.2.1) (
  .rF) <|
 .qc1 32 [qv0 x0.2.2,qv0 x1.2.2] fun y1 =>
 .bF y1 <|
 .rT
theorem fL_eqRate x0 x1:qft qa0 33 [qv4 x0,qv4 x1] (tL_eqRate x0 x1) :=fitK (by kernel_rfl)
def tL_markMoney (x0:qy2) (x1:Int):T :=
 .qc2 75 [qv1 x0.2,.int .i64 x1] fun y1 =>
 .ret [.int .i64 y1]
theorem fL_markMoney x0 x1:qft qa0 34 [qv2 x0,.int .i64 x1] (tL_markMoney x0 x1) :=fitK (by kernel_rfl)
def aL_markStringS:An:=⟨[(2,[.s 1,.s 5],[.o (.o (.i .i64)),.o (.o (.i .i64))])],[],[]⟩
def tL_markStringS (x0:SlV) (x1:Int):T :=
 .lp [.o (.o (.i .i64)),.o (.o (.i .i64))] [.v (.int .i64 x1),.v (.int .i64 0)] fun y1 =>
 .br (decide (y1.2.1<(↑x0.n:Int))) (
  .qc6 76 [.int .i64 y1.1] fun y2 =>
  .el x0.1 (x0.n) y1.2.1 fun y3 =>
  .st (y3.add (Int.toNat y1.2.1*(1:Nat))) [.string y2] <|
 .nx 0 [.v (.int .i64 (IntKind.i64.wrap (y1.1+(1:Int)))),.v (.int .i64 (IntKind.i64.wrap (y1.2.1+(1:Int))))]) <|
 .ret [.int .i64 y1.1]
theorem fL_markStringS x0 x1:qft aL_markStringS 35 [Sc.val .l x0,.int .i64 x1] (tL_markStringS x0 x1) :=fitK (by kernel_rfl)
def aL_markIntS:An:=⟨[(2,[.s 1,.s 5],[.o (.o (.i .i64)),.o (.o (.i .i64))])],[],[]⟩
def tL_markIntS (x0:SlV) (x1:Int):T :=
 .lp [.o (.o (.i .i64)),.o (.o (.i .i64))] [.v (.int .i64 x1),.v (.int .i64 0)] fun y1 =>
 .br (decide (y1.2.1<(↑x0.n:Int))) (
  .el x0.1 (x0.n) y1.2.1 fun y2 =>
  .st (y2.add (Int.toNat y1.2.1*(1:Nat))) [.int .i64 y1.1] <|
 .nx 0 [.v (.int .i64 (IntKind.i64.wrap (y1.1+(1:Int)))),.v (.int .i64 (IntKind.i64.wrap (y1.2.1+(1:Int))))]) <|
 .ret [.int .i64 y1.1]
theorem fL_markIntS x0 x1:qft aL_markIntS 36 [Sc.val .l x0,.int .i64 x1] (tL_markIntS x0 x1) :=fitK (by kernel_rfl)
def tL_markDec (x0:qy0) (x1:Int):T :=
 .qc2 75 [qv1 (x0.1,x0.2.1,()),.int .i64 x1] fun y1 =>
 .ret [.int .i64 y1]
theorem fL_markDec x0 x1:qft qa0 37 [qv0 x0,.int .i64 x1] (tL_markDec x0 x1) :=fitK (by kernel_rfl)
def tL_markRate (x0:qy4) (x1:Int):T :=
 .qc2 37 [qv0 x0.2.2,.int .i64 x1] fun y1 =>
 .ret [.int .i64 y1]
theorem fL_markRate x0 x1:qft qa0 38 [qv4 x0,.int .i64 x1] (tL_markRate x0 x1) :=fitK (by kernel_rfl)
def tL_heldMoney (x0:qy2) (x1:Int):T :=
 .qc2 77 [qv1 x0.2,.int .i64 x1] fun y1 =>
 .br (decide (y1<(0:Int))) (
  .rM) <|
 .ret [.int .i64 y1]
theorem fL_heldMoney x0 x1:qft qa0 39 [qv2 x0,.int .i64 x1] (tL_heldMoney x0 x1) :=fitK (by kernel_rfl)
def aL_heldStringS:An:=⟨[(2,[.s 1,.s 5],[.o (.o (.i .i64)),.o (.o (.i .i64))])],[],[]⟩
def tL_heldStringS (x0:SlV) (x1:Int):T :=
 .lp [.o (.o (.i .i64)),.o (.o (.i .i64))] [.v (.int .i64 x1),.v (.int .i64 0)] fun y1 =>
 .br (decide (y1.2.1<(↑x0.n:Int))) (
  .rg <|
 .el x0.1 (x0.n) y1.2.1 fun y2 =>
  .ql10 (y2.add (Int.toNat y1.2.1*(1:Nat))) fun y3 =>
  .qc18 76 [.int .i64 y1.1] fun y4 =>
  .br (!y3.toList == y4.toList) (
   .rM) <|
 .nx 0 [.v (.int .i64 (IntKind.i64.wrap (y1.1+(1:Int)))),.v (.int .i64 (IntKind.i64.wrap (y1.2.1+(1:Int))))]) <|
 .ret [.int .i64 y1.1]
theorem fL_heldStringS x0 x1:qft aL_heldStringS 40 [Sc.val .l x0,.int .i64 x1] (tL_heldStringS x0 x1) :=fitK (by kernel_rfl)
def aL_heldIntS:An:=⟨[(2,[.s 1,.s 5],[.o (.o (.i .i64)),.o (.o (.i .i64))])],[],[]⟩
def tL_heldIntS (x0:SlV) (x1:Int):T :=
 .lp [.o (.o (.i .i64)),.o (.o (.i .i64))] [.v (.int .i64 x1),.v (.int .i64 0)] fun y1 =>
 .br (decide (y1.2.1<(↑x0.n:Int))) (
  .el x0.1 (x0.n) y1.2.1 fun y2 =>
  .ql13 (y2.add (Int.toNat y1.2.1*(1:Nat))) fun y3 =>
  .br (y3 != y1.1) (
   .rM) <|
 .nx 0 [.v (.int .i64 (IntKind.i64.wrap (y1.1+(1:Int)))),.v (.int .i64 (IntKind.i64.wrap (y1.2.1+(1:Int))))]) <|
 .ret [.int .i64 y1.1]
theorem fL_heldIntS x0 x1:qft aL_heldIntS 41 [Sc.val .l x0,.int .i64 x1] (tL_heldIntS x0 x1) :=fitK (by kernel_rfl)
def tL_heldDec (x0:qy0) (x1:Int):T :=
 .qc2 77 [qv1 (x0.1,x0.2.1,()),.int .i64 x1] fun y1 =>
 .br (decide (y1<(0:Int))) (
  .rM) <|
 .ret [.int .i64 y1]
theorem fL_heldDec x0 x1:qft qa0 42 [qv0 x0,.int .i64 x1] (tL_heldDec x0 x1) :=fitK (by kernel_rfl)
def tL_heldRate (x0:qy4) (x1:Int):T :=
 .qc2 42 [qv0 x0.2.2,.int .i64 x1] fun y1 =>
 .br (decide (y1<(0:Int))) (
  .rM) <|
 .ret [.int .i64 y1]
theorem fL_heldRate x0 x1:qft qa0 43 [qv4 x0,.int .i64 x1] (tL_heldRate x0 x1) :=fitK (by kernel_rfl)
def tS_OpName (x0:Int):T :=
 .qc1 56 [.int .i64 x0] fun y1 =>
 .bn y1 (.ret [.string ({ data:={ toList:=[]:Array UInt8 }:ByteArray })]) <|
 .rq ((0:Int)≤x0∧x0<(↑(10:Nat):Int)) <|
 .xs [.string ({ data:={ toList:=[]:Array UInt8 }:ByteArray }),.string ({ data:={ toList:=[(111:UInt8),(112:UInt8),(101:UInt8),(110:UInt8)]:Array UInt8 }:ByteArray }),.string ({ data:={ toList:=[(112:UInt8),(117:UInt8),(116:UInt8)]:Array UInt8 }:ByteArray }),.string ({ data:={ toList:=[(116:UInt8),(97:UInt8),(107:UInt8),(101:UInt8)]:Array UInt8 }:ByteArray }),.string ({ data:={ toList:=[(109:UInt8),(111:UInt8),(118:UInt8),(101:UInt8)]:Array UInt8 }:ByteArray }),.string ({ data:={ toList:=[(115:UInt8),(119:UInt8),(97:UInt8),(112:UInt8)]:Array UInt8 }:ByteArray }),.string ({ data:={ toList:=[(100:UInt8),(101:UInt8),(97:UInt8),(108:UInt8)]:Array UInt8 }:ByteArray }),.string ({ data:={ toList:=[(116:UInt8),(97:UInt8),(120:UInt8)]:Array UInt8 }:ByteArray }),.string ({ data:={ toList:=[(99:UInt8),(97:UInt8),(115:UInt8),(104:UInt8)]:Array UInt8 }:ByteArray }),.string ({ data:={ toList:=[(114:UInt8),(97:UInt8),(116:UInt8),(101:UInt8)]:Array UInt8 }:ByteArray })] (x0.toNat*(1:Nat)) (.o (.s)) fun y2 =>
 .ret [.string y2]
theorem fS_OpName x0:qft qa0 44 [.int .i64 x0] (tS_OpName x0) :=fitK (by kernel_rfl)
def tS_l01In (x0:Int) (x1:Int) (x2:Int):T :=
 .br (decide (x0≥x1)) (
  .ret [.bool (decide (x0≤x2))]) <|
 .rF
theorem fS_l01In x0 x1 x2:qft qa0 45 [.int .i64 x0,.int .i64 x1,.int .i64 x2] (tS_l01In x0 x1 x2) :=fitK (by kernel_rfl)
def aS_TextDec:An:=⟨[(4,[.s 4,.s 5,.s 6],[.o (.o (.s)),.o (.o (.i .i64)),.o (.o (.i .i64))]),(10,[.s 4],[.o (.o (.s))])],[],[]⟩
def tS_TextDec (x0:ByteArray):T :=
 .lp [.o (.o (.s)),.o (.o (.i .i64)),.o (.o (.i .i64))] [.v (.string ({ data:={ toList:=[]:Array UInt8 }:ByteArray })),.v (.int .i64 0),.v (.int .i64 0)] fun y1 =>
 .br (decide (y1.2.2.1<(↑x0.size:Int))) (
  .rq ((0:Int)≤y1.2.2.1∧y1.2.2.1<(↑x0.size:Int)) <|
 .br (at0 x0 (Int.toNat y1.2.2.1) == (46:Int)) (
   .nx 0 [.v (.string y1.1),.v (.int .i64 (IntKind.i64.wrap (IntKind.i64.wrap ((↑x0.size:Int)-(1:Int))-y1.2.2.1))),.v (.int .i64 (IntKind.i64.wrap (y1.2.2.1+(1:Int))))]) <|
 .rq ((0:Int)≤y1.2.2.1∧y1.2.2.1<(↑x0.size:Int)) <|
 .br (at0 x0 (Int.toNat y1.2.2.1) != (45:Int)) (
   .rq ((0:Int)≤y1.2.2.1∧y1.2.2.1≤IntKind.i64.wrap (y1.2.2.1+(1:Int))∧IntKind.i64.wrap (y1.2.2.1+(1:Int))≤(↑x0.size:Int)) <|
 .rq (ByteArray.size y1.1+(x0.extract (Int.toNat y1.2.2.1) (IntKind.i64.wrap (y1.2.2.1+(1:Int))).toNat).size≤(9223372036854775807:Nat)) <|
 .nx 0 [.v (.string (y1.1++x0.extract (Int.toNat y1.2.2.1) (IntKind.i64.wrap (y1.2.2.1+(1:Int))).toNat)),.v (.int .i64 y1.2.1),.v (.int .i64 (IntKind.i64.wrap (y1.2.2.1+(1:Int))))]) <|
 .nx 0 [.v (.string y1.1),.v (.int .i64 y1.2.1),.v (.int .i64 (IntKind.i64.wrap (y1.2.2.1+(1:Int))))]) <|
 .lp [.o (.o (.s))] [.v (.string y1.1)] fun y2 =>
 .br (decide ((↑(ByteArray.size y2.1):Int) > (1:Int))) (
  .rq ((0:Int)≤(0:Int)∧(0:Int)<(↑(ByteArray.size y2.1):Int)) <|
 .br (at0 y2.1 (Int.toNat (0:Int)) == (48:Int)) (
   .rq ((0:Int)≤(1:Int)∧(1:Int)≤(↑(ByteArray.size y2.1):Int)∧(↑(ByteArray.size y2.1):Int)≤(↑(ByteArray.size y2.1):Int)) <|
 .nx 1 [.v (.string (ByteArray.extract y2.1 (Int.toNat (1:Int)) (↑(ByteArray.size y2.1):Int).toNat))]) <|
 .qc22 78 [.string y2.1] fun y3 =>
  .br (decide ((↑x0.size:Int) > (0:Int))) (
   .rq ((0:Int)≤(0:Int)∧(0:Int)<(↑x0.size:Int)) <|
 .qc8 79 [qv1 ((at0 x0 (Int.toNat (0:Int)) == (45:Int)),y3.1,()),.int .i64 y1.2.1] fun y4 =>
   .bn y3.2.1 (.ret [qv0 ((false),nilS,(((0:Int)):Int),()),.bool (false)]) <|
 .bn y4.2.1 (.ret [qv0 ((false),nilS,(((0:Int)):Int),()),.bool (false)]) <|
 .qc6 63 [qv0 y4.1] fun y5 =>
   .br (!y5.toList == x0.toList) (
    .ret [qv0 ((false),nilS,(((0:Int)):Int),()),.bool (false)]) <|
 .ret [qv0 y4.1,.bool (true)]) <|
 .qc8 79 [qv1 ((false),y3.1,()),.int .i64 y1.2.1] fun y4 =>
  .bn y3.2.1 (.ret [qv0 ((false),nilS,(((0:Int)):Int),()),.bool (false)]) <|
 .bn y4.2.1 (.ret [qv0 ((false),nilS,(((0:Int)):Int),()),.bool (false)]) <|
 .qc6 63 [qv0 y4.1] fun y5 =>
  .br (!y5.toList == x0.toList) (
   .ret [qv0 ((false),nilS,(((0:Int)):Int),()),.bool (false)]) <|
 .ret [qv0 y4.1,.bool (true)]) <|
 .qc22 78 [.string y2.1] fun y3 =>
 .br (decide ((↑x0.size:Int) > (0:Int))) (
  .rq ((0:Int)≤(0:Int)∧(0:Int)<(↑x0.size:Int)) <|
 .qc8 79 [qv1 ((at0 x0 (Int.toNat (0:Int)) == (45:Int)),y3.1,()),.int .i64 y1.2.1] fun y4 =>
  .bn y3.2.1 (.ret [qv0 ((false),nilS,(((0:Int)):Int),()),.bool (false)]) <|
 .bn y4.2.1 (.ret [qv0 ((false),nilS,(((0:Int)):Int),()),.bool (false)]) <|
 .qc6 63 [qv0 y4.1] fun y5 =>
  .br (!y5.toList == x0.toList) (
   .ret [qv0 ((false),nilS,(((0:Int)):Int),()),.bool (false)]) <|
 .ret [qv0 y4.1,.bool (true)]) <|
 .qc8 79 [qv1 ((false),y3.1,()),.int .i64 y1.2.1] fun y4 =>
 .bn y3.2.1 (.ret [qv0 ((false),nilS,(((0:Int)):Int),()),.bool (false)]) <|
 .bn y4.2.1 (.ret [qv0 ((false),nilS,(((0:Int)):Int),()),.bool (false)]) <|
 .qc6 63 [qv0 y4.1] fun y5 =>
 .br (!y5.toList == x0.toList) (
  .ret [qv0 ((false),nilS,(((0:Int)):Int),()),.bool (false)]) <|
 .ret [qv0 y4.1,.bool (true)]
theorem fS_TextDec x0:qft aS_TextDec 46 [.string x0] (tS_TextDec x0) :=fitK (by kernel_rfl)
def tS_RateOk (x0:qy4):T :=
 .qc1 80 [.string x0.1] fun y1 =>
 .br y1 (
  .qc1 80 [.string x0.2.1] fun y2 =>
  .br y2 (
   .br (!ByteArray.toList x0.1 == ByteArray.toList x0.2.1) (
    .qc1 81 [qv0 x0.2.2] fun y3 =>
    .br y3 (
     .qc2 82 [qv1 (x0.2.2.1,x0.2.2.2.1,())] fun y4 =>
     .br (decide (y4 > (0:Int))) (
      .ret [.bool (decide ((↑x0.2.2.2.1.n:Int)≤(2:Int)))]) <|
 .rF) <|
 .rF) <|
 .rF) <|
 .rF) <|
 .rF
theorem fS_RateOk x0:qft qa0 47 [qv4 x0] (tS_RateOk x0) :=fitK (by kernel_rfl)
def tS_RateText (x0:qy4):T :=
 .qc1 47 [qv4 x0] fun y1 =>
 .bn y1 (.ret [.string ({ data:={ toList:=[]:Array UInt8 }:ByteArray })]) <|
 .rg <|
 .rq (ByteArray.size x0.1+{ data:={ toList:=[(32:UInt8)]:Array UInt8 }:ByteArray }.size≤(9223372036854775807:Nat)) <|
 .rq ((x0.1++{ data:={ toList:=[(32:UInt8)]:Array UInt8 }:ByteArray }).size+ByteArray.size x0.2.1≤(9223372036854775807:Nat)) <|
 .rq ((x0.1++{ data:={ toList:=[(32:UInt8)]:Array UInt8 }:ByteArray }++x0.2.1).size+{ data:={ toList:=[(32:UInt8)]:Array UInt8 }:ByteArray }.size≤(9223372036854775807:Nat)) <|
 .qc18 63 [qv0 x0.2.2] fun y2 =>
 .rq ((x0.1++{ data:={ toList:=[(32:UInt8)]:Array UInt8 }:ByteArray }++x0.2.1++{ data:={ toList:=[(32:UInt8)]:Array UInt8 }:ByteArray }).size+y2.size≤(9223372036854775807:Nat)) <|
 .ret [.string (x0.1++{ data:={ toList:=[(32:UInt8)]:Array UInt8 }:ByteArray }++x0.2.1++{ data:={ toList:=[(32:UInt8)]:Array UInt8 }:ByteArray }++y2)]
theorem fS_RateText x0:qft qa0 48 [qv4 x0] (tS_RateText x0) :=fitK (by kernel_rfl)
def tS_l09Make (x0:ByteArray) (x1:qy1):T :=
 .qc1 83 [qv2 (x0,x1.1,x1.2.1,())] fun y1 =>
 .bn y1 (.ret [qv2 (({ data:={ toList:=[]:Array UInt8 }:ByteArray }),(false),nilS,()),.bool (false)]) <|
 .ret [qv2 (x0,x1.1,x1.2.1,()),.bool (true)]
theorem fS_l09Make x0 x1:qft qa0 49 [.string x0,qv1 x1] (tS_l09Make x0 x1) :=fitK (by kernel_rfl)
def tS_MoneyText (x0:qy2):T :=
 .qc1 83 [qv2 x0] fun y1 =>
 .bn y1 (.ret [.string ({ data:={ toList:=[]:Array UInt8 }:ByteArray })]) <|
 .rg <|
 .rq (ByteArray.size x0.1+{ data:={ toList:=[(32:UInt8)]:Array UInt8 }:ByteArray }.size≤(9223372036854775807:Nat)) <|
 .qc23 84 [.string x0.1] fun y2 =>
 .qc18 63 [qv0 (x0.2.1,x0.2.2.1,((y2):Int),())] fun y3 =>
 .rq ((x0.1++{ data:={ toList:=[(32:UInt8)]:Array UInt8 }:ByteArray }).size+y3.size≤(9223372036854775807:Nat)) <|
 .ret [.string (x0.1++{ data:={ toList:=[(32:UInt8)]:Array UInt8 }:ByteArray }++y3)]
theorem fS_MoneyText x0:qft qa0 50 [qv2 x0] (tS_MoneyText x0) :=fitK (by kernel_rfl)
def tS_IsDigits (x0:ByteArray):T :=
 .qc1 85 [.string x0,.int .u8 ((48:Int)),.int .u8 ((57:Int)),.int .u8 ((48:Int)),.int .u8 ((57:Int))] fun y1 =>
 .ret [.bool y1]
theorem fS_IsDigits x0:qft qa0 51 [.string x0] (tS_IsDigits x0) :=fitK (by kernel_rfl)
def aS_IntText:An:=⟨[(6,[.s 0,.s 3],[.o (.o (.i .i64)),.o (.o (.s))])],[],[]⟩
def tS_IntText (x0:Int):T :=
 .br (decide (x0<(0:Int))) (
  .rq ((10:Int)≠(0:Int)) <|
 .br (IntKind.i64.wrap (x0.tdiv (10:Int)) == (0:Int)) (
   .fz ((1:Nat)) [.int .u8 (IntKind.u8.wrap (IntKind.i64.wrap ((48:Int)-x0)))] 5 fun b1 c1 =>
   .rd ({ a:=some { block:=b1,off:=(0:Nat):Addr },n:=(1:Nat),c:=c1:SlV }) ((1:Nat)) fun y2 =>
   .rq (bytesOf y2≠none) <|
 .rq ({ data:={ toList:=[(45:UInt8)]:Array UInt8 }:ByteArray }.size+(bytesD y2).size≤(9223372036854775807:Nat)) <|
 .ret [.string ({ data:={ toList:=[(45:UInt8)]:Array UInt8 }:ByteArray }++bytesD y2)]) <|
 .no) <|
 .lp [.o (.o (.i .i64)),.o (.o (.s))] [.v (.int .i64 x0),.v (.string ({ data:={ toList:=[]:Array UInt8 }:ByteArray }))] fun y1 =>
 .br (decide (y1.1 > (9:Int))) (
  .rq ((10:Int)≠(0:Int)) <|
 .fz ((1:Nat)) [.int .u8 (IntKind.u8.wrap (IntKind.i64.wrap ((48:Int)+Int.tmod y1.1 (10:Int))))] 5 fun b2 c2 =>
  .rd ({ a:=some { block:=b2,off:=(0:Nat):Addr },n:=(1:Nat),c:=c2:SlV }) ((1:Nat)) fun y3 =>
  .rq (bytesOf y3≠none) <|
 .rq ((bytesD y3).size+ByteArray.size y1.2.1≤(9223372036854775807:Nat)) <|
 .rq ((10:Int)≠(0:Int)) <|
 .nx 0 [.v (.int .i64 (IntKind.i64.wrap (Int.tdiv y1.1 (10:Int)))),.v (.string (bytesD y3++y1.2.1))]) <|
 .fz ((1:Nat)) [.int .u8 (IntKind.u8.wrap (IntKind.i64.wrap ((48:Int)+y1.1)))] 5 fun b2 c2 =>
 .rd ({ a:=some { block:=b2,off:=(0:Nat):Addr },n:=(1:Nat),c:=c2:SlV }) ((1:Nat)) fun y3 =>
 .rq (bytesOf y3≠none) <|
 .rq ((bytesD y3).size+ByteArray.size y1.2.1≤(9223372036854775807:Nat)) <|
 .ret [.string (bytesD y3++y1.2.1)]
theorem fS_IntText x0:qft aS_IntText 52 [.int .i64 x0] (tS_IntText x0) :=fitK (by kernel_rfl)
def aS_DecLow:An:=⟨[(2,[.s 3,.c 2 0,.c 2 1,.c 2 2],[.o (.o (.i .i64)),.o (.o (.b)),.o (.o (.l)),.o (.o (.i .i64))])],[],[]⟩
def tS_DecLow (x0:qy0):T :=
 .lp [.o (.o (.i .i64)),.o (.o (.b)),.o (.o (.l)),.o (.o (.i .i64))] [.v (.int .i64 0),.v (.bool (false)),.v (.slice none 0 0),.v (.int .i64 0)] fun y1 =>
 .br (decide (y1.1≤(30:Int))) (
  .qc8 86 [qv0 x0,.int .i64 y1.1] fun y2 =>
  .br y2.2.1 (
   .ret [qv0 y2.1]) <|
 .nx 0 [.v (.int .i64 (IntKind.i64.wrap (y1.1+(1:Int)))),.v (.bool y1.2.1),.v (Sc.val .l y1.2.2.1),.v (.int .i64 y1.2.2.2.1)]) <|
 .ret [qv0 ((false),nilS,(((0:Int)):Int),())]
theorem fS_DecLow x0:qft aS_DecLow 53 [qv0 x0] (tS_DecLow x0) :=fitK (by kernel_rfl)
def tS_Percent (x0:qy0):T :=
 .qc1 62 [qv0 x0] fun y1 =>
 .bn y1 (.ret [.string ({ data:={ toList:=[]:Array UInt8 }:ByteArray })]) <|
 .qc15 53 [qv0 x0] fun y2 =>
 .qc24 88 [.int .i64 100] fun y3 =>
 .qc8 87 [qv0 y2,qv0 (y3.1,y3.2.1,(((0:Int)):Int),())] fun y4 =>
 .bn y4.2.1 (.ret [.string ({ data:={ toList:=[]:Array UInt8 }:ByteArray })]) <|
 .qc15 53 [qv0 y4.1] fun y5 =>
 .qc6 63 [qv0 y5] fun y6 =>
 .rq (y6.size+{ data:={ toList:=[(37:UInt8)]:Array UInt8 }:ByteArray }.size≤(9223372036854775807:Nat)) <|
 .ret [.string (y6++{ data:={ toList:=[(37:UInt8)]:Array UInt8 }:ByteArray })]
theorem fS_Percent x0:qft qa0 54 [qv0 x0] (tS_Percent x0) :=fitK (by kernel_rfl)
def tS_RmName (x0:Int):T :=
 .qc1 60 [.int .i64 x0] fun y1 =>
 .bn y1 (.ret [.string ({ data:={ toList:=[]:Array UInt8 }:ByteArray })]) <|
 .rq ((0:Int)≤x0∧x0<(↑(7:Nat):Int)) <|
 .xs [.string ({ data:={ toList:=[(100:UInt8),(111:UInt8),(119:UInt8),(110:UInt8)]:Array UInt8 }:ByteArray }),.string ({ data:={ toList:=[(117:UInt8),(112:UInt8)]:Array UInt8 }:ByteArray }),.string ({ data:={ toList:=[(102:UInt8),(108:UInt8),(111:UInt8),(111:UInt8),(114:UInt8)]:Array UInt8 }:ByteArray }),.string ({ data:={ toList:=[(99:UInt8),(101:UInt8),(105:UInt8),(108:UInt8)]:Array UInt8 }:ByteArray }),.string ({ data:={ toList:=[(104:UInt8),(97:UInt8),(108:UInt8),(102:UInt8),(100:UInt8),(111:UInt8),(119:UInt8),(110:UInt8)]:Array UInt8 }:ByteArray }),.string ({ data:={ toList:=[(104:UInt8),(97:UInt8),(108:UInt8),(102:UInt8),(117:UInt8),(112:UInt8)]:Array UInt8 }:ByteArray }),.string ({ data:={ toList:=[(104:UInt8),(97:UInt8),(108:UInt8),(102:UInt8),(101:UInt8),(118:UInt8),(101:UInt8),(110:UInt8)]:Array UInt8 }:ByteArray })] (x0.toNat*(1:Nat)) (.o (.s)) fun y2 =>
 .ret [.string y2]
theorem fS_RmName x0:qft qa0 55 [.int .i64 x0] (tS_RmName x0) :=fitK (by kernel_rfl)
def tS_l22Op (x0:Int):T :=
 .qc1 45 [.int .i64 x0,.int .i64 1,.int .i64 9] fun y1 =>
 .ret [.bool y1]
theorem fS_l22Op x0:qft qa0 56 [.int .i64 x0] (tS_l22Op x0) :=fitK (by kernel_rfl)
def tS_IsWord (x0:ByteArray):T :=
 .qc1 85 [.string x0,.int .u8 ((97:Int)),.int .u8 ((122:Int)),.int .u8 ((48:Int)),.int .u8 ((57:Int))] fun y1 =>
 .br y1 (
  .br (decide ((↑x0.size:Int)≤(12:Int))) (
   .rq ((0:Int)≤(0:Int)∧(0:Int)<(↑x0.size:Int)) <|
 .ret [.bool (decide (at0 x0 (Int.toNat (0:Int))≥(97:Int)))]) <|
 .rF) <|
 .rF
theorem fS_IsWord x0:qft qa0 57 [.string x0] (tS_IsWord x0) :=fitK (by kernel_rfl)
def tS_IsCode (x0:ByteArray):T :=
 .qc1 85 [.string x0,.int .u8 ((65:Int)),.int .u8 ((90:Int)),.int .u8 ((65:Int)),.int .u8 ((90:Int))] fun y1 =>
 .br y1 (
  .ret [.bool ((↑x0.size:Int) == (3:Int))]) <|
 .rF
theorem fS_IsCode x0:qft qa0 58 [.string x0] (tS_IsCode x0) :=fitK (by kernel_rfl)
def tS_l21Money (x0:qy2):T :=
 .qc1 83 [qv2 x0] fun y1 =>
 .br y1 (
  .ret [.bool (!x0.2.1)]) <|
 .rF
theorem fS_l21Money x0:qft qa0 59 [qv2 x0] (tS_l21Money x0) :=fitK (by kernel_rfl)
def tS_l06Mode (x0:Int):T :=
 .qc1 45 [.int .i64 x0,.int .i64 0,.int .i64 6] fun y1 =>
 .ret [.bool y1]
theorem fS_l06Mode x0:qft qa0 60 [.int .i64 x0] (tS_l06Mode x0) :=fitK (by kernel_rfl)
def aS_l22Weights:An:=⟨[(2,[.s 9],[.o (.o (.i .i64))])],[],[]⟩
def tS_l22Weights (x0:SlV) (x1:SlV):T :=
 .lp [.o (.o (.i .i64))] [.v (.int .i64 0)] fun y1 =>
 .br (decide (y1.1<(↑x1.n:Int))) (
  .el x1.1 (x1.n) y1.1 fun y2 =>
  .ql13 (y2.add (Int.toNat y1.1*(1:Nat))) fun y3 =>
  .qc1 45 [.int .i64 y3,.int .i64 0,.int .i64 1000000000] fun y4 =>
  .bF y4 <|
 .nx 0 [.v (.int .i64 (IntKind.i64.wrap (y1.1+(1:Int))))]) <|
 .br ((↑x0.n:Int) == (↑x1.n:Int)) (
  .qc1 45 [.int .i64 ((↑x1.n:Int)),.int .i64 1,.int .i64 30] fun y2 =>
  .br y2 (
   .qc1 89 [Sc.val .l x0] fun y3 =>
   .ret [.bool y3]) <|
 .rF) <|
 .rF
theorem fS_l22Weights x0 x1:qft aS_l22Weights 61 [Sc.val .l x0,Sc.val .l x1] (tS_l22Weights x0 x1) :=fitK (by kernel_rfl)
def tS_TaxRateOk (x0:qy0):T :=
 .rg <|
 .qc16 81 [qv0 x0] fun y1 =>
 .br y1 (
  .br (!x0.1) (
   .br (decide ((↑x0.2.1.n:Int)≤(1:Int))) (
    .qc25 88 [.int .i64 1] fun y2 =>
    .qc2 90 [qv0 x0,qv0 (y2.1,y2.2.1,(((0:Int)):Int),())] fun y3 =>
    .ret [.bool (decide (y3≤(0:Int)))]) <|
 .rF) <|
 .rF) <|
 .rF
theorem fS_TaxRateOk x0:qft qa0 62 [qv0 x0] (tS_TaxRateOk x0) :=fitK (by kernel_rfl)
def tS_DecText (x0:qy0):T :=
 .qc1 81 [qv0 x0] fun y1 =>
 .bn y1 (.ret [.string ({ data:={ toList:=[]:Array UInt8 }:ByteArray })]) <|
 .rg <|
 .qc18 92 [Sc.val .l x0.2.1] fun y2 =>
 .qc6 91 [.string y2,.int .i64 (IntKind.i64.wrap (x0.2.2.1+(1:Int)))] fun y3 =>
 .br (decide (x0.2.2.1 > (0:Int))) (
  .rg <|
 .rq ((0:Int)≤(0:Int)∧(0:Int)≤IntKind.i64.wrap ((↑y3.size:Int)-x0.2.2.1)∧IntKind.i64.wrap ((↑y3.size:Int)-x0.2.2.1)≤(↑y3.size:Int)) <|
 .rq ((y3.extract (Int.toNat (0:Int)) (IntKind.i64.wrap ((↑y3.size:Int)-x0.2.2.1)).toNat).size+{ data:={ toList:=[(46:UInt8)]:Array UInt8 }:ByteArray }.size≤(9223372036854775807:Nat)) <|
 .rq ((0:Int)≤IntKind.i64.wrap ((↑y3.size:Int)-x0.2.2.1)∧IntKind.i64.wrap ((↑y3.size:Int)-x0.2.2.1)≤(↑y3.size:Int)∧(↑y3.size:Int)≤(↑y3.size:Int)) <|
 .rq ((y3.extract (Int.toNat (0:Int)) (IntKind.i64.wrap ((↑y3.size:Int)-x0.2.2.1)).toNat++{ data:={ toList:=[(46:UInt8)]:Array UInt8 }:ByteArray }).size+(y3.extract (IntKind.i64.wrap ((↑y3.size:Int)-x0.2.2.1)).toNat (↑y3.size:Int).toNat).size≤(9223372036854775807:Nat)) <|
 .br x0.1 (
   .rq ({ data:={ toList:=[(45:UInt8)]:Array UInt8 }:ByteArray }.size+(y3.extract (Int.toNat (0:Int)) (IntKind.i64.wrap ((↑y3.size:Int)-x0.2.2.1)).toNat++{ data:={ toList:=[(46:UInt8)]:Array UInt8 }:ByteArray }++y3.extract (IntKind.i64.wrap ((↑y3.size:Int)-x0.2.2.1)).toNat (↑y3.size:Int).toNat).size≤(9223372036854775807:Nat)) <|
 .ret [.string ({ data:={ toList:=[(45:UInt8)]:Array UInt8 }:ByteArray }++(y3.extract (Int.toNat (0:Int)) (IntKind.i64.wrap ((↑y3.size:Int)-x0.2.2.1)).toNat++{ data:={ toList:=[(46:UInt8)]:Array UInt8 }:ByteArray }++y3.extract (IntKind.i64.wrap ((↑y3.size:Int)-x0.2.2.1)).toNat (↑y3.size:Int).toNat))]) <|
 .ret [.string (y3.extract (Int.toNat (0:Int)) (IntKind.i64.wrap ((↑y3.size:Int)-x0.2.2.1)).toNat++{ data:={ toList:=[(46:UInt8)]:Array UInt8 }:ByteArray }++y3.extract (IntKind.i64.wrap ((↑y3.size:Int)-x0.2.2.1)).toNat (↑y3.size:Int).toNat)]) <|
 .br x0.1 (
  .rq ({ data:={ toList:=[(45:UInt8)]:Array UInt8 }:ByteArray }.size+y3.size≤(9223372036854775807:Nat)) <|
 .ret [.string ({ data:={ toList:=[(45:UInt8)]:Array UInt8 }:ByteArray }++y3)]) <|
 .ret [.string y3]
theorem fS_DecText x0:qft qa0 63 [qv0 x0] (tS_DecText x0) :=fitK (by kernel_rfl)
def tS_l22Zero (x0:qy0):T :=
 .br (x0.2.2.1 == (0:Int)) (
  .br (!x0.1) (
   .ret [.bool ((↑x0.2.1.n:Int) == (0:Int))]) <|
 .rF) <|
 .rF
theorem fS_l22Zero x0:qft qa0 64 [qv0 x0] (tS_l22Zero x0) :=fitK (by kernel_rfl)
def aS_l22Deal:An:=⟨[(3,[.s 5,.s 11],[.a 9,.o (.o (.i .i64))])],[],[]⟩
def tS_l22Deal (x0:SlV) (x1:SlV):T :=
 .lp [.a 9,.o (.o (.i .i64))] [.a 9 ((0:Nat)) [],.v (.int .i64 0)] fun y1 =>
 .br (decide (y1.2.1<(↑x0.n:Int))) (
  .el x0.1 (x0.n) y1.2.1 fun y2 =>
  .ql9 (y2.add (Int.toNat y1.2.1*(1:Nat))) fun y3 =>
  .rq (y3.size+{ data:={ toList:=[(58:UInt8)]:Array UInt8 }:ByteArray }.size≤(9223372036854775807:Nat)) <|
 .el x1.1 (x1.n) y1.2.1 fun y4 =>
  .ql13 (y4.add (Int.toNat y1.2.1*(1:Nat))) fun y5 =>
  .qc6 52 [.int .i64 y5] fun y6 =>
  .rq ((y3++{ data:={ toList:=[(58:UInt8)]:Array UInt8 }:ByteArray }).size+y6.size≤(9223372036854775807:Nat)) <|
 .rq ([Value.string (y3++{ data:={ toList:=[(58:UInt8)]:Array UInt8 }:ByteArray }++y6)].length=(1:Nat)*(1:Nat)) <|
 .rq (one [Value.string (y3++{ data:={ toList:=[(58:UInt8)]:Array UInt8 }:ByteArray }++y6)]=true∧(y1.1.1+(1:Nat))*(16:Nat)≤(140737488355328:Nat)∧y1.1.1+(1:Nat)≤(9223372036854775807:Nat)) <|
 .nx 0 [.a 9 (y1.1.1+(1:Nat)) (y1.1.2++[Value.string (y3++{ data:={ toList:=[(58:UInt8)]:Array UInt8 }:ByteArray }++y6)]),.v (.int .i64 (IntKind.i64.wrap (y1.2.1+(1:Int))))]) <|
 .fz y1.1.1 y1.1.2 9 fun b2 c2 =>
 .qc6 14 [.slice (some { block:=b2,off:=(0:Nat):Addr }) y1.1.1 (c2),.string ({ data:={ toList:=[(44:UInt8)]:Array UInt8 }:ByteArray })] fun y3 =>
 .ret [.string y3]
theorem fS_l22Deal x0 x1:qft aS_l22Deal 65 [Sc.val .l x0,Sc.val .l x1] (tS_l22Deal x0 x1) :=fitK (by kernel_rfl)
def aI_CutAt:An:=⟨[(4,[.s 5,.s 6,.s 7],[.a 9,.o (.o (.i .i64)),.o (.o (.i .i64))])],[],[]⟩
def tI_CutAt (x0:ByteArray) (x1:ByteArray):T :=
 .lp [.a 9,.o (.o (.i .i64)),.o (.o (.i .i64))] [.a 9 ((0:Nat)) [],.v (.int .i64 0),.v (.int .i64 0)] fun y1 =>
 .br (decide (y1.2.2.1<(↑x0.size:Int))) (
  .rq ((0:Int)≤y1.2.2.1∧y1.2.2.1<(↑x0.size:Int)) <|
 .qc2 93 [.string x1,.int .u8 (at0 x0 (Int.toNat y1.2.2.1))] fun y2 =>
  .br (decide (y2≥(0:Int))) (
   .rq ((0:Int)≤y1.2.1∧y1.2.1≤y1.2.2.1∧y1.2.2.1≤(↑x0.size:Int)) <|
 .rq ([Value.string (x0.extract (Int.toNat y1.2.1) (Int.toNat y1.2.2.1))].length=(1:Nat)*(1:Nat)) <|
 .rq (one [Value.string (x0.extract (Int.toNat y1.2.1) (Int.toNat y1.2.2.1))]=true∧(y1.1.1+(1:Nat))*(16:Nat)≤(140737488355328:Nat)∧y1.1.1+(1:Nat)≤(9223372036854775807:Nat)) <|
 .nx 0 [.a 9 (y1.1.1+(1:Nat)) (y1.1.2++[Value.string (x0.extract (Int.toNat y1.2.1) (Int.toNat y1.2.2.1))]),.v (.int .i64 (IntKind.i64.wrap (y1.2.2.1+(1:Int)))),.v (.int .i64 (IntKind.i64.wrap (y1.2.2.1+(1:Int))))]) <|
 .nx 0 [.a 9 y1.1.1 y1.1.2,.v (.int .i64 y1.2.1),.v (.int .i64 (IntKind.i64.wrap (y1.2.2.1+(1:Int))))]) <|
 .rq ((0:Int)≤y1.2.1∧y1.2.1≤(↑x0.size:Int)∧(↑x0.size:Int)≤(↑x0.size:Int)) <|
 .rq ([Value.string (x0.extract (Int.toNat y1.2.1) (↑x0.size:Int).toNat)].length=(1:Nat)*(1:Nat)) <|
 .rq (one [Value.string (x0.extract (Int.toNat y1.2.1) (↑x0.size:Int).toNat)]=true∧(y1.1.1+(1:Nat))*(16:Nat)≤(140737488355328:Nat)∧y1.1.1+(1:Nat)≤(9223372036854775807:Nat)) <|
 .fz (y1.1.1+(1:Nat)) (y1.1.2++[Value.string (x0.extract (Int.toNat y1.2.1) (↑x0.size:Int).toNat)]) 9 fun b2 c2 =>
 .ret [.slice (some { block:=b2,off:=(0:Nat):Addr }) (y1.1.1+(1:Nat)) (c2)]
theorem fI_CutAt x0 x1:qft aI_CutAt 66 [.string x0,.string x1] (tI_CutAt x0 x1) :=fitK (by kernel_rfl)
def tI_OpName (x0:Int):T :=
 .fz ((10:Nat)) [.string ({ data:={ toList:=[]:Array UInt8 }:ByteArray }),.string ({ data:={ toList:=[(111:UInt8),(112:UInt8),(101:UInt8),(110:UInt8)]:Array UInt8 }:ByteArray }),.string ({ data:={ toList:=[(112:UInt8),(117:UInt8),(116:UInt8)]:Array UInt8 }:ByteArray }),.string ({ data:={ toList:=[(116:UInt8),(97:UInt8),(107:UInt8),(101:UInt8)]:Array UInt8 }:ByteArray }),.string ({ data:={ toList:=[(109:UInt8),(111:UInt8),(118:UInt8),(101:UInt8)]:Array UInt8 }:ByteArray }),.string ({ data:={ toList:=[(115:UInt8),(119:UInt8),(97:UInt8),(112:UInt8)]:Array UInt8 }:ByteArray }),.string ({ data:={ toList:=[(100:UInt8),(101:UInt8),(97:UInt8),(108:UInt8)]:Array UInt8 }:ByteArray }),.string ({ data:={ toList:=[(116:UInt8),(97:UInt8),(120:UInt8)]:Array UInt8 }:ByteArray }),.string ({ data:={ toList:=[(99:UInt8),(97:UInt8),(115:UInt8),(104:UInt8)]:Array UInt8 }:ByteArray }),.string ({ data:={ toList:=[(114:UInt8),(97:UInt8),(116:UInt8),(101:UInt8)]:Array UInt8 }:ByteArray })] 9 fun b1 c1 =>
 .qc6 94 [.int .i64 x0,.slice (some { block:=b1,off:=(0:Nat):Addr }) ((10:Nat)) (c1)] fun y2 =>
 .ret [.string y2]
theorem fI_OpName x0:qft qa0 67 [.int .i64 x0] (tI_OpName x0) :=fitK (by kernel_rfl)
def tI_readValue (x0:ByteArray) (x1:Int):T :=
 .br (x1 == (4:Int)) (
  .qc11 95 [.string x0] fun y1 =>
  .br y1.2.1 (
   .ret [.iface 26 (qv2 y1.1)]) <|
 .ret [.nilIface]) <|
 .br (x1 == (6:Int)) (
  .qc8 96 [.string x0] fun y1 =>
  .br y1.2.1 (
   .ret [.iface 29 (qv0 y1.1)]) <|
 .ret [.nilIface]) <|
 .br (x1 == (7:Int)) (
  .qc7 97 [.string x0] fun y1 =>
  .br y1.2.1 (
   .ret [.iface 3 (.int .i64 y1.1)]) <|
 .ret [.nilIface]) <|
 .br (x1 == (8:Int)) (
  .qc12 98 [.string x0] fun y1 =>
  .br y1.2.1 (
   .ret [.iface 31 (qv4 y1.1)]) <|
 .ret [.nilIface]) <|
 .ret [.iface 9 (.string x0)]
theorem fI_readValue x0 x1:qft qa0 68 [.string x0,.int .i64 x1] (tI_readValue x0 x1) :=fitK (by kernel_rfl)
def aI_readDeal:An:=⟨[(3,[.s 5,.s 6,.s 17],[.a 9,.a 3,.o (.o (.i .i64))])],[],[]⟩
def tI_readDeal (x0:ByteArray):T :=
 .qc3 66 [.string x0,.string ({ data:={ toList:=[(44:UInt8)]:Array UInt8 }:ByteArray })] fun y1 =>
 .lp [.a 9,.a 3,.o (.o (.i .i64))] [.a 9 ((0:Nat)) [],.a 3 ((0:Nat)) [],.v (.int .i64 0)] fun y2 =>
 .br (decide (y2.2.2.1<(↑y1.n:Int))) (
  .el y1.1 (y1.n) y2.2.2.1 fun y3 =>
  .ql9 (y3.add (Int.toNat y2.2.2.1*(1:Nat))) fun y4 =>
  .qc3 66 [.string y4,.string ({ data:={ toList:=[(58:UInt8)]:Array UInt8 }:ByteArray })] fun y5 =>
  .br ((↑y5.n:Int) != (2:Int)) (
   .ret [.slice none 0 0,.slice none 0 0,.bool (false)]) <|
 .br ((↑y2.2.1.1:Int) == (30:Int)) (
   .ret [.slice none 0 0,.slice none 0 0,.bool (false)]) <|
 .el y5.1 (y5.n) ((1:Int)) fun y6 =>
  .ql9 (y6.add (Int.toNat (1:Int)*(1:Nat))) fun y7 =>
  .qc7 99 [.string y7] fun y8 =>
  .bn y8.2.1 (.ret [.slice none 0 0,.slice none 0 0,.bool (false)]) <|
 .el y5.1 (y5.n) ((0:Int)) fun y9 =>
  .ql9 (y9.add (Int.toNat (0:Int)*(1:Nat))) fun y10 =>
  .rq ([Value.string y10].length=(1:Nat)*(1:Nat)) <|
 .rq (one [Value.string y10]=true∧(y2.1.1+(1:Nat))*(16:Nat)≤(140737488355328:Nat)∧y2.1.1+(1:Nat)≤(9223372036854775807:Nat)) <|
 .rq ([Value.int IntKind.i64 y8.1].length=(1:Nat)*(1:Nat)) <|
 .rq (one [Value.int IntKind.i64 y8.1]=true∧(y2.2.1.1+(1:Nat))*(8:Nat)≤(140737488355328:Nat)∧y2.2.1.1+(1:Nat)≤(9223372036854775807:Nat)) <|
 .nx 0 [.a 9 (y2.1.1+(1:Nat)) (y2.1.2++[Value.string y10]),.a 3 (y2.2.1.1+(1:Nat)) (y2.2.1.2++[Value.int IntKind.i64 y8.1]),.v (.int .i64 (IntKind.i64.wrap (y2.2.2.1+(1:Int))))]) <|
 .fz y2.1.1 y2.1.2 9 fun b3 c3 =>
 .fz y2.2.1.1 y2.2.1.2 3 fun b4 c4 =>
 .ret [.slice (some { block:=b3,off:=(0:Nat):Addr }) y2.1.1 (c3),.slice (some { block:=b4,off:=(0:Nat):Addr }) y2.2.1.1 (c4),.bool (true)]
theorem fI_readDeal x0:qft aI_readDeal 69 [.string x0] (tI_readDeal x0) :=fitK (by kernel_rfl)
def tI_fieldZero (x0:Addr) (x1:Int):T :=
 .br (x1 == (0:Int)) (
  .ql9 (x0.add (1:Nat)) fun y1 =>
  .ret [.bool (y1.toList == { data:={ toList:=[]:Array UInt8 }:ByteArray }.toList)]) <|
 .br (x1 == (1:Int)) (
  .ql9 (x0.add (2:Nat)) fun y1 =>
  .ret [.bool (y1.toList == { data:={ toList:=[]:Array UInt8 }:ByteArray }.toList)]) <|
 .br (x1 == (2:Int)) (
  .ql9 (x0.add (3:Nat)) fun y1 =>
  .ret [.bool (y1.toList == { data:={ toList:=[]:Array UInt8 }:ByteArray }.toList)]) <|
 .br (x1 == (3:Int)) (
  .ql9 (x0.add (4:Nat)) fun y1 =>
  .ret [.bool (y1.toList == { data:={ toList:=[]:Array UInt8 }:ByteArray }.toList)]) <|
 .br (x1 == (4:Int)) (
  .ql26 (x0.add (5:Nat)) fun y1 =>
  .qc1 103 [qv2 y1,qv2 (({ data:={ toList:=[]:Array UInt8 }:ByteArray }),(false),nilS,())] fun y2 =>
  .ret [.bool y2]) <|
 .br (x1 == (5:Int)) (
  .ql27 (x0.add (9:Nat)) fun y1 =>
  .br ((↑y1.n:Int) == (0:Int)) (
   .ql27 (x0.add (10:Nat)) fun y2 =>
   .ret [.bool ((↑y2.n:Int) == (0:Int))]) <|
 .rF) <|
 .br (x1 == (6:Int)) (
  .ql28 (x0.add (11:Nat)) fun y1 =>
  .qc1 104 [qv0 y1] fun y2 =>
  .ret [.bool y2]) <|
 .br (x1 == (7:Int)) (
  .ql13 (x0.add (8:Nat)) fun y1 =>
  .ret [.bool (y1 == (0:Int))]) <|
 .ql9 ((x0.add (14:Nat)).add (0:Nat)) fun y1 =>
 .br (y1.toList == { data:={ toList:=[]:Array UInt8 }:ByteArray }.toList) (
  .ql9 ((x0.add (14:Nat)).add (1:Nat)) fun y2 =>
  .br (y2.toList == { data:={ toList:=[]:Array UInt8 }:ByteArray }.toList) (
   .ql28 ((x0.add (14:Nat)).add (2:Nat)) fun y3 =>
   .qc1 104 [qv0 y3] fun y4 =>
   .ret [.bool y4]) <|
 .rF) <|
 .rF
theorem fI_fieldZero x0 x1:qft qa0 71 [.pointer (some x0),.int .i64 x1] (tI_fieldZero x0 x1) :=fitK (by kernel_rfl)
def tX_Contains_int (x0:SlV) (x1:Int):T :=
 .qc2 105 [Sc.val .l x0,.int .i64 x1] fun y1 =>
 .ret [.bool (decide (y1≥(0:Int)))]
theorem fX_Contains_int x0 x1:qft qa0 72 [Sc.val .l x0,.int .i64 x1] (tX_Contains_int x0 x1) :=fitK (by kernel_rfl)
def tI_fieldOk (x0:Addr) (x1:Int):T :=
 .br (x1 == (0:Int)) (
  .ql9 (x0.add (1:Nat)) fun y1 =>
  .qc1 106 [.string y1] fun y2 =>
  .ret [.bool y2]) <|
 .br (x1 == (1:Int)) (
  .ql9 (x0.add (2:Nat)) fun y1 =>
  .qc1 106 [.string y1] fun y2 =>
  .ret [.bool y2]) <|
 .br (x1 == (2:Int)) (
  .ql9 (x0.add (3:Nat)) fun y1 =>
  .qc1 106 [.string y1] fun y2 =>
  .ret [.bool y2]) <|
 .br (x1 == (3:Int)) (
  .ql9 (x0.add (4:Nat)) fun y1 =>
  .qc1 107 [.string y1] fun y2 =>
  .ret [.bool y2]) <|
 .br (x1 == (4:Int)) (
  .ql26 (x0.add (5:Nat)) fun y1 =>
  .qc1 108 [qv2 y1] fun y2 =>
  .ret [.bool y2]) <|
 .br (x1 == (5:Int)) (
  .rf <|
 .ql29 (x0.add (9:Nat)) fun y1 =>
  .ql29 (x0.add (10:Nat)) fun y2 =>
  .qc1 109 [Sc.val .l y1,Sc.val .l y2] fun y3 =>
  .ret [.bool y3]) <|
 .br (x1 == (6:Int)) (
  .rf <|
 .ql30 (x0.add (11:Nat)) fun y1 =>
  .qc16 110 [qv0 y1] fun y2 =>
  .br y2 (
   .ql30 (x0.add (11:Nat)) fun y3 =>
   .ql30 (x0.add (11:Nat)) fun y4 =>
   .qc17 112 [qv0 y4] fun y5 =>
   .qc1 111 [qv0 y3,qv0 y5] fun y6 =>
   .ret [.bool y6]) <|
 .rF) <|
 .br (x1 == (7:Int)) (
  .ql13 (x0.add (8:Nat)) fun y1 =>
  .qc1 113 [.int .i64 y1] fun y2 =>
  .ret [.bool y2]) <|
 .ql31 (x0.add (14:Nat)) fun y1 =>
 .qc1 114 [qv4 y1] fun y2 =>
 .ret [.bool y2]
theorem fI_fieldOk x0 x1:qft qa0 73 [.pointer (some x0),.int .i64 x1] (tI_fieldOk x0 x1) :=fitK (by kernel_rfl)
def tL_eqSigned (x0:qy1) (x1:qy1):T :=
 .br (!x0.1 == x1.1) (
  .rF) <|
 .qc1 31 [Sc.val .l x0.2.1,Sc.val .l x1.2.1] fun y1 =>
 .bF y1 <|
 .rT
theorem fL_eqSigned x0 x1:qft qa0 74 [qv1 x0,qv1 x1] (tL_eqSigned x0 x1) :=fitK (by kernel_rfl)
def tL_markSigned (x0:qy1) (x1:Int):T :=
 .qc2 36 [Sc.val .l x0.2.1,.int .i64 x1] fun y1 =>
 .ret [.int .i64 y1]
theorem fL_markSigned x0 x1:qft qa0 75 [qv1 x0,.int .i64 x1] (tL_markSigned x0 x1) :=fitK (by kernel_rfl)
def aL_markText:An:=⟨[(4,[.s 0,.s 3],[.o (.o (.i .i64)),.o (.o (.s))])],[],[]⟩
def tL_markText (x0:Int):T :=
 .br (decide (x0≤(0:Int))) (
  .ret [.string ({ data:={ toList:=[(109:UInt8),(48:UInt8)]:Array UInt8 }:ByteArray })]) <|
 .lp [.o (.o (.i .i64)),.o (.o (.s))] [.v (.int .i64 x0),.v (.string ({ data:={ toList:=[]:Array UInt8 }:ByteArray }))] fun y1 =>
 .br (decide (y1.1 > (0:Int))) (
  .rq ((10:Int)≠(0:Int)) <|
 .fz ((1:Nat)) [.int .u8 (IntKind.u8.wrap (IntKind.i64.wrap ((48:Int)+Int.tmod y1.1 (10:Int))))] 5 fun b2 c2 =>
  .rd ({ a:=some { block:=b2,off:=(0:Nat):Addr },n:=(1:Nat),c:=c2:SlV }) ((1:Nat)) fun y3 =>
  .rq (bytesOf y3≠none) <|
 .rq ((bytesD y3).size+ByteArray.size y1.2.1≤(9223372036854775807:Nat)) <|
 .rq ((10:Int)≠(0:Int)) <|
 .nx 0 [.v (.int .i64 (IntKind.i64.wrap (Int.tdiv y1.1 (10:Int)))),.v (.string (bytesD y3++y1.2.1))]) <|
 .rq ({ data:={ toList:=[(109:UInt8)]:Array UInt8 }:ByteArray }.size+ByteArray.size y1.2.1≤(9223372036854775807:Nat)) <|
 .ret [.string ({ data:={ toList:=[(109:UInt8)]:Array UInt8 }:ByteArray }++y1.2.1)]
theorem fL_markText x0:qft aL_markText 76 [.int .i64 x0] (tL_markText x0) :=fitK (by kernel_rfl)
def tL_heldSigned (x0:qy1) (x1:Int):T :=
 .qc2 41 [Sc.val .l x0.2.1,.int .i64 x1] fun y1 =>
 .br (decide (y1<(0:Int))) (
  .rM) <|
 .ret [.int .i64 y1]
theorem fL_heldSigned x0 x1:qft qa0 77 [qv1 x0,.int .i64 x1] (tL_heldSigned x0 x1) :=fitK (by kernel_rfl)
def aS_TextNat:An:=⟨[(5,[.s 4,.s 5],[.a 3,.o (.o (.i .i64))]),(12,[.s 7,.s 8],[.o (.o (.i .i64)),.o (.o (.i .i64))])],[],[]⟩
def tS_TextNat (x0:ByteArray):T :=
 .qc1 51 [.string x0] fun y1 =>
 .bn y1 (.ret [.slice none 0 0,.bool (false)]) <|
 .br (decide ((↑x0.size:Int) > (450:Int))) (
  .ret [.slice none 0 0,.bool (false)]) <|
 .br (decide ((↑x0.size:Int) > (1:Int))) (
  .rq ((0:Int)≤(0:Int)∧(0:Int)<(↑x0.size:Int)) <|
 .br (at0 x0 (Int.toNat (0:Int)) == (48:Int)) (
   .ret [.slice none 0 0,.bool (false)]) <|
 .lp [.a 3,.o (.o (.i .i64))] [.a 3 ((0:Nat)) [],.v (.int .i64 ((↑x0.size:Int)))] fun y2 =>
  .br (decide (y2.2.1 > (0:Int))) (
   .br (decide (IntKind.i64.wrap (y2.2.1-(9:Int))<(0:Int))) (
    .lp [.o (.o (.i .i64)),.o (.o (.i .i64))] [.v (.int .i64 0),.v (.int .i64 0)] fun y3 =>
    .br (decide (y3.2.1<y2.2.1)) (
     .rq ((0:Int)≤y3.2.1∧y3.2.1<(↑x0.size:Int)) <|
 .nx 1 [.v (.int .i64 (IntKind.i64.wrap (IntKind.i64.wrap (IntKind.i64.wrap (y3.1*(10:Int))+IntKind.i64.wrap (at0 x0 (Int.toNat y3.2.1)))-(48:Int)))),.v (.int .i64 (IntKind.i64.wrap (y3.2.1+(1:Int))))]) <|
 .rq ([Value.int IntKind.i64 y3.1].length=(1:Nat)*(1:Nat)) <|
 .rq (one [Value.int IntKind.i64 y3.1]=true∧(y2.1.1+(1:Nat))*(8:Nat)≤(140737488355328:Nat)∧y2.1.1+(1:Nat)≤(9223372036854775807:Nat)) <|
 .nx 0 [.a 3 (y2.1.1+(1:Nat)) (y2.1.2++[Value.int IntKind.i64 y3.1]),.v (.int .i64 (IntKind.i64.wrap (y2.2.1-(9:Int))))]) <|
 .lp [.o (.o (.i .i64)),.o (.o (.i .i64))] [.v (.int .i64 0),.v (.int .i64 (IntKind.i64.wrap (y2.2.1-(9:Int))))] fun y3 =>
   .br (decide (y3.2.1<y2.2.1)) (
    .rq ((0:Int)≤y3.2.1∧y3.2.1<(↑x0.size:Int)) <|
 .nx 1 [.v (.int .i64 (IntKind.i64.wrap (IntKind.i64.wrap (IntKind.i64.wrap (y3.1*(10:Int))+IntKind.i64.wrap (at0 x0 (Int.toNat y3.2.1)))-(48:Int)))),.v (.int .i64 (IntKind.i64.wrap (y3.2.1+(1:Int))))]) <|
 .rq ([Value.int IntKind.i64 y3.1].length=(1:Nat)*(1:Nat)) <|
 .rq (one [Value.int IntKind.i64 y3.1]=true∧(y2.1.1+(1:Nat))*(8:Nat)≤(140737488355328:Nat)∧y2.1.1+(1:Nat)≤(9223372036854775807:Nat)) <|
 .nx 0 [.a 3 (y2.1.1+(1:Nat)) (y2.1.2++[Value.int IntKind.i64 y3.1]),.v (.int .i64 (IntKind.i64.wrap (y2.2.1-(9:Int))))]) <|
 .fz y2.1.1 y2.1.2 3 fun b3 c3 =>
  .qc3 115 [.slice (some { block:=b3,off:=(0:Nat):Addr }) y2.1.1 (c3)] fun y4 =>
  .ret [Sc.val .l y4,.bool (true)]) <|
 .lp [.a 3,.o (.o (.i .i64))] [.a 3 ((0:Nat)) [],.v (.int .i64 ((↑x0.size:Int)))] fun y2 =>
 .br (decide (y2.2.1 > (0:Int))) (
  .br (decide (IntKind.i64.wrap (y2.2.1-(9:Int))<(0:Int))) (
   .lp [.o (.o (.i .i64)),.o (.o (.i .i64))] [.v (.int .i64 0),.v (.int .i64 0)] fun y3 =>
   .br (decide (y3.2.1<y2.2.1)) (
    .rq ((0:Int)≤y3.2.1∧y3.2.1<(↑x0.size:Int)) <|
 .nx 1 [.v (.int .i64 (IntKind.i64.wrap (IntKind.i64.wrap (IntKind.i64.wrap (y3.1*(10:Int))+IntKind.i64.wrap (at0 x0 (Int.toNat y3.2.1)))-(48:Int)))),.v (.int .i64 (IntKind.i64.wrap (y3.2.1+(1:Int))))]) <|
 .rq ([Value.int IntKind.i64 y3.1].length=(1:Nat)*(1:Nat)) <|
 .rq (one [Value.int IntKind.i64 y3.1]=true∧(y2.1.1+(1:Nat))*(8:Nat)≤(140737488355328:Nat)∧y2.1.1+(1:Nat)≤(9223372036854775807:Nat)) <|
 .nx 0 [.a 3 (y2.1.1+(1:Nat)) (y2.1.2++[Value.int IntKind.i64 y3.1]),.v (.int .i64 (IntKind.i64.wrap (y2.2.1-(9:Int))))]) <|
 .lp [.o (.o (.i .i64)),.o (.o (.i .i64))] [.v (.int .i64 0),.v (.int .i64 (IntKind.i64.wrap (y2.2.1-(9:Int))))] fun y3 =>
  .br (decide (y3.2.1<y2.2.1)) (
   .rq ((0:Int)≤y3.2.1∧y3.2.1<(↑x0.size:Int)) <|
 .nx 1 [.v (.int .i64 (IntKind.i64.wrap (IntKind.i64.wrap (IntKind.i64.wrap (y3.1*(10:Int))+IntKind.i64.wrap (at0 x0 (Int.toNat y3.2.1)))-(48:Int)))),.v (.int .i64 (IntKind.i64.wrap (y3.2.1+(1:Int))))]) <|
 .rq ([Value.int IntKind.i64 y3.1].length=(1:Nat)*(1:Nat)) <|
 .rq (one [Value.int IntKind.i64 y3.1]=true∧(y2.1.1+(1:Nat))*(8:Nat)≤(140737488355328:Nat)∧y2.1.1+(1:Nat)≤(9223372036854775807:Nat)) <|
 .nx 0 [.a 3 (y2.1.1+(1:Nat)) (y2.1.2++[Value.int IntKind.i64 y3.1]),.v (.int .i64 (IntKind.i64.wrap (y2.2.1-(9:Int))))]) <|
 .fz y2.1.1 y2.1.2 3 fun b3 c3 =>
 .qc3 115 [.slice (some { block:=b3,off:=(0:Nat):Addr }) y2.1.1 (c3)] fun y4 =>
 .ret [Sc.val .l y4,.bool (true)]
theorem fS_TextNat x0:qft aS_TextNat 78 [.string x0] (tS_TextNat x0) :=fitK (by kernel_rfl)
def tS_l07Dec (x0:qy1) (x1:Int):T :=
 .qc1 81 [qv0 (x0.1,x0.2.1,((x1):Int),())] fun y1 =>
 .bn y1 (.ret [qv0 ((false),nilS,(((0:Int)):Int),()),.bool (false)]) <|
 .ret [qv0 (x0.1,x0.2.1,((x1):Int),()),.bool (true)]
theorem fS_l07Dec x0 x1:qft qa0 79 [qv1 x0,.int .i64 x1] (tS_l07Dec x0 x1) :=fitK (by kernel_rfl)
def tS_CurKnown (x0:ByteArray):T :=
 .qc32 116 [.string x0] fun y1 =>
 .ret [.bool (!ByteArray.toList y1.1 == { data:={ toList:=[]:Array UInt8 }:ByteArray }.toList)]
theorem fS_CurKnown x0:qft qa0 80 [.string x0] (tS_CurKnown x0) :=fitK (by kernel_rfl)
def tS_DecOk (x0:qy0):T :=
 .qc1 117 [qv1 (x0.1,x0.2.1,())] fun y1 =>
 .br y1 (
  .br (decide ((↑x0.2.1.n:Int)≤(6:Int))) (
   .qc1 45 [.int .i64 x0.2.2.1,.int .i64 0,.int .i64 30] fun y2 =>
   .ret [.bool y2]) <|
 .rF) <|
 .rF
theorem fS_DecOk x0:qft qa0 81 [qv0 x0] (tS_DecOk x0) :=fitK (by kernel_rfl)
def tS_IntSign (x0:qy1):T :=
 .qc2 118 [qv1 x0,qv1 ((false),nilS,())] fun y1 =>
 .ret [.int .i64 y1]
theorem fS_IntSign x0:qft qa0 82 [qv1 x0] (tS_IntSign x0) :=fitK (by kernel_rfl)
def tS_MoneyOk (x0:qy2):T :=
 .qc1 80 [.string x0.1] fun y1 =>
 .br y1 (
  .qc1 117 [qv1 x0.2] fun y2 =>
  .br y2 (
   .ret [.bool (decide ((↑x0.2.2.1.n:Int)≤(4:Int)))]) <|
 .rF) <|
 .rF
theorem fS_MoneyOk x0:qft qa0 83 [qv2 x0] (tS_MoneyOk x0) :=fitK (by kernel_rfl)
def tS_CurPlaces (x0:ByteArray):T :=
 .qc32 116 [.string x0] fun y1 =>
 .ret [.int .i64 y1.2.2.1]
theorem fS_CurPlaces x0:qft qa0 84 [.string x0] (tS_CurPlaces x0) :=fitK (by kernel_rfl)
def aS_l01All:An:=⟨[(2,[.s 11],[.o (.o (.i .i64))])],[],[]⟩
def tS_l01All (x0:ByteArray) (x1:Int) (x2:Int) (x3:Int) (x4:Int):T :=
 .lp [.o (.o (.i .i64))] [.v (.int .i64 0)] fun y1 =>
 .br (decide (y1.1<(↑x0.size:Int))) (
  .rq ((0:Int)≤y1.1∧y1.1<(↑x0.size:Int)) <|
 .br (decide (at0 x0 (Int.toNat y1.1)<x1)) (
   .rq ((0:Int)≤y1.1∧y1.1<(↑x0.size:Int)) <|
 .br (decide (at0 x0 (Int.toNat y1.1)<x3)) (
    .rF) <|
 .rq ((0:Int)≤y1.1∧y1.1<(↑x0.size:Int)) <|
 .br (decide (at0 x0 (Int.toNat y1.1) > x4)) (
    .rF) <|
 .nx 0 [.v (.int .i64 (IntKind.i64.wrap (y1.1+(1:Int))))]) <|
 .rq ((0:Int)≤y1.1∧y1.1<(↑x0.size:Int)) <|
 .br (decide (at0 x0 (Int.toNat y1.1) > x2)) (
   .rq ((0:Int)≤y1.1∧y1.1<(↑x0.size:Int)) <|
 .br (decide (at0 x0 (Int.toNat y1.1)<x3)) (
    .rF) <|
 .rq ((0:Int)≤y1.1∧y1.1<(↑x0.size:Int)) <|
 .br (decide (at0 x0 (Int.toNat y1.1) > x4)) (
    .rF) <|
 .nx 0 [.v (.int .i64 (IntKind.i64.wrap (y1.1+(1:Int))))]) <|
 .nx 0 [.v (.int .i64 (IntKind.i64.wrap (y1.1+(1:Int))))]) <|
 .ret [.bool (decide ((↑x0.size:Int) > (0:Int)))]
theorem fS_l01All x0 x1 x2 x3 x4:qft aS_l01All 85 [.string x0,.int .u8 x1,.int .u8 x2,.int .u8 x3,.int .u8 x4] (tS_l01All x0 x1 x2 x3 x4) :=fitK (by kernel_rfl)
def tS_DecAt (x0:qy0) (x1:Int):T :=
 .qc1 81 [qv0 x0] fun y1 =>
 .bn y1 (.ret [qv0 ((false),nilS,(((0:Int)):Int),()),.bool (false)]) <|
 .qc1 45 [.int .i64 x1,.int .i64 0,.int .i64 30] fun y2 =>
 .bn y2 (.ret [qv0 ((false),nilS,(((0:Int)):Int),()),.bool (false)]) <|
 .br (decide (x1≥x0.2.2.1)) (
  .rg <|
 .qc25 120 [.int .i64 (IntKind.i64.wrap (x1-x0.2.2.1))] fun y3 =>
  .qc24 119 [qv1 (x0.1,x0.2.1,()),qv1 y3] fun y4 =>
  .qc8 79 [qv1 y4,.int .i64 x1] fun y5 =>
  .ret [qv0 y5.1,.bool y5.2.1]) <|
 .qc33 121 [Sc.val .l x0.2.1,.int .i64 (IntKind.i64.wrap (x0.2.2.1-x1))] fun y3 =>
 .br (decide ((↑y3.2.1.n:Int) > (0:Int))) (
  .ret [qv0 ((false),nilS,(((0:Int)):Int),()),.bool (false)]) <|
 .qc8 79 [qv1 (x0.1,y3.1,()),.int .i64 x1] fun y4 =>
 .ret [qv0 y4.1,.bool y4.2.1]
theorem fS_DecAt x0 x1:qft qa0 86 [qv0 x0,.int .i64 x1] (tS_DecAt x0 x1) :=fitK (by kernel_rfl)
def tS_DecMul (x0:qy0) (x1:qy0):T :=
 .qc1 81 [qv0 x0] fun y1 =>
 .bn y1 (.ret [qv0 ((false),nilS,(((0:Int)):Int),()),.bool (false)]) <|
 .qc1 81 [qv0 x1] fun y2 =>
 .bn y2 (.ret [qv0 ((false),nilS,(((0:Int)):Int),()),.bool (false)]) <|
 .rg <|
 .qc25 119 [qv1 (x0.1,x0.2.1,()),qv1 (x1.1,x1.2.1,())] fun y3 =>
 .qc8 79 [qv1 y3,.int .i64 (IntKind.i64.wrap (x0.2.2.1+x1.2.2.1))] fun y4 =>
 .ret [qv0 y4.1,.bool y4.2.1]
theorem fS_DecMul x0 x1:qft qa0 87 [qv0 x0,qv0 x1] (tS_DecMul x0 x1) :=fitK (by kernel_rfl)
def tS_IntOf (x0:Int):T :=
 .br (x0 == (-9223372036854775808:Int)) (
  .fz ((3:Nat)) [.int .i64 854775808,.int .i64 223372036,.int .i64 9] 3 fun b1 c1 =>
  .qc24 122 [.bool (true),.slice (some { block:=b1,off:=(0:Nat):Addr }) ((3:Nat)) (c1)] fun y2 =>
  .ret [qv1 y2]) <|
 .br (decide (x0<(0:Int))) (
  .qc3 123 [.int .i64 (IntKind.i64.wrap ((0:Int)-x0))] fun y1 =>
  .qc24 122 [.bool (true),Sc.val .l y1] fun y2 =>
  .ret [qv1 y2]) <|
 .qc3 123 [.int .i64 x0] fun y1 =>
 .qc24 122 [.bool (false),Sc.val .l y1] fun y2 =>
 .ret [qv1 y2]
theorem fS_IntOf x0:qft qa0 88 [.int .i64 x0] (tS_IntOf x0) :=fitK (by kernel_rfl)
def aS_l21Names:An:=⟨[(2,[.s 7],[.o (.o (.i .i64))])],[],[]⟩
def tS_l21Names (x0:SlV):T :=
 .lp [.o (.o (.i .i64))] [.v (.int .i64 0)] fun y1 =>
 .br (decide (y1.1<(↑x0.n:Int))) (
  .el x0.1 (x0.n) y1.1 fun y2 =>
  .ql9 (y2.add (Int.toNat y1.1*(1:Nat))) fun y3 =>
  .qc1 57 [.string y3] fun y4 =>
  .bF y4 <|
 .nx 0 [.v (.int .i64 (IntKind.i64.wrap (y1.1+(1:Int))))]) <|
 .rT
theorem fS_l21Names x0:qft aS_l21Names 89 [Sc.val .l x0] (tS_l21Names x0) :=fitK (by kernel_rfl)
def tS_DecCmp (x0:qy0) (x1:qy0):T :=
 .qc1 81 [qv0 x0] fun y1 =>
 .bn y1 (.ret [.int .i64 0]) <|
 .qc1 81 [qv0 x1] fun y2 =>
 .bn y2 (.ret [.int .i64 0]) <|
 .qc34 124 [qv0 x0,qv0 x1] fun y3 =>
 .qc2 118 [qv1 y3.1,qv1 y3.2.1] fun y4 =>
 .ret [.int .i64 y4]
theorem fS_DecCmp x0 x1:qft qa0 90 [qv0 x0,qv0 x1] (tS_DecCmp x0 x1) :=fitK (by kernel_rfl)
def aS_Pad:An:=⟨[(3,[.s 0],[.o (.o (.s))])],[],[]⟩
def tS_Pad (x0:ByteArray) (x1:Int):T :=
 .br (decide (x1 > (2000:Int))) (
  .ret [.string x0]) <|
 .lp [.o (.o (.s))] [.v (.string x0)] fun y1 =>
 .br (decide ((↑(ByteArray.size y1.1):Int)<x1)) (
  .rq ({ data:={ toList:=[(48:UInt8)]:Array UInt8 }:ByteArray }.size+ByteArray.size y1.1≤(9223372036854775807:Nat)) <|
 .nx 0 [.v (.string ({ data:={ toList:=[(48:UInt8)]:Array UInt8 }:ByteArray }++y1.1))]) <|
 .ret [.string y1.1]
theorem fS_Pad x0 x1:qft aS_Pad 91 [.string x0,.int .i64 x1] (tS_Pad x0 x1) :=fitK (by kernel_rfl)
def aS_NatText:An:=⟨[(7,[.s 3,.s 4],[.o (.o (.s)),.o (.o (.i .i64))])],[],[]⟩
def tS_NatText (x0:SlV):T :=
 .qc1 125 [Sc.val .l x0] fun y1 =>
 .bn y1 (.ret [.string ({ data:={ toList:=[]:Array UInt8 }:ByteArray })]) <|
 .br ((↑x0.n:Int) == (0:Int)) (
  .ret [.string ({ data:={ toList:=[(48:UInt8)]:Array UInt8 }:ByteArray })]) <|
 .el x0.1 (x0.n) (IntKind.i64.wrap ((↑x0.n:Int)-(1:Int))) fun y2 =>
 .ql13 (y2.add ((IntKind.i64.wrap ((↑x0.n:Int)-(1:Int))).toNat*(1:Nat))) fun y3 =>
 .qc6 52 [.int .i64 y3] fun y4 =>
 .lp [.o (.o (.s)),.o (.o (.i .i64))] [.v (.string y4),.v (.int .i64 (IntKind.i64.wrap ((↑x0.n:Int)-(2:Int))))] fun y5 =>
 .br (decide (y5.2.1≥(0:Int))) (
  .el x0.1 (x0.n) y5.2.1 fun y6 =>
  .ql13 (y6.add (Int.toNat y5.2.1*(1:Nat))) fun y7 =>
  .qc6 52 [.int .i64 y7] fun y8 =>
  .qc6 91 [.string y8,.int .i64 9] fun y9 =>
  .rq (ByteArray.size y5.1+y9.size≤(9223372036854775807:Nat)) <|
 .nx 0 [.v (.string (y5.1++y9)),.v (.int .i64 (IntKind.i64.wrap (y5.2.1-(1:Int))))]) <|
 .ret [.string y5.1]
theorem fS_NatText x0:qft aS_NatText 92 [Sc.val .l x0] (tS_NatText x0) :=fitK (by kernel_rfl)
def tI_nameAt (x0:Int) (x1:SlV):T :=
 .br (decide (x0<(0:Int))) (
  .ret [.string ({ data:={ toList:=[]:Array UInt8 }:ByteArray })]) <|
 .br (decide (x0≥(↑x1.n:Int))) (
  .ret [.string ({ data:={ toList:=[]:Array UInt8 }:ByteArray })]) <|
 .el x1.1 (x1.n) x0 fun y1 =>
 .ql9 (y1.add (x0.toNat*(1:Nat))) fun y2 =>
 .ret [.string y2]
theorem fI_nameAt x0 x1:qft qa0 94 [.int .i64 x0,Sc.val .l x1] (tI_nameAt x0 x1) :=fitK (by kernel_rfl)
def tI_TextMoney (x0:ByteArray):T :=
 .qc3 22 [.string x0] fun y1 =>
 .br ((↑y1.n:Int) != (2:Int)) (
  .ret [qv2 (({ data:={ toList:=[]:Array UInt8 }:ByteArray }),(false),nilS,()),.bool (false)]) <|
 .el y1.1 (y1.n) ((1:Int)) fun y2 =>
 .ql9 (y2.add (Int.toNat (1:Int)*(1:Nat))) fun y3 =>
 .qc8 127 [.string y3] fun y4 =>
 .rg <|
 .el y1.1 (y1.n) ((0:Int)) fun y5 =>
 .ql10 (y5.add (Int.toNat (0:Int)*(1:Nat))) fun y6 =>
 .bn y4.2.1 (.ret [qv2 (({ data:={ toList:=[]:Array UInt8 }:ByteArray }),(false),nilS,()),.bool (false)]) <|
 .qc6 128 [qv2 (y6,y4.1.1,y4.1.2.1,())] fun y7 =>
 .br (!y7.toList == x0.toList) (
  .ret [qv2 (({ data:={ toList:=[]:Array UInt8 }:ByteArray }),(false),nilS,()),.bool (false)]) <|
 .br (x0.toList == { data:={ toList:=[]:Array UInt8 }:ByteArray }.toList) (
  .ret [qv2 (({ data:={ toList:=[]:Array UInt8 }:ByteArray }),(false),nilS,()),.bool (false)]) <|
 .ret [qv2 (y6,y4.1.1,y4.1.2.1,()),.bool (true)]
theorem fI_TextMoney x0:qft qa0 95 [.string x0] (tI_TextMoney x0) :=fitK (by kernel_rfl)
def tI_TextPercent (x0:ByteArray):T :=
 .br (x0.toList == { data:={ toList:=[]:Array UInt8 }:ByteArray }.toList) (
  .ret [qv0 ((false),nilS,(((0:Int)):Int),()),.bool (false)]) <|
 .rq ((0:Int)≤IntKind.i64.wrap ((↑x0.size:Int)-(1:Int))∧IntKind.i64.wrap ((↑x0.size:Int)-(1:Int))<(↑x0.size:Int)) <|
 .br (at0 x0 (IntKind.i64.wrap ((↑x0.size:Int)-(1:Int))).toNat != (37:Int)) (
  .ret [qv0 ((false),nilS,(((0:Int)):Int),()),.bool (false)]) <|
 .rq ((0:Int)≤(0:Int)∧(0:Int)≤IntKind.i64.wrap ((↑x0.size:Int)-(1:Int))∧IntKind.i64.wrap ((↑x0.size:Int)-(1:Int))≤(↑x0.size:Int)) <|
 .qc8 127 [.string (x0.extract (Int.toNat (0:Int)) (IntKind.i64.wrap ((↑x0.size:Int)-(1:Int))).toNat)] fun y1 =>
 .bn y1.2.1 (.ret [qv0 ((false),nilS,(((0:Int)):Int),()),.bool (false)]) <|
 .qc15 129 [qv1 (y1.1.1,y1.1.2.1,()),.int .i64 (IntKind.i64.wrap (y1.1.2.2.1+(2:Int)))] fun y2 =>
 .qc6 130 [qv0 y2] fun y3 =>
 .br (!y3.toList == x0.toList) (
  .ret [qv0 ((false),nilS,(((0:Int)):Int),()),.bool (false)]) <|
 .ret [qv0 y2,.bool (true)]
theorem fI_TextPercent x0:qft qa0 96 [.string x0] (tI_TextPercent x0) :=fitK (by kernel_rfl)
def aI_NameRm:An:=⟨[(2,[.s 7],[.o (.o (.i .i64))])],[],[]⟩
def tI_NameRm (x0:ByteArray):T :=
 .qc35 131 [] fun y1 =>
 .lp [.o (.o (.i .i64))] [.v (.int .i64 0)] fun y2 =>
 .br (decide (y2.1<(7:Int))) (
  .rq ((0:Int)≤y2.1∧y2.1<(↑(7:Nat):Int)) <|
 .xs [.string y1.1,(Value.func (Fn.func y1.2.1) { toList:=[]:Array Value } { toList:=[]:Array Value }),.string y1.2.2.1,(Value.func (Fn.func y1.2.2.2.1) { toList:=[]:Array Value } { toList:=[]:Array Value }),.string y1.2.2.2.2.1,(Value.func (Fn.func y1.2.2.2.2.2.1) { toList:=[]:Array Value } { toList:=[]:Array Value }),.string y1.2.2.2.2.2.2.1,(Value.func (Fn.func y1.2.2.2.2.2.2.2.1) { toList:=[]:Array Value } { toList:=[]:Array Value }),.string y1.2.2.2.2.2.2.2.2.1,(Value.func (Fn.func y1.2.2.2.2.2.2.2.2.2.1) { toList:=[]:Array Value } { toList:=[]:Array Value }),.string y1.2.2.2.2.2.2.2.2.2.2.1,(Value.func (Fn.func y1.2.2.2.2.2.2.2.2.2.2.2.1) { toList:=[]:Array Value } { toList:=[]:Array Value }),.string y1.2.2.2.2.2.2.2.2.2.2.2.2.1,(Value.func (Fn.func y1.2.2.2.2.2.2.2.2.2.2.2.2.2.1) { toList:=[]:Array Value } { toList:=[]:Array Value })] (Int.toNat y2.1*(2:Nat)) (.g [.s,.f]) fun y3 =>
  .br (ByteArray.toList y3.1 == x0.toList) (
   .ret [.int .i64 y2.1,.bool (true)]) <|
 .nx 0 [.v (.int .i64 (IntKind.i64.wrap (y2.1+(1:Int))))]) <|
 .ret [.int .i64 0,.bool (false)]
theorem fI_NameRm x0:qft aI_NameRm 97 [.string x0] (tI_NameRm x0) :=fitK (by kernel_rfl)
def tI_TextRate (x0:ByteArray):T :=
 .qc3 22 [.string x0] fun y1 =>
 .br ((↑y1.n:Int) != (3:Int)) (
  .ret [qv4 (({ data:={ toList:=[]:Array UInt8 }:ByteArray }),({ data:={ toList:=[]:Array UInt8 }:ByteArray }),(false),nilS,(((0:Int)):Int),()),.bool (false)]) <|
 .el y1.1 (y1.n) ((2:Int)) fun y2 =>
 .ql9 (y2.add (Int.toNat (2:Int)*(1:Nat))) fun y3 =>
 .qc8 127 [.string y3] fun y4 =>
 .rg <|
 .el y1.1 (y1.n) ((0:Int)) fun y5 =>
 .ql10 (y5.add (Int.toNat (0:Int)*(1:Nat))) fun y6 =>
 .el y1.1 (y1.n) ((1:Int)) fun y7 =>
 .ql10 (y7.add (Int.toNat (1:Int)*(1:Nat))) fun y8 =>
 .bn y4.2.1 (.ret [qv4 (({ data:={ toList:=[]:Array UInt8 }:ByteArray }),({ data:={ toList:=[]:Array UInt8 }:ByteArray }),(false),nilS,(((0:Int)):Int),()),.bool (false)]) <|
 .qc1 114 [qv4 (y6,y8,y4.1.1,y4.1.2.1,((y4.1.2.2.1):Int),())] fun y9 =>
 .bn y9 (.ret [qv4 (({ data:={ toList:=[]:Array UInt8 }:ByteArray }),({ data:={ toList:=[]:Array UInt8 }:ByteArray }),(false),nilS,(((0:Int)):Int),()),.bool (false)]) <|
 .ret [qv4 (y6,y8,y4.1.1,y4.1.2.1,((y4.1.2.2.1):Int),()),.bool (true)]
theorem fI_TextRate x0:qft qa0 98 [.string x0] (tI_TextRate x0) :=fitK (by kernel_rfl)
def tI_TextInt (x0:ByteArray):T :=
 .qc36 132 [.string x0] fun y1 =>
 .spl y1.2.1 (
  .br (!true) (
   .ret [.int .i64 0,.bool (false)]) <|
 .qc6 133 [.int .i64 y1.1] fun y2 =>
  .br (!y2.toList == x0.toList) (
   .ret [.int .i64 0,.bool (false)]) <|
 .ret [.int .i64 y1.1,.bool (true)]) fun y2 =>
 .br (!false) (
  .ret [.int .i64 0,.bool (false)]) <|
 .qc6 133 [.int .i64 y1.1] fun y3 =>
 .br (!y3.toList == x0.toList) (
  .ret [.int .i64 0,.bool (false)]) <|
 .ret [.int .i64 y1.1,.bool (true)]
theorem fI_TextInt x0:qft qa0 99 [.string x0] (tI_TextInt x0) :=fitK (by kernel_rfl)
def tI_MoneySame (x0:qy2) (x1:qy2):T :=
 .br (ByteArray.toList x0.1 == ByteArray.toList x1.1) (
  .qc1 136 [qv1 x0.2,qv1 x1.2] fun y1 =>
  .ret [.bool y1]) <|
 .rF
theorem fI_MoneySame x0 x1:qft qa0 103 [qv2 x0,qv2 x1] (tI_MoneySame x0 x1) :=fitK (by kernel_rfl)
def tI_decIsZero (x0:qy0):T :=
 .qc1 111 [qv0 x0,qv0 ((false),nilS,(((0:Int)):Int),())] fun y1 =>
 .ret [.bool y1]
theorem fI_decIsZero x0:qft qa0 104 [qv0 x0] (tI_decIsZero x0) :=fitK (by kernel_rfl)
def aX_Index_int:An:=⟨[(2,[.s 8],[.o (.o (.i .i64))])],[],[]⟩
def tX_Index_int (x0:SlV) (x1:Int):T :=
 .lp [.o (.o (.i .i64))] [.v (.int .i64 0)] fun y1 =>
 .br (decide (y1.1<(↑x0.n:Int))) (
  .el x0.1 (x0.n) y1.1 fun y2 =>
  .ql13 (y2.add (Int.toNat y1.1*(1:Nat))) fun y3 =>
  .br (x1 == y3) (
   .ret [.int .i64 y1.1]) <|
 .nx 0 [.v (.int .i64 (IntKind.i64.wrap (y1.1+(1:Int))))]) <|
 .rM
theorem fX_Index_int x0 x1:qft aX_Index_int 105 [Sc.val .l x0,.int .i64 x1] (tX_Index_int x0 x1) :=fitK (by kernel_rfl)
def aI_IsWord:An:=⟨[(4,[.s 3],[.o (.o (.i .i64))])],[],[]⟩
def tI_IsWord (x0:ByteArray):T :=
 .br (decide ((↑x0.size:Int)<(1:Int))) (
  .rF) <|
 .br (decide ((↑x0.size:Int) > (12:Int))) (
  .rF) <|
 .rq ((0:Int)≤(0:Int)∧(0:Int)<(↑x0.size:Int)) <|
 .qc1 137 [.int .u8 (at0 x0 (Int.toNat (0:Int)))] fun y1 =>
 .bF y1 <|
 .lp [.o (.o (.i .i64))] [.v (.int .i64 1)] fun y2 =>
 .br (decide (y2.1<(↑x0.size:Int))) (
  .rq ((0:Int)≤y2.1∧y2.1<(↑x0.size:Int)) <|
 .qc1 137 [.int .u8 (at0 x0 (Int.toNat y2.1))] fun y3 =>
  .bn y3 (.rq ((0:Int)≤y2.1∧y2.1<(↑x0.size:Int)) <|
 .qc1 138 [.int .u8 (at0 x0 (Int.toNat y2.1))] fun y4 =>
   .bF y4 <|
 .nx 0 [.v (.int .i64 (IntKind.i64.wrap (y2.1+(1:Int))))]) <|
 .nx 0 [.v (.int .i64 (IntKind.i64.wrap (y2.1+(1:Int))))]) <|
 .rT
theorem fI_IsWord x0:qft aI_IsWord 106 [.string x0] (tI_IsWord x0) :=fitK (by kernel_rfl)
def aI_IsCode:An:=⟨[(4,[.s 3],[.o (.o (.i .i64))])],[],[]⟩
def tI_IsCode (x0:ByteArray):T :=
 .br ((↑x0.size:Int) != (3:Int)) (
  .rF) <|
 .lp [.o (.o (.i .i64))] [.v (.int .i64 0)] fun y1 =>
 .br (decide (y1.1<(3:Int))) (
  .rq ((0:Int)≤y1.1∧y1.1<(↑x0.size:Int)) <|
 .br (decide (at0 x0 (Int.toNat y1.1)<(65:Int))) (
   .rF) <|
 .rq ((0:Int)≤y1.1∧y1.1<(↑x0.size:Int)) <|
 .br (decide (at0 x0 (Int.toNat y1.1) > (90:Int))) (
   .rF) <|
 .nx 0 [.v (.int .i64 (IntKind.i64.wrap (y1.1+(1:Int))))]) <|
 .rT
theorem fI_IsCode x0:qft aI_IsCode 107 [.string x0] (tI_IsCode x0) :=fitK (by kernel_rfl)
def tI_payable (x0:qy2):T :=
 .qc1 139 [qv2 x0] fun y1 =>
 .br y1 (
  .ret [.bool (!x0.2.1)]) <|
 .rF
theorem fI_payable x0:qft qa0 108 [qv2 x0] (tI_payable x0) :=fitK (by kernel_rfl)
def tI_dealOk (x0:SlV) (x1:SlV):T :=
 .br ((↑x0.n:Int) != (↑x1.n:Int)) (
  .rF) <|
 .br (decide ((↑x1.n:Int)<(1:Int))) (
  .rF) <|
 .br (decide ((↑x1.n:Int) > (30:Int))) (
  .rF) <|
 .qc1 140 [Sc.val .l x0] fun y1 =>
 .bF y1 <|
 .qc1 141 [Sc.val .l x1,(Value.func (Fn.func (142:Nat)) { toList:=[]:Array Value } { toList:=[]:Array Value })] fun y2 =>
 .ret [.bool (!y2)]
theorem fI_dealOk x0 x1:qft qa0 109 [Sc.val .l x0,Sc.val .l x1] (tI_dealOk x0 x1) :=fitK (by kernel_rfl)
def tI_TaxRateOk (x0:qy0):T :=
 .rg <|
 .qc16 143 [qv0 x0] fun y1 =>
 .br y1 (
  .br (decide ((↑x0.2.1.n:Int)≤(1:Int))) (
   .br (!x0.1) (
    .qc25 145 [.int .i64 1] fun y2 =>
    .qc2 144 [qv0 x0,qv0 (y2.1,y2.2.1,(((0:Int)):Int),())] fun y3 =>
    .ret [.bool (decide (y3≤(0:Int)))]) <|
 .rF) <|
 .rF) <|
 .rF
theorem fI_TaxRateOk x0:qft qa0 110 [qv0 x0] (tI_TaxRateOk x0) :=fitK (by kernel_rfl)
def tI_decSame (x0:qy0) (x1:qy0):T :=
 .qc1 136 [qv1 (x0.1,x0.2.1,()),qv1 (x1.1,x1.2.1,())] fun y1 =>
 .br y1 (
  .ret [.bool (x0.2.2.1 == x1.2.2.1)]) <|
 .rF
theorem fI_decSame x0 x1:qft qa0 111 [qv0 x0,qv0 x1] (tI_decSame x0 x1) :=fitK (by kernel_rfl)
def aI_DecLow:An:=⟨[(2,[.s 3,.c 2 0,.c 2 1,.c 2 2],[.o (.o (.i .i64)),.o (.o (.b)),.o (.o (.l)),.o (.o (.i .i64))])],[],[]⟩
def tI_DecLow (x0:qy0):T :=
 .lp [.o (.o (.i .i64)),.o (.o (.b)),.o (.o (.l)),.o (.o (.i .i64))] [.v (.int .i64 0),.v (.bool (false)),.v (.slice none 0 0),.v (.int .i64 0)] fun y1 =>
 .br (decide (y1.1≤x0.2.2.1)) (
  .br (decide (y1.1≤(30:Int))) (
   .qc8 146 [qv0 x0,.int .i64 y1.1] fun y2 =>
   .br y2.2.1 (
    .ret [qv0 y2.1]) <|
 .nx 0 [.v (.int .i64 (IntKind.i64.wrap (y1.1+(1:Int)))),.v (.bool y1.2.1),.v (Sc.val .l y1.2.2.1),.v (.int .i64 y1.2.2.2.1)]) <|
 .ret [qv0 ((false),nilS,(((0:Int)):Int),())]) <|
 .ret [qv0 ((false),nilS,(((0:Int)):Int),())]
theorem fI_DecLow x0:qft aI_DecLow 112 [qv0 x0] (tI_DecLow x0) :=fitK (by kernel_rfl)
def tI_isMode (x0:Int):T :=
 .br (decide (x0≥(0:Int))) (
  .ret [.bool (decide (x0≤(6:Int)))]) <|
 .rF
theorem fI_isMode x0:qft qa0 113 [.int .i64 x0] (tI_isMode x0) :=fitK (by kernel_rfl)
def tI_RateOk (x0:qy4):T :=
 .qc1 147 [.string x0.1] fun y1 =>
 .br y1 (
  .qc1 147 [.string x0.2.1] fun y2 =>
  .br y2 (
   .br (!ByteArray.toList x0.1 == ByteArray.toList x0.2.1) (
    .qc1 143 [qv0 x0.2.2] fun y3 =>
    .br y3 (
     .qc2 148 [qv1 (x0.2.2.1,x0.2.2.2.1,())] fun y4 =>
     .br (decide (y4 > (0:Int))) (
      .ret [.bool (decide ((↑x0.2.2.2.1.n:Int)≤(2:Int)))]) <|
 .rF) <|
 .rF) <|
 .rF) <|
 .rF) <|
 .rF
theorem fI_RateOk x0:qft qa0 114 [qv4 x0] (tI_RateOk x0) :=fitK (by kernel_rfl)
def aS_l02Trim:An:=⟨[(2,[.s 3],[.o (.o (.i .i64))])],[],[]⟩
def tS_l02Trim (x0:SlV):T :=
 .lp [.o (.o (.i .i64))] [.v (.int .i64 ((↑x0.n:Int)))] fun y1 =>
 .br (decide (y1.1 > (0:Int))) (
  .el x0.1 (x0.n) (IntKind.i64.wrap (y1.1-(1:Int))) fun y2 =>
  .ql13 (y2.add ((IntKind.i64.wrap (y1.1-(1:Int))).toNat*(1:Nat))) fun y3 =>
  .br (y3 == (0:Int)) (
   .nx 0 [.v (.int .i64 (IntKind.i64.wrap (y1.1-(1:Int))))]) <|
 .rq ((0:Int)≤(0:Int)∧(0:Int)≤y1.1∧y1.1≤(↑x0.c:Int)∧(↑x0.c:Int)≤(↑x0.c:Int)) <|
 .ret [.slice (if (↑x0.c:Int).toNat=Int.toNat (0:Int) then x0.1 else Option.map (fun x=>x.add (Int.toNat (0:Int)*Go.Proofs.Tryz.prog.types[(3:Nat)].size)) x0.1) (Int.toNat y1.1-Int.toNat (0:Int)) ((↑x0.c:Int).toNat-Int.toNat (0:Int))]) <|
 .rq ((0:Int)≤(0:Int)∧(0:Int)≤y1.1∧y1.1≤(↑x0.c:Int)∧(↑x0.c:Int)≤(↑x0.c:Int)) <|
 .ret [.slice (if (↑x0.c:Int).toNat=Int.toNat (0:Int) then x0.1 else Option.map (fun x=>x.add (Int.toNat (0:Int)*Go.Proofs.Tryz.prog.types[(3:Nat)].size)) x0.1) (Int.toNat y1.1-Int.toNat (0:Int)) ((↑x0.c:Int).toNat-Int.toNat (0:Int))]
theorem fS_l02Trim x0:qft aS_l02Trim 115 [Sc.val .l x0] (tS_l02Trim x0) :=fitK (by kernel_rfl)
def aS_l08Find:An:=⟨[(2,[.s 7,.c 2 0,.c 2 1,.c 2 2,.c 2 3],[.o (.o (.i .i64)),.o (.o (.s)),.o (.o (.s)),.o (.o (.i .i64)),.o (.o (.i .i64))])],[],[]⟩
def tS_l08Find (x0:ByteArray):T :=
 .qc3 149 [] fun y1 =>
 .lp [.o (.o (.i .i64)),.o (.o (.s)),.o (.o (.s)),.o (.o (.i .i64)),.o (.o (.i .i64))] [.v (.int .i64 0),.v (.string ({ data:={ toList:=[]:Array UInt8 }:ByteArray })),.v (.string ({ data:={ toList:=[]:Array UInt8 }:ByteArray })),.v (.int .i64 0),.v (.int .i64 0)] fun y2 =>
 .br (decide (y2.1<(↑y1.n:Int))) (
  .el y1.1 (y1.n) y2.1 fun y3 =>
  .ql37 (y3.add (Int.toNat y2.1*(4:Nat))) fun y4 =>
  .br (ByteArray.toList y4.1 == x0.toList) (
   .ret [qv5 y4]) <|
 .nx 0 [.v (.int .i64 (IntKind.i64.wrap (y2.1+(1:Int)))),.v (.string y2.2.1),.v (.string y2.2.2.1),.v (.int .i64 y2.2.2.2.1),.v (.int .i64 y2.2.2.2.2.1)]) <|
 .ret [qv5 (({ data:={ toList:=[]:Array UInt8 }:ByteArray }),({ data:={ toList:=[]:Array UInt8 }:ByteArray }),(((0:Int)):Int),(((0:Int)):Int),())]
theorem fS_l08Find x0:qft aS_l08Find 116 [.string x0] (tS_l08Find x0) :=fitK (by kernel_rfl)
def tS_IntOk (x0:qy1):T :=
 .qc1 125 [Sc.val .l x0.2.1] fun y1 =>
 .br y1 (
  .br (!x0.1) (
   .rT) <|
 .ret [.bool (decide ((↑x0.2.1.n:Int) > (0:Int)))]) <|
 .rF
theorem fS_IntOk x0:qft qa0 117 [qv1 x0] (tS_IntOk x0) :=fitK (by kernel_rfl)
end
end Go.Proofs.YtpkmhkbkohppiaaGreatDoor
