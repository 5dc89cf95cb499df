/-
  What the laws on operations ask: both answers are one; a result is small.
-/
import Derived.Test.YtccnjccabllcaaaGreatDoorPerf
namespace Go.Proofs.YtccnjccabllcaaaGreatDoor
open Sx
set_option maxRecDepth 100000
theorem do_inj {x x':DLedger} {n n':Int} {y:DLedger × Int} (h:(x,n)=y) (h':(x',n')=y):x=x'∧n=n':=by
 have:=h.trans h'.symm
 simpa using this
def Ans (y:DLedger × Int):Prop:=(y.2=0∧LedgerOkP y.1)∨(y.2≠0∧y.1=zeroL)
theorem ans_perf {x:DLedger} {y:DLedger × Int} (h:LedgerOkP x→Ans y):Ans (perfP x y):=by
 by_cases k:LedgerOkP x
 ·rw [perfP_ok k]; exact h k
 ·rw [perfP_no k]; exact .inr ⟨by decide,rfl⟩
theorem ans_tot {y:DLedger × Int} (h:Ans y) {x:DLedger} {n:Int} (e:(x,n)=y):rLedger.tot x≤1048576:=by
 subst e
 rcases h with ⟨_,h⟩ | ⟨_,h⟩
 ·exact Nat.le_trans (ledger_tot h) (by decide)
 ·replace h:x=zeroL:=h
  subst h; decide
abbrev UI (V:Know) (y:DLedger × Int):Know→Value→Prop:=fun V' v=>V.le V'∧∃ c x f n,v=.tuple #[Sh1.val (.g [.l,.l,.s,.l]) c,.int .i64 n]∧rLedger.R V' c x f∧Own V V' f∧(x,n)=y
abbrev US (V:Know) (y:DLedger × Int):Know→Value→Prop:=fun V' v=>V.le V'∧∃ c x f n,v=.tuple #[Sh1.val (.g [.l,.l,.s,.l]) c,.int .i64 n]∧rLedger.R V' c x f∧True∧(x,n)=y
theorem doPost_u {V V':Know} {y:DLedger × Int} {v:Value} (h:DoPost V y V' v):UI V y V' v:=by
 obtain⟨le,c,f,e,R,O⟩:=h
 exact⟨le,c,_,f,_,e,R,O,rfl⟩
theorem doS_u {V V':Know} {y:DLedger × Int} {v:Value} (h:DoS V y V' v):US V y V' v:=by
 obtain⟨le,c,f,e,R⟩:=h
 exact⟨le,c,_,f,_,e,R,trivial,rfl⟩
end Go.Proofs.YtccnjccabllcaaaGreatDoor
