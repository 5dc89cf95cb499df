/-
  What the laws on operations ask: both answers are one; a result is small.
-/
import Derived.Test.YtccnjccabllcaaaGreatDoorPerf
namespace Go.Proofs.YtccnjccabllcaaaGreatDoor
open Sx
set_option maxRecDepth 100000
theorem do_inj {x x':DLedger} {n n':Int} {y:DLedger × Int} (h:(x,n)=y) (h':(x',n')=y):x=x'∧n=n':=by
 have:=h.trans h'.symm
 simpa using this
def Ans (y:DLedger × Int):Prop:=(y.2=0∧LedgerOkP y.1)∨(y.2≠0∧y.1=zeroL)
theorem ans_perf {x:DLedger} {y:DLedger × Int} (h:LedgerOkP x→Ans y):Ans (perfP x y):=by
 by_cases k:LedgerOkP x
 ·rw [perfP_ok k]; exact h k
 ·rw [perfP_no k]; exact .inr ⟨by decide,rfl⟩
theorem ans_tot {y:DLedger × Int} (h:Ans y) {x:DLedger} {n:Int} (e:(x,n)=y):rLedger.tot x≤1048576:=by
 subst e
 rcases h with ⟨_,h⟩ | ⟨_,h⟩
 ·exact Nat.le_trans (ledger_tot h) (by decide)
 ·replace h:x=zeroL:=h
  subst h; decide
theorem ratesOk_put {p:ByteArray} {l:List DRate} {r:DRate} (h:RatesOkP p l) (hr:RateOkP r) (hn:(putR r l).length≤12):RatesOkP p (putR r l):=by
 by_cases c:∃ (i:Nat) (hi:i<l.length),rkey l[i]=rkey r
 ·obtain⟨i,hi,e⟩:=c
  have hj:∀ (j:Nat) (hj:j<l.length),j<i→rkey l[j]≠rkey r:=fun j hj hji e2=>by
   obtain⟨_,_,q⟩:=h.2.2 i hi
   exact q j hj hji (e2.trans e.symm)
  rw [putR_at hi e hj]
  exact ratesOk_set h hr hi e
 ·have hno:∀ (j:Nat) (hj:j<l.length),rkey l[j]≠rkey r:=fun j hj e=>c ⟨j,hj,e⟩
  rw [putR_none hno] at hn ⊢
  exact(ratesOk_snoc h hr hno).2 (by simpa using hn)
theorem rateRun_ans {x:DLedger} {r:DRate} (h:LedgerOkP x):Ans (rateRun x r):=by
 by_cases k:RateOkP r
 ·by_cases q:PutOk x.2.2.1 x.2.2.2.1 r
  ·rw [rateRun_ok k q]
   exact .inl ⟨rfl,h.1,h.2.1,ratesOk_put h.2.2 k q.2.2⟩
  ·rw [rateRun_full k q]
   exact .inr ⟨by decide,rfl⟩
 ·rw [rateRun_form k]
  exact .inr ⟨by decide,rfl⟩
abbrev UI (V:Know) (y:DLedger × Int):Know→Value→Prop:=fun V' v=>V.le V'∧∃ c x f n,v=.tuple #[Sh1.val (.g [.l,.l,.s,.l]) c,.int .i64 n]∧rLedger.R V' c x f∧Own V V' f∧(x,n)=y
abbrev US (V:Know) (y:DLedger × Int):Know→Value→Prop:=fun V' v=>V.le V'∧∃ c x f n,v=.tuple #[Sh1.val (.g [.l,.l,.s,.l]) c,.int .i64 n]∧rLedger.R V' c x f∧True∧(x,n)=y
theorem doPost_u {V V':Know} {y:DLedger × Int} {v:Value} (h:DoPost V y V' v):UI V y V' v:=by
 obtain⟨le,c,f,e,R,O⟩:=h
 exact⟨le,c,_,f,_,e,R,O,rfl⟩
theorem doS_u {V V':Know} {y:DLedger × Int} {v:Value} (h:DoS V y V' v):US V y V' v:=by
 obtain⟨le,c,f,e,R⟩:=h
 exact⟨le,c,_,f,_,e,R,trivial,rfl⟩
theorem uI_DoRate {V:Know} (hV:HcI V) (c:Scs LedSh) (x:DLedger) (f:List Nat) (h:rLedger.R V c x f) (ht:rLedger.tot x≤1048576) (d:Scs [.s,.s,.b,.l,.i .i64]) (r:DRate) (g:List Nat) (hr:rRate.R V d r g) (tr:rRate.tot r≤1048576) :
  CallX Tryz.prog V gI_DoRate [Sh1.val (.g [.l,.l,.s,.l]) c,Sh1.val (.g [.s,.s,.b,.l,.i .i64]) d] (UI V (perfP x (rateRun x r))):=(cI_DoRate hV c x f h ht d r g hr tr).mono (fun _ _=>doPost_u)
theorem uS_DoRate {V:Know} (hV:HcS V) (c:Scs LedSh) (x:DLedger) (f:List Nat) (h:rLedger.R V c x f) (ht:rLedger.tot x≤1048576) (d:Scs [.s,.s,.b,.l,.i .i64]) (r:DRate) (g:List Nat) (hr:rRate.R V d r g) (tr:rRate.tot r≤1048576) :
  CallX Tryz.prog V gS_DoRate [Sh1.val (.g [.l,.l,.s,.l]) c,Sh1.val (.g [.s,.s,.b,.l,.i .i64]) d] (US V (perfP x (rateRun x r))):=(cS_DoRate hV c x f h ht d r g hr tr).mono (fun _ _=>doS_u)
end Go.Proofs.YtccnjccabllcaaaGreatDoor
