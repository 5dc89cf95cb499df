/-
  What the laws on DoPut, DoTake and DoMove ask: the answers in their form; a ledger stays valid.
-/
import Derived.Test.YtceoihhldnnenaaGreatDoorPerf
namespace Go.Proofs.YtceoihhldnnenaaGreatDoor
open Sx
set_option maxRecDepth 100000
def balP (l:List DAcct) (n:ByteArray):DMoney:=match fnd n l with
 | none=>nilM
 | some i=>(l.getD i (n,nilM)).2
theorem balP_some {l:List DAcct} {n:ByteArray} {i:Nat} (h:fnd n l=some i) (hi:i<l.length):balP l n=l[i].2:=by
 rw [balP,h]
 show(l.getD i (n,nilM)).2=_
 rw [getD_at hi]
theorem balP_none {l:List DAcct} {n:ByteArray} (h:fnd n l=none):balP l n=nilM:=by rw [balP,h]
theorem cI_BalanceOf (V:Know) (s:SlV) (l:List DAcct) (f:List Nat) (h:LR rAcct V s l f) (ht:totE rAcct l≤1048576) (n:ByteArray):CallX Tryz.prog V 242 [qv4 (s,()),.string n]
  (fun V' v=>V.le V'∧∃ c f,v=.tuple #[qv3 c,.bool (decide (fnd n l≠none))]∧rMoney.R V' c (balP l n) f∧Own V V' f):=by
 refine CallX.of_fits Tryz.mix (fI_BalanceOf _ _) fun _=>?_
 simp only [tI_BalanceOf,T.wp]
 refine(cI_AcctAt V s l f h n).mono ?_
 rintro V1 _ ⟨le1,rfl⟩
 refine⟨nofun,_,rfl,fun hlt=>?_,fun hge=>?_⟩
 ·have hf:=at_neg.1 (of_decide_eq_true hlt)
  rw [balP_none hf,hf]
  exact⟨le1,(ByteArray.empty,false,⟨none,0,0⟩,()),[],rfl,nilM_R V1,Own.nil⟩
 obtain⟨i,hi,hfi,hat,_⟩:=at_some (of_decide_eq_false hge)
 have e0:(i:Int).toNat=i:=by omega
 rw [hat,e0,balP_some hfi hi,hfi]
 have hn:=h.1
 obtain⟨b1,o1,c1,fc,a1,l1,hR,_⟩:=(h.le le1).at hi
 have htx:=totE_mem rAcct hi
 have et:rAcct.tot l[i]=l[i].1.size+rMoney.tot l[i].2:=rfl
 refine⟨_,a1,by omega,(by show(i:Int)<(s.n:Int); omega),c1.2,load_part l1 rfl,(kI_moneyCopy V1 c1.2 l[i].2 fc hR.2 (by omega)).mono ?_⟩
 rintro V2 _ ⟨le2,c2,f2,rfl,R2,O2⟩
 exact⟨nofun,c2,rfl,le1.trans le2,c2,f2,rfl,R2,O2.pre le1⟩
theorem ledger_mk {V:Know} {s0 s1 s3:SlV} {c2:ByteArray} {x:DLedger} {f0 f1 f3:List Nat} (h0:LR rAcct V s0 x.1 f0) (h1:LR rRest V s1 x.2.1 f1) (hc:c2=x.2.2.1) (z:c2.size≤9223372036854775807) (h3:LR rRate V s3 x.2.2.2.1 f3) :
  rLedger.R V (s0,s1,c2,s3,()) x (f0++(f1++f3)):=by
 refine rSl.mk (r:=rSl rRest (rStr (rSl rRate rNil))) h0 (rSl.mk (r:=rStr (rSl rRate rNil)) h1 ⟨⟨hc,hc ▸ z⟩,f3,[],by simp,h3,rfl⟩)
end Go.Proofs.YtceoihhldnnenaaGreatDoor
namespace Go.Proofs.YtceoihhldnnenaaGreatDoor
open Sx
set_option maxRecDepth 100000
end Go.Proofs.YtceoihhldnnenaaGreatDoor
namespace Go.Proofs.YtceoihhldnnenaaGreatDoor
open Sx
set_option maxRecDepth 100000
theorem do_inj {x x':DLedger} {n n':Int} {y:DLedger × Int} (h:(x,n)=y) (h':(x',n')=y):x=x'∧n=n':=by
 have:=h.trans h'.symm
 simpa using this
def Ans (y:DLedger × Int):Prop:=(y.2=0∧LedgerOkP y.1)∨(y.2≠0∧y.1=zeroL)
theorem ans_perf {x:DLedger} {y:DLedger × Int} (h:LedgerOkP x→Ans y):Ans (perfP x y):=by
 by_cases k:LedgerOkP x
 ·rw [perfP_ok k]; exact h k
 ·rw [perfP_no k]; exact .inr ⟨by decide,rfl⟩
theorem ans_tot {y:DLedger × Int} (h:Ans y) {x:DLedger} {n:Int} (e:(x,n)=y):rLedger.tot x≤1048576:=by
 subst e
 rcases h with ⟨_,h⟩ | ⟨_,h⟩
 ·exact Nat.le_trans (ledger_tot h) (by decide)
 ·replace h:x=zeroL:=h
  subst h; decide
abbrev UI (V:Know) (y:DLedger × Int):Know→Value→Prop:=fun V' v=>V.le V'∧∃ c x f n,v=.tuple #[qv2 c,.int .i64 n]∧rLedger.R V' c x f∧Own V V' f∧(x,n)=y
abbrev US (V:Know) (y:DLedger × Int):Know→Value→Prop:=fun V' v=>V.le V'∧∃ c x f n,v=.tuple #[qv2 c,.int .i64 n]∧rLedger.R V' c x f∧True∧(x,n)=y
theorem doPost_u {V V':Know} {y:DLedger × Int} {v:Value} (h:DoPost V y V' v):UI V y V' v:=by
 obtain⟨le,c,f,e,R,O⟩:=h
 exact⟨le,c,_,f,_,e,R,O,rfl⟩
theorem doS_u {V V':Know} {y:DLedger × Int} {v:Value} (h:DoS V y V' v):US V y V' v:=by
 obtain⟨le,c,f,e,R⟩:=h
 exact⟨le,c,_,f,_,e,R,trivial,rfl⟩
end Go.Proofs.YtceoihhldnnenaaGreatDoor
namespace Go.Proofs.YtceoihhldnnenaaGreatDoor
open Sx
set_option maxRecDepth 100000
theorem book_set {l:List DAcct} (h:BookOkP l) {i:Nat} (hi:i<l.length) {z:DMoney} (hz:MonP z):BookOkP (l.set i (l[i].1,z)):=by
 have hk:∀ (j:Nat) (hj:j<(l.set i (l[i].1,z)).length),(l.set i (l[i].1,z))[j].1=(l[j]'(by simpa using hj)).1:=fun j hj=>by
  rw [List.getElem_set]
  split
  ·rename_i ij; subst ij; rfl
  ·rfl
 refine⟨by rw [List.length_set]; exact h.1,fun j hj=>?_⟩
 obtain⟨q0,q1,q2,q3⟩:=h.2 j (by simpa using hj)
 refine⟨hj,by rw [hk]; exact q1,?_,fun h0=>by rw [hk,hk]; exact q3 h0⟩
 rw [List.getElem_set]
 split
 ·exact hz
 ·exact q2
end Go.Proofs.YtceoihhldnnenaaGreatDoor
