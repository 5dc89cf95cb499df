/-
  Amounts posted to a book: the plain law.
-/
import Derived.Test.YtccnjccabllcaaaGreatDoorValid
import Derived.Test.YtccnjccabllcaaaGreatDoorCmp
namespace Go.Proofs.YtccnjccabllcaaaGreatDoor
open Sx
set_option maxRecDepth 100000
noncomputable def theOne {α:Type} [Nonempty α] (p:α→Prop):α:=Classical.epsilon p
theorem theOne_eq {α:Type} [Nonempty α] {p:α→Prop} {x:α} (h:p x) (u:∀ y,p y→y=x):theOne p=x:=u _ (Classical.epsilon_spec (p:=p) ⟨x,h⟩)
theorem int_inj {e e':Bool} {o o':List Lim} (h:IntOkP e o) (h':IntOkP e' o') (k:sval e o=sval e' o'):e=e'∧o=o':=by
 have h0:=valN_nonneg h.1.1.1
 have h0':=valN_nonneg h'.1.1.1
 have z:∀ {e:Bool} {o:List Lim},IntOkP e o→e=true→0<valN o:=fun h k=>(can_pos h.1.1).1 (h.2 k)
 unfold sval at k
 cases e <;> cases e' <;> simp only [if_true,if_false,Bool.false_eq_true] at k
 ·exact⟨rfl,can_inj h.1.1 h'.1.1 (by omega)⟩
 ·have:=z h' rfl; omega
 ·have:=z h rfl; omega
 ·exact⟨rfl,can_inj h.1.1 h'.1.1 (by omega)⟩
abbrev nilM:DMoney:=(ByteArray.empty,false,[],())
abbrev MonP (x:DMoney):Prop:=MoneyOkP x.1 x.2.1 x.2.2.1
abbrev svM (x:DMoney):Int:=sval x.2.1 x.2.2.1
def AddP (x y:DMoney) (r:DMoney × Bool):Prop :=
 (r.2=true∧AlikeP x y∧MonP r.1∧r.1.1=x.1∧svM r.1=svM x+svM y) ∨
 (r.2=false∧r.1=nilM∧¬ (AlikeP x y∧∃ z:DMoney,MonP z∧z.1=x.1∧svM z=svM x+svM y))
theorem mon_inj {x y:DMoney} (h:MonP x) (k:MonP y) (e:x.1=y.1) (s:svM x=svM y):x=y:=by
 obtain⟨x0,x1,x2,xu⟩:=x
 obtain⟨y0,y1,y2,yu⟩:=y
 obtain⟨rfl,rfl⟩:=int_inj h.2.1 k.2.1 s
 replace e:x0=y0:=e
 subst e; rfl
theorem addP_inj {x y:DMoney} {r r':DMoney × Bool} (h:AddP x y r) (h':AddP x y r'):r'=r:=by
 obtain⟨z,ok⟩:=r
 obtain⟨z',ok'⟩:=r'
 rcases h with ⟨a,b,c,d,e⟩ | ⟨a,b,c⟩ <;> rcases h' with ⟨a',b',c',d',e'⟩ | ⟨a',b',c'⟩
 ·replace a:ok=true:=a
  replace a':ok'=true:=a'
  subst a a'
  rw [show z'=z from mon_inj c' c (d'.trans d.symm) (e'.trans e.symm)]
 ·exact absurd ⟨b,z,c,d,e⟩ c'
 ·exact absurd ⟨b',z',c',d',e'⟩ c
 ·replace a:ok=false:=a
  replace a':ok'=false:=a'
  replace b:z=nilM:=b
  replace b':z'=nilM:=b'
  subst a a' b b'; rfl
noncomputable def addM (x y:DMoney):DMoney × Bool:=theOne (AddP x y)
theorem addM_eq {x y:DMoney} {r:DMoney × Bool} (h:AddP x y r):addM x y=r:=theOne_eq h fun _ k=>addP_inj h k
def fnd (n:ByteArray):List DAcct→Option Nat
 | []=>none
 | a :: l=>if a.1=n then some 0 else (fnd n l).map (·+1)
theorem fnd_some {n:ByteArray}:∀ {l:List DAcct} {i:Nat} (h:i<l.length),l[i].1=n→(∀ (j:Nat) (hj:j<l.length),j<i→l[j].1≠n)→fnd n l=some i
 | a :: l,0,_,e,_=>by
  have e:a.1=n:=e
  rw [fnd,if_pos e]
 | a :: l,i+1,h,e,hj=>by
  have h0:a.1≠n:=hj 0 (by simp) (by omega)
  rw [fnd,if_neg h0,fnd_some (l:=l) (i:=i) (by simpa using h) (by simpa using e) fun j hj' hji=>by
   have:=hj (j+1) (by simpa using hj') (by omega)
   simpa using this]
  rfl
theorem fnd_none {n:ByteArray}:∀ {l:List DAcct},(∀ (j:Nat) (hj:j<l.length),l[j].1≠n)→fnd n l=none
 | [],_=>rfl
 | a :: l,h=>by
  have h0:a.1≠n:=h 0 (by simp)
  rw [fnd,if_neg h0,fnd_none (l:=l) fun j hj=>by
   have:=h (j+1) (by simpa using hj)
   simpa using this]
  rfl
theorem fnd_at {n:ByteArray}:∀ {l:List DAcct} {i:Nat},fnd n l=some i→∃ h:i<l.length,l[i].1=n
 | a :: l,i,h=>by
  rw [fnd] at h
  split at h
  ·rename_i e
   cases h
   exact⟨by simp,e⟩
  ·cases hf:fnd n l with
   | none=>rw [hf] at h; cases h
   | some j =>
    rw [hf] at h
    cases h
    obtain⟨h1,h2⟩:=fnd_at hf
    exact⟨by simpa using h1,by simpa using h2⟩
def atN (n:ByteArray) (l:List DAcct):Int:=match fnd n l with
 | none=>-1
 | some i=>i
theorem atN_none {n:ByteArray} {l:List DAcct} (h:fnd n l=none):atN n l=-1:=by rw [atN,h]
theorem atN_some {n:ByteArray} {l:List DAcct} {i:Nat} (h:fnd n l=some i):atN n l=i:=by rw [atN,h]
open Classical in
noncomputable def postB (l:List DAcct) (n:ByteArray) (m:DMoney):List DAcct × Bool :=
 if BookOkP l then match fnd n l with
  | none=>([],false)
  | some i=>if (addM (l.getD i (n,nilM)).2 m).2=true then (l.set i ((l.getD i (n,nilM)).1,(addM (l.getD i (n,nilM)).2 m).1),true) else ([],false)
 else ([],false)
theorem postB_no {l:List DAcct} {n:ByteArray} {m:DMoney} (h:¬ BookOkP l):postB l n m=([],false):=if_neg h
theorem postB_none {l:List DAcct} {n:ByteArray} {m:DMoney} (h:fnd n l=none):postB l n m=([],false):=by
 unfold postB
 rw [h]
 simp
theorem getD_at {l:List DAcct} {i:Nat} {d:DAcct} (h:i<l.length):l.getD i d=l[i]:=by
 rw [List.getD_eq_getElem?_getD,List.getElem?_eq_getElem h]; rfl
theorem postB_some {l:List DAcct} {n:ByteArray} {m:DMoney} {i:Nat} (h:BookOkP l) (hf:fnd n l=some i) (hi:i<l.length) {z:DMoney} {ok:Bool} (ha:addM l[i].2 m=(z,ok)) :
  postB l n m=(if ok=true then l.set i (l[i].1,z) else [],ok):=by
 unfold postB
 rw [if_pos h,hf]
 show(if (addM (l.getD i (n,nilM)).2 m).2=true then (l.set i ((l.getD i (n,nilM)).1,(addM (l.getD i (n,nilM)).2 m).1),true) else ([],false))=_
 rw [getD_at hi,ha]
 cases ok <;> rfl
noncomputable def postL:List DAcct→List DAcct→Option (List DAcct)
 | l,[]=>some l
 | l,g :: gs=>match postB l g.1 g.2 with
  | (l',true)=>postL l' gs
  | (_,false)=>none
end Go.Proofs.YtccnjccabllcaaaGreatDoor
