/-
  Amounts posted to a book: the plain law.
-/
import Derived.Test.YtccnjccabllcaaaGreatDoorValid
import Derived.Test.YtccnjccabllcaaaGreatDoorCmp
namespace Go.Proofs.YtccnjccabllcaaaGreatDoor
open Sx
set_option maxRecDepth 100000
def fnd (n:ByteArray):List DAcct→Option Nat
 | []=>none
 | a :: l=>if a.1=n then some 0 else (fnd n l).map (·+1)
theorem fnd_some {n:ByteArray}:∀ {l:List DAcct} {i:Nat} (h:i<l.length),l[i].1=n→(∀ (j:Nat) (hj:j<l.length),j<i→l[j].1≠n)→fnd n l=some i
 | a :: l,0,_,e,_=>by
  have e:a.1=n:=e
  rw [fnd,if_pos e]
 | a :: l,i+1,h,e,hj=>by
  have h0:a.1≠n:=hj 0 (by simp) (by omega)
  rw [fnd,if_neg h0,fnd_some (l:=l) (i:=i) (by simpa using h) (by simpa using e) fun j hj' hji=>by
   have:=hj (j+1) (by simpa using hj') (by omega)
   simpa using this]
  rfl
theorem fnd_none {n:ByteArray}:∀ {l:List DAcct},(∀ (j:Nat) (hj:j<l.length),l[j].1≠n)→fnd n l=none
 | [],_=>rfl
 | a :: l,h=>by
  have h0:a.1≠n:=h 0 (by simp)
  rw [fnd,if_neg h0,fnd_none (l:=l) fun j hj=>by
   have:=h (j+1) (by simpa using hj)
   simpa using this]
  rfl
def atN (n:ByteArray) (l:List DAcct):Int:=match fnd n l with
 | none=>-1
 | some i=>i
theorem atN_none {n:ByteArray} {l:List DAcct} (h:fnd n l=none):atN n l=-1:=by rw [atN,h]
theorem atN_some {n:ByteArray} {l:List DAcct} {i:Nat} (h:fnd n l=some i):atN n l=i:=by rw [atN,h]
end Go.Proofs.YtccnjccabllcaaaGreatDoor
