/-
  Accounts, books and remainders as data: accounts found, amounts posted, remainders added.
-/
import Derived.Test.YtmppmpceccpdlaaGreatDoorCw
import Derived.Test.YtmppmpceccpdlaaGreatDoorCv
namespace Go.Proofs.YtmppmpceccpdlaaGreatDoor
open Sx
set_option maxRecDepth 100000
def AlikeP (x y:DMoney):Prop:=MoneyOkP x.1 x.2.1 x.2.2.1∧MoneyOkP y.1 y.2.1 y.2.2.1∧x.1=y.1
noncomputable def theOne {α:Type} [Nonempty α] (p:α→Prop):α:=Classical.epsilon p
theorem theOne_eq {α:Type} [Nonempty α] {p:α→Prop} {x:α} (h:p x) (u:∀ y,p y→y=x):theOne p=x:=u _ (Classical.epsilon_spec (p:=p) ⟨x,h⟩)
theorem int_inj {e e':Bool} {o o':List Lim} (h:IntOkP e o) (h':IntOkP e' o') (k:sval e o=sval e' o'):e=e'∧o=o':=by
 have h0:=valN_nonneg h.1.1.1
 have h0':=valN_nonneg h'.1.1.1
 have z:∀ {e:Bool} {o:List Lim},IntOkP e o→e=true→0<valN o:=fun h k=>(can_pos h.1.1).1 (h.2 k)
 unfold sval at k
 cases e <;> cases e' <;> simp only [if_true,if_false,Bool.false_eq_true] at k
 ·exact⟨rfl,can_inj h.1.1 h'.1.1 (by omega)⟩
 ·have:=z h' rfl; omega
 ·have:=z h rfl; omega
 ·exact⟨rfl,can_inj h.1.1 h'.1.1 (by omega)⟩
abbrev nilM:DMoney:=(ByteArray.empty,false,[],())
abbrev MonP (x:DMoney):Prop:=MoneyOkP x.1 x.2.1 x.2.2.1
abbrev svM (x:DMoney):Int:=sval x.2.1 x.2.2.1
def AddP (x y:DMoney) (r:DMoney × Bool):Prop :=
 (r.2=true∧AlikeP x y∧MonP r.1∧r.1.1=x.1∧svM r.1=svM x+svM y) ∨
 (r.2=false∧r.1=nilM∧¬ (AlikeP x y∧∃ z:DMoney,MonP z∧z.1=x.1∧svM z=svM x+svM y))
theorem mon_inj {x y:DMoney} (h:MonP x) (k:MonP y) (e:x.1=y.1) (s:svM x=svM y):x=y:=by
 obtain⟨x0,x1,x2,xu⟩:=x
 obtain⟨y0,y1,y2,yu⟩:=y
 obtain⟨rfl,rfl⟩:=int_inj h.2.1 k.2.1 s
 replace e:x0=y0:=e
 subst e; rfl
theorem addP_inj {x y:DMoney} {r r':DMoney × Bool} (h:AddP x y r) (h':AddP x y r'):r'=r:=by
 obtain⟨z,ok⟩:=r
 obtain⟨z',ok'⟩:=r'
 rcases h with ⟨a,b,c,d,e⟩ | ⟨a,b,c⟩ <;> rcases h' with ⟨a',b',c',d',e'⟩ | ⟨a',b',c'⟩
 ·replace a:ok=true:=a
  replace a':ok'=true:=a'
  subst a a'
  rw [show z'=z from mon_inj c' c (d'.trans d.symm) (e'.trans e.symm)]
 ·exact absurd ⟨b,z,c,d,e⟩ c'
 ·exact absurd ⟨b',z',c',d',e'⟩ c
 ·replace a:ok=false:=a
  replace a':ok'=false:=a'
  replace b:z=nilM:=b
  replace b':z'=nilM:=b'
  subst a a' b b'; rfl
noncomputable def addM (x y:DMoney):DMoney × Bool:=theOne (AddP x y)
theorem addM_eq {x y:DMoney} {r:DMoney × Bool} (h:AddP x y r):addM x y=r:=theOne_eq h fun _ k=>addP_inj h k
def fnd (n:ByteArray):List DAcct→Option Nat
 | []=>none
 | a :: l=>if a.1=n then some 0 else (fnd n l).map (·+1)
theorem fnd_some {n:ByteArray}:∀ {l:List DAcct} {i:Nat} (h:i<l.length),l[i].1=n→(∀ (j:Nat) (hj:j<l.length),j<i→l[j].1≠n)→fnd n l=some i
 | a :: l,0,_,e,_=>by
  have e:a.1=n:=e
  rw [fnd,if_pos e]
 | a :: l,i+1,h,e,hj=>by
  have h0:a.1≠n:=hj 0 (by simp) (by omega)
  rw [fnd,if_neg h0,fnd_some (l:=l) (i:=i) (by simpa using h) (by simpa using e) fun j hj' hji=>by
   have:=hj (j+1) (by simpa using hj') (by omega)
   simpa using this]
  rfl
theorem fnd_none {n:ByteArray}:∀ {l:List DAcct},(∀ (j:Nat) (hj:j<l.length),l[j].1≠n)→fnd n l=none
 | [],_=>rfl
 | a :: l,h=>by
  have h0:a.1≠n:=h 0 (by simp)
  rw [fnd,if_neg h0,fnd_none (l:=l) fun j hj=>by
   have:=h (j+1) (by simpa using hj)
   simpa using this]
  rfl
theorem fnd_at {n:ByteArray}:∀ {l:List DAcct} {i:Nat},fnd n l=some i→∃ h:i<l.length,l[i].1=n
 | a :: l,i,h=>by
  rw [fnd] at h
  split at h
  ·rename_i e
   cases h
   exact⟨by simp,e⟩
  ·cases hf:fnd n l with
   | none=>rw [hf] at h; cases h
   | some j =>
    rw [hf] at h
    cases h
    obtain⟨h1,h2⟩:=fnd_at hf
    exact⟨by simpa using h1,by simpa using h2⟩
def atN (n:ByteArray) (l:List DAcct):Int:=match fnd n l with
 | none=>-1
 | some i=>i
theorem atN_none {n:ByteArray} {l:List DAcct} (h:fnd n l=none):atN n l=-1:=by rw [atN,h]
theorem atN_some {n:ByteArray} {l:List DAcct} {i:Nat} (h:fnd n l=some i):atN n l=i:=by rw [atN,h]
open Classical in
noncomputable def postB (l:List DAcct) (n:ByteArray) (m:DMoney):List DAcct × Bool :=
 if BookOkP l then match fnd n l with
  | none=>([],false)
  | some i=>if (addM (l.getD i (n,nilM)).2 m).2=true then (l.set i ((l.getD i (n,nilM)).1,(addM (l.getD i (n,nilM)).2 m).1),true) else ([],false)
 else ([],false)
theorem postB_no {l:List DAcct} {n:ByteArray} {m:DMoney} (h:¬ BookOkP l):postB l n m=([],false):=if_neg h
theorem postB_none {l:List DAcct} {n:ByteArray} {m:DMoney} (h:fnd n l=none):postB l n m=([],false):=by
 unfold postB
 rw [h]
 simp
theorem getD_at {l:List DAcct} {i:Nat} {d:DAcct} (h:i<l.length):l.getD i d=l[i]:=by
 rw [List.getD_eq_getElem?_getD,List.getElem?_eq_getElem h]; rfl
theorem postB_some {l:List DAcct} {n:ByteArray} {m:DMoney} {i:Nat} (h:BookOkP l) (hf:fnd n l=some i) (hi:i<l.length) {z:DMoney} {ok:Bool} (ha:addM l[i].2 m=(z,ok)) :
  postB l n m=(if ok=true then l.set i (l[i].1,z) else [],ok):=by
 unfold postB
 rw [if_pos h,hf]
 show(if (addM (l.getD i (n,nilM)).2 m).2=true then (l.set i ((l.getD i (n,nilM)).1,(addM (l.getD i (n,nilM)).2 m).1),true) else ([],false))=_
 rw [getD_at hi,ha]
 cases ok <;> rfl
theorem addM_ok {x y z:DMoney} (h:addM x y=(z,true)) (k:∃ r,AddP x y r):MonP z∧z.1=x.1:=by
 obtain⟨r,hr⟩:=k
 have:=(addM_eq hr).symm.trans h
 subst this
 rcases hr with ⟨_,_,h1,h2,_⟩ | ⟨h1,_⟩
 ·exact⟨h1,h2⟩
 ·cases h1
open Classical in
theorem addP_ex (x y:DMoney):∃ r,AddP x y r:=by
 by_cases h:AlikeP x y∧∃ z:DMoney,MonP z∧z.1=x.1∧svM z=svM x+svM y
 ·obtain⟨h1,z,h2,h3,h4⟩:=h
  exact⟨(z,true),.inl ⟨rfl,h1,h2,h3,h4⟩⟩
 ·exact⟨(nilM,false),.inr ⟨rfl,rfl,h⟩⟩
theorem book_set {l:List DAcct} (h:BookOkP l) {i:Nat} (hi:i<l.length) {z:DMoney} (hz:MonP z):BookOkP (l.set i (l[i].1,z)):=by
 have hk:∀ (j:Nat) (hj:j<(l.set i (l[i].1,z)).length),(l.set i (l[i].1,z))[j].1=(l[j]'(by simpa using hj)).1:=fun j hj=>by
  rw [List.getElem_set]
  split
  ·rename_i ij; subst ij; rfl
  ·rfl
 refine⟨by rw [List.length_set]; exact h.1,fun j hj=>?_⟩
 obtain⟨q0,q1,q2,q3⟩:=h.2 j (by simpa using hj)
 refine⟨hj,by rw [hk]; exact q1,?_,fun h0=>by rw [hk,hk]; exact q3 h0⟩
 rw [List.getElem_set]
 split
 ·exact hz
 ·exact q2
theorem postB_ok {l:List DAcct} {n:ByteArray} {m:DMoney} {y:List DAcct} (h:postB l n m=(y,true)):BookOkP y:=by
 by_cases hb:BookOkP l
 ·cases hf:fnd n l with
  | none=>rw [postB_none hf] at h; simp at h
  | some i =>
   obtain⟨hi,_⟩:=fnd_at hf
   obtain⟨⟨z,ok⟩,ha⟩:∃ r,addM l[i].2 m=r:=⟨_,rfl⟩
   rw [postB_some hb hf hi ha] at h
   cases ok with
   | false=>simp at h
   | true =>
    simp only [if_true,Prod.mk.injEq,and_true] at h
    subst h
    exact book_set hb hi (addM_ok ha (addP_ex _ _)).1
 ·rw [postB_no hb] at h; simp at h
abbrev zeroQ (y:DRat):Bool:=sgn (sval y.1 y.2.1) == 0
abbrev lesB (a b:ByteArray):Bool:=Op.bytesLess a.toList b.toList
def addR (cur:ByteArray) (y:DRat) (l:List DRest):List DRest :=
 l.filter (fun x=>lesB x.1 cur)++(if zeroQ y=true then [] else [(cur,y)])++l.filter (fun x=>lesB cur x.1)
def endR (cur:ByteArray) (y:DRat):List DRest→Bool→List DRest→List DRest
 | out,d,[]=>if (!d && !zeroQ y)=true then out++[(cur,y)] else out
 | out,d,x :: l=>if x.1=cur then endR cur y out d l else if (!d && lesB cur x.1 && !zeroQ y)=true then endR cur y (out++[(cur,y)]++[x]) true l else endR cur y (out++[x]) d l
abbrev Up (l:List DRest):Prop:=l.Pairwise fun a b=>LessP a.1 b.1
theorem les_no {a b:ByteArray} (h:LessP a b):lesB b a=false:=by
 cases k:lesB b a with
 | false=>rfl
 | true=>exact absurd (LessP.trans h k) LessP.irr
theorem les_ne {a b:ByteArray} (h:LessP a b):a≠b:=fun e=>by rw [e] at h; exact LessP.irr h
theorem fil_all {α:Type} {p:α→Bool}:∀ {l:List α},(∀ x∈l,p x=true)→l.filter p=l
 | _,h=>List.filter_eq_self.2 h
theorem fil_no {α:Type} {p:α→Bool} {l:List α} (h:∀ x∈l,p x=false):l.filter p=[]:=by
 rw [List.filter_eq_nil_iff]
 intro x hx
 rw [h x hx]; decide
theorem endR_done {cur:ByteArray} {y:DRat}:∀ {l out:List DRest} {d:Bool},(∀ x∈l,LessP cur x.1)→(d=true∨zeroQ y=true)→endR cur y out d l=out++l
 | [],out,d,_,h=>by
  rw [endR,if_neg (by rcases h with h | h <;> simp [h]),List.append_nil]
 | x :: l,out,d,hx,h=>by
  have h1:x.1≠cur:=(les_ne (hx x (by simp))).symm
  rw [endR,if_neg h1,if_neg (by rcases h with h | h <;> simp [h]),endR_done (fun z hz=>hx z (by simp [hz])) h]
  simp
theorem endR_eq {cur:ByteArray} {y:DRat}:∀ {l out:List DRest},Up l→endR cur y out false l=out++addR cur y l
 | [],out,_=>by
  rw [endR]
  unfold addR
  cases zeroQ y <;> simp
 | x :: l,out,h=>by
  obtain⟨h1,h2⟩:=List.pairwise_cons.1 h
  rw [endR]
  by_cases e:x.1=cur
  ·rw [if_pos e,endR_eq h2]
   have k:lesB x.1 cur=false∧lesB cur x.1=false:=by rw [e]; exact⟨bless_irr _,bless_irr _⟩
   unfold addR
   rw [List.filter_cons_of_neg (by simp [k.1]),List.filter_cons_of_neg (by simp [k.2])]
  ·rw [if_neg e]
   by_cases g:LessP cur x.1
   ·have ha:∀ z∈l,LessP cur z.1:=fun z hz=>g.trans (h1 z hz)
    have k1:(x :: l).filter (fun x=>lesB x.1 cur)=[]:=fil_no fun z hz=>by
     rcases List.mem_cons.1 hz with rfl | hz
     ·exact les_no g
     ·exact les_no (ha z hz)
    have k2:(x :: l).filter (fun x=>lesB cur x.1)=x :: l:=fil_all fun z hz=>by
     rcases List.mem_cons.1 hz with rfl | hz
     ·exact g
     ·exact ha z hz
    have gb:lesB cur x.1=true:=g
    unfold addR
    rw [k1,k2]
    cases hz:zeroQ y with
    | true =>
     rw [if_neg (by simp),endR_done ha (.inr hz)]
     simp
    | false =>
     rw [if_pos (by simp [gb]),endR_done ha (.inl rfl)]
     simp
   ·have gb:lesB cur x.1=false:=by cases k:lesB cur x.1 with | false=>rfl | true=>exact absurd k g
    have lb:lesB x.1 cur=true:=LessP.tot g (fun q=>e q.symm)
    rw [if_neg (by simp [gb]),endR_eq h2]
    unfold addR
    rw [List.filter_cons_of_pos (by simp [lb]),List.filter_cons_of_neg (by simp [gb])]
    simp
theorem addR_up {cur:ByteArray} {y:DRat} {l:List DRest} (h:Up l):Up (addR cur y l):=by
 unfold addR
 have a1:=h.filter (fun x:DRest=>lesB x.1 cur)
 have a2:=h.filter (fun x:DRest=>lesB cur x.1)
 refine List.pairwise_append.2 ⟨List.pairwise_append.2 ⟨a1,?_,fun a ha b hb=>?_⟩,a2,fun a ha b hb=>?_⟩
 ·split <;> simp
 ·split at hb
  ·cases hb
  ·rcases List.mem_singleton.1 hb with rfl
   exact(List.mem_filter.1 ha).2
 ·have hb':LessP cur b.1:=(List.mem_filter.1 hb).2
  rcases List.mem_append.1 ha with ha | ha
  ·exact LessP.trans (List.mem_filter.1 ha).2 hb'
  ·split at ha
   ·cases ha
   ·rcases List.mem_singleton.1 ha with rfl
    exact hb'
theorem addR_mem {cur:ByteArray} {y:DRat} {l:List DRest} {x:DRest} (h:x∈addR cur y l):x∈l∨(x=(cur,y)∧zeroQ y=false):=by
 unfold addR at h
 rcases List.mem_append.1 h with h | h
 ·rcases List.mem_append.1 h with h | h
  ·exact .inl (List.mem_filter.1 h).1
  ·split at h
   ·cases h
   ·rename_i k
    exact .inr ⟨List.mem_singleton.1 h,by simpa using k⟩
 ·exact .inl (List.mem_filter.1 h).1
theorem up_rests {l:List DRest} (h:RestsOkP l):Up l:=by
 refine List.pairwise_iff_getElem.2 ?_
 intro i j hi hj hij
 exact(rests_sorted h).lt hj hij
theorem rests_up {l:List DRest} (h:Up l) (k:∀ x∈l,known x.1=true∧RatOkP x.2.1 x.2.2.1 x.2.2.2.1∧sgn (sval x.2.1 x.2.2.1)≠0):RestsOkP l:=fun i hi =>
 ⟨hi,(k _ (List.getElem_mem hi)).1,(k _ (List.getElem_mem hi)).2.1,(k _ (List.getElem_mem hi)).2.2,fun h0=>List.pairwise_iff_getElem.1 h (i-1) i (by omega) hi (by omega)⟩
theorem rests_mem {l:List DRest} (h:RestsOkP l) {x:DRest} (hx:x∈l):known x.1=true∧RatOkP x.2.1 x.2.2.1 x.2.2.2.1∧sgn (sval x.2.1 x.2.2.1)≠0:=by
 obtain⟨i,hi,rfl⟩:=List.getElem_of_mem hx
 obtain⟨_,a,b,c,_⟩:=h i hi
 exact⟨a,b,c⟩
theorem addR_ok {cur:ByteArray} {y:DRat} {l:List DRest} (h:RestsOkP l) (hc:known cur=true) (hy:RatOkP y.1 y.2.1 y.2.2.1):RestsOkP (addR cur y l) :=
 rests_up (addR_up (up_rests h)) fun x hx=>by
  rcases addR_mem hx with hx | ⟨rfl,hz⟩
  ·exact rests_mem h hx
  ·refine⟨hc,hy,fun e=>?_⟩
   have e:sgn (sval y.1 y.2.1)=0:=e
   unfold zeroQ at hz
   rw [e] at hz
   cases hz
def keyB (k:ByteArray) (x:DRest):Bool:=decide (x.1=k)
abbrev rS (x:DRat):Int:=sval x.1 x.2.1
abbrev rD (x:DRat):Int:=valN x.2.2.1
abbrev RatP (x:DRat):Prop:=RatOkP x.1 x.2.1 x.2.2.1
theorem ratP_pos {x:DRat} (h:RatP x):0<rD x:=(can_pos h.2.1.1).1 h.2.2.1
def AddRP (x y:DRat) (r:DRat × Bool):Prop:=RedS (rS x*rD y+rS y*rD x) (rD x*rD y) r.1 r.2
def atR (l:List DRest) (c:ByteArray):DRat:=((l.find? (keyB c)).map (·.2)).getD nought
theorem atR_ok {l:List DRest} (h:RestsOkP l) (c:ByteArray):RatP (atR l c):=by
 unfold atR
 cases hf:l.find? (keyB c) with
 | none=>exact nought_ok
 | some x=>exact(rests_mem h (List.mem_of_find?_eq_some hf)).2.1
end Go.Proofs.YtmppmpceccpdlaaGreatDoor
