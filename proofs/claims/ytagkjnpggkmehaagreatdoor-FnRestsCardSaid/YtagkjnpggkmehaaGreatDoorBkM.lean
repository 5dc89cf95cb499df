/-
  Accounts, books and remainders as data: accounts found, amounts posted, remainders added.
-/
import Derived.Test.YtagkjnpggkmehaaGreatDoorCuB
import Derived.Test.YtagkjnpggkmehaaGreatDoorRead
import Derived.KernelRfl
import Derived.Test.YtagkjnpggkmehaaGreatDoorTxt
namespace Go.Proofs.YtagkjnpggkmehaaGreatDoor
open Sx
set_option maxRecDepth 100000
end Go.Proofs.YtagkjnpggkmehaaGreatDoor
namespace Go.Proofs.YtagkjnpggkmehaaGreatDoor
open Sx
set_option maxRecDepth 100000
theorem cS_l01New (V:Know) (s:SlV) (l:List (Int × Unit)) (f:List Nat) (h:LR rBy V s l f):CallX Tryz.prog V 43 [Sc.val .l s] (fun V' r=>V.le V'∧∃ b,r=.pointer (some ⟨b,0,none⟩)∧V b=none∧Cx V b s V'):=by
 refine CallX.of_fits Tryz.mix (fS_l01New _) fun _=>?_
 simp only [tS_l01New,T.wp]
 have hn:=h.1
 have h63:=h.2.2.1
 refine⟨fun y V'=>V'=V∧∃ k:Nat,y.2.1=(k:Int)∧k≤l.length,fun y _=>((l.length:Int)-(y.2.1:Int)).toNat,⟨(_,(0:Int),()),rfl,rfl,0,rfl,Nat.zero_le _⟩,?_⟩
 rintro⟨(g:Int),(i:Int),u⟩ V' ⟨rfl,k,hi,hk⟩
 replace hi:i=(k:Int):=hi
 subst hi
 have fin:∀ b2,V' b2=none→(V'.le (kset V' b2 ([Sc.val .l s,.int .i64 0,.int .i64 g],(tyC,(0,0))))∧∃ b,packed [.pointer (some ⟨b2,0,none⟩)]=.pointer (some ⟨b,0,none⟩)∧V' b=none∧Cx V' b s (kset V' b2 ([Sc.val .l s,.int .i64 0,.int .i64 g],(tyC,(0,0))))) :=
  fun b2 hb2=>⟨kset_le hb2,b2,rfl,hb2,kset_le hb2,hb2,⟨0,g,Int.le_refl _,kset_same⟩,l,f,h⟩
 refine⟨fun hlt=>⟨fun _=>?_,fun _=>fin⟩,fun _=>fin⟩
 have hi2:k<l.length:=by
  have:(k:Int)<(s.n:Int):=of_decide_eq_true hlt
  omega
 obtain⟨b1,o1,c1,fc,a1,l1,hR,_⟩:=h.at hi2
 dsimp only
 rw [Int.toNat_natCast]
 refine⟨_,a1,by omega,(by omega:(k:Int)<(s.n:Int)),c1.1,l1,_,rfl,(_,((k+1:Nat):Int),()),by rw [nxt hi2 (by omega)]; rfl,⟨rfl,k+1,rfl,hi2⟩,?_⟩
 show((l.length:Int)-((k+1:Nat):Int)).toNat<((l.length:Int)-(k:Int)).toNat
 omega
end Go.Proofs.YtagkjnpggkmehaaGreatDoor
namespace Go.Proofs.YtagkjnpggkmehaaGreatDoor
open Sx
theorem rd_By (W:World):Rd Tryz.prog W 5 rBy:=by
 intro H enc sp held fuel cs x h
 obtain⟨n,rfl,_,_⟩:=DataW.trod_int (show Tryz.prog.underlying 5=some (.int .u8) by kernel_rfl) h
 exact⟨(n,()),(n,()),[],rfl,rfl,rfl⟩
end Go.Proofs.YtagkjnpggkmehaaGreatDoor
namespace Go.Proofs.YtagkjnpggkmehaaGreatDoor
open Sx
set_option maxRecDepth 100000
abbrev zeroQ (y:DRat):Bool:=sgn (sval y.1 y.2.1) == 0
abbrev lesB (a b:ByteArray):Bool:=Op.bytesLess a.toList b.toList
def addR (cur:ByteArray) (y:DRat) (l:List DRest):List DRest :=
 l.filter (fun x=>lesB x.1 cur)++(if zeroQ y=true then [] else [(cur,y)])++l.filter (fun x=>lesB cur x.1)
def endR (cur:ByteArray) (y:DRat):List DRest→Bool→List DRest→List DRest
 | out,d,[]=>if (!d && !zeroQ y)=true then out++[(cur,y)] else out
 | out,d,x :: l=>if x.1=cur then endR cur y out d l else if (!d && lesB cur x.1 && !zeroQ y)=true then endR cur y (out++[(cur,y)]++[x]) true l else endR cur y (out++[x]) d l
abbrev Up (l:List DRest):Prop:=l.Pairwise fun a b=>LessP a.1 b.1
theorem les_no {a b:ByteArray} (h:LessP a b):lesB b a=false:=by
 cases k:lesB b a with
 | false=>rfl
 | true=>exact absurd (LessP.trans h k) LessP.irr
theorem les_ne {a b:ByteArray} (h:LessP a b):a≠b:=fun e=>by rw [e] at h; exact LessP.irr h
theorem fil_all {α:Type} {p:α→Bool}:∀ {l:List α},(∀ x∈l,p x=true)→l.filter p=l
 | _,h=>List.filter_eq_self.2 h
theorem fil_no {α:Type} {p:α→Bool} {l:List α} (h:∀ x∈l,p x=false):l.filter p=[]:=by
 rw [List.filter_eq_nil_iff]
 intro x hx
 rw [h x hx]; decide
theorem endR_done {cur:ByteArray} {y:DRat}:∀ {l out:List DRest} {d:Bool},(∀ x∈l,LessP cur x.1)→(d=true∨zeroQ y=true)→endR cur y out d l=out++l
 | [],out,d,_,h=>by
  rw [endR,if_neg (by rcases h with h | h <;> simp [h]),List.append_nil]
 | x :: l,out,d,hx,h=>by
  have h1:x.1≠cur:=(les_ne (hx x (by simp))).symm
  rw [endR,if_neg h1,if_neg (by rcases h with h | h <;> simp [h]),endR_done (fun z hz=>hx z (by simp [hz])) h]
  simp
theorem endR_eq {cur:ByteArray} {y:DRat}:∀ {l out:List DRest},Up l→endR cur y out false l=out++addR cur y l
 | [],out,_=>by
  rw [endR]
  unfold addR
  cases zeroQ y <;> simp
 | x :: l,out,h=>by
  obtain⟨h1,h2⟩:=List.pairwise_cons.1 h
  rw [endR]
  by_cases e:x.1=cur
  ·rw [if_pos e,endR_eq h2]
   have k:lesB x.1 cur=false∧lesB cur x.1=false:=by rw [e]; exact⟨bless_irr _,bless_irr _⟩
   unfold addR
   rw [List.filter_cons_of_neg (by simp [k.1]),List.filter_cons_of_neg (by simp [k.2])]
  ·rw [if_neg e]
   by_cases g:LessP cur x.1
   ·have ha:∀ z∈l,LessP cur z.1:=fun z hz=>g.trans (h1 z hz)
    have k1:(x :: l).filter (fun x=>lesB x.1 cur)=[]:=fil_no fun z hz=>by
     rcases List.mem_cons.1 hz with rfl | hz
     ·exact les_no g
     ·exact les_no (ha z hz)
    have k2:(x :: l).filter (fun x=>lesB cur x.1)=x :: l:=fil_all fun z hz=>by
     rcases List.mem_cons.1 hz with rfl | hz
     ·exact g
     ·exact ha z hz
    have gb:lesB cur x.1=true:=g
    unfold addR
    rw [k1,k2]
    cases hz:zeroQ y with
    | true =>
     rw [if_neg (by simp),endR_done ha (.inr hz)]
     simp
    | false =>
     rw [if_pos (by simp [gb]),endR_done ha (.inl rfl)]
     simp
   ·have gb:lesB cur x.1=false:=by cases k:lesB cur x.1 with | false=>rfl | true=>exact absurd k g
    have lb:lesB x.1 cur=true:=LessP.tot g (fun q=>e q.symm)
    rw [if_neg (by simp [gb]),endR_eq h2]
    unfold addR
    rw [List.filter_cons_of_pos (by simp [lb]),List.filter_cons_of_neg (by simp [gb])]
    simp
theorem addR_up {cur:ByteArray} {y:DRat} {l:List DRest} (h:Up l):Up (addR cur y l):=by
 unfold addR
 have a1:=h.filter (fun x:DRest=>lesB x.1 cur)
 have a2:=h.filter (fun x:DRest=>lesB cur x.1)
 refine List.pairwise_append.2 ⟨List.pairwise_append.2 ⟨a1,?_,fun a ha b hb=>?_⟩,a2,fun a ha b hb=>?_⟩
 ·split <;> simp
 ·split at hb
  ·cases hb
  ·rcases List.mem_singleton.1 hb with rfl
   exact(List.mem_filter.1 ha).2
 ·have hb':LessP cur b.1:=(List.mem_filter.1 hb).2
  rcases List.mem_append.1 ha with ha | ha
  ·exact LessP.trans (List.mem_filter.1 ha).2 hb'
  ·split at ha
   ·cases ha
   ·rcases List.mem_singleton.1 ha with rfl
    exact hb'
theorem addR_mem {cur:ByteArray} {y:DRat} {l:List DRest} {x:DRest} (h:x∈addR cur y l):x∈l∨(x=(cur,y)∧zeroQ y=false):=by
 unfold addR at h
 rcases List.mem_append.1 h with h | h
 ·rcases List.mem_append.1 h with h | h
  ·exact .inl (List.mem_filter.1 h).1
  ·split at h
   ·cases h
   ·rename_i k
    exact .inr ⟨List.mem_singleton.1 h,by simpa using k⟩
 ·exact .inl (List.mem_filter.1 h).1
theorem up_rests {l:List DRest} (h:RestsOkP l):Up l:=by
 refine List.pairwise_iff_getElem.2 ?_
 intro i j hi hj hij
 exact(rests_sorted h).lt hj hij
theorem rests_up {l:List DRest} (h:Up l) (k:∀ x∈l,known x.1=true∧RatOkP x.2.1 x.2.2.1 x.2.2.2.1∧sgn (sval x.2.1 x.2.2.1)≠0):RestsOkP l:=fun i hi =>
 ⟨hi,(k _ (List.getElem_mem hi)).1,(k _ (List.getElem_mem hi)).2.1,(k _ (List.getElem_mem hi)).2.2,fun h0=>List.pairwise_iff_getElem.1 h (i-1) i (by omega) hi (by omega)⟩
theorem rests_mem {l:List DRest} (h:RestsOkP l) {x:DRest} (hx:x∈l):known x.1=true∧RatOkP x.2.1 x.2.2.1 x.2.2.2.1∧sgn (sval x.2.1 x.2.2.1)≠0:=by
 obtain⟨i,hi,rfl⟩:=List.getElem_of_mem hx
 obtain⟨_,a,b,c,_⟩:=h i hi
 exact⟨a,b,c⟩
theorem addR_ok {cur:ByteArray} {y:DRat} {l:List DRest} (h:RestsOkP l) (hc:known cur=true) (hy:RatOkP y.1 y.2.1 y.2.2.1):RestsOkP (addR cur y l) :=
 rests_up (addR_up (up_rests h)) fun x hx=>by
  rcases addR_mem hx with hx | ⟨rfl,hz⟩
  ·exact rests_mem h hx
  ·refine⟨hc,hy,fun e=>?_⟩
   have e:sgn (sval y.1 y.2.1)=0:=e
   unfold zeroQ at hz
   rw [e] at hz
   cases hz
def keyB (k:ByteArray) (x:DRest):Bool:=decide (x.1=k)
abbrev rS (x:DRat):Int:=sval x.1 x.2.1
abbrev rD (x:DRat):Int:=valN x.2.2.1
abbrev RatP (x:DRat):Prop:=RatOkP x.1 x.2.1 x.2.2.1
theorem ratP_pos {x:DRat} (h:RatP x):0<rD x:=(can_pos h.2.1.1).1 h.2.2.1
def AddRP (x y:DRat) (r:DRat × Bool):Prop:=RedS (rS x*rD y+rS y*rD x) (rD x*rD y) r.1 r.2
def atR (l:List DRest) (c:ByteArray):DRat:=((l.find? (keyB c)).map (·.2)).getD nought
theorem atR_ok {l:List DRest} (h:RestsOkP l) (c:ByteArray):RatP (atR l c):=by
 unfold atR
 cases hf:l.find? (keyB c) with
 | none=>exact nought_ok
 | some x=>exact(rests_mem h (List.mem_of_find?_eq_some hf)).2.1
end Go.Proofs.YtagkjnpggkmehaaGreatDoor
