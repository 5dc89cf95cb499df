/-
  What the laws on DoPut, DoTake and DoMove ask: the answers in their form; a ledger stays valid.
-/
import Derived.Test.YtccnjccabllcaaaGreatDoorDoX
import Derived.Test.YtccnjccabllcaaaGreatDoorPerfL
namespace Go.Proofs.YtccnjccabllcaaaGreatDoor
open Sx
set_option maxRecDepth 100000
theorem addM_ok {x y z:DMoney} (h:addM x y=(z,true)) (k:∃ r,AddP x y r):MonP z∧z.1=x.1:=by
 obtain⟨r,hr⟩:=k
 have:=(addM_eq hr).symm.trans h
 subst this
 rcases hr with ⟨_,_,h1,h2,_⟩ | ⟨h1,_⟩
 ·exact⟨h1,h2⟩
 ·cases h1
open Classical in
theorem addP_ex (x y:DMoney):∃ r,AddP x y r:=by
 by_cases h:AlikeP x y∧∃ z:DMoney,MonP z∧z.1=x.1∧svM z=svM x+svM y
 ·obtain⟨h1,z,h2,h3,h4⟩:=h
  exact⟨(z,true),.inl ⟨rfl,h1,h2,h3,h4⟩⟩
 ·exact⟨(nilM,false),.inr ⟨rfl,rfl,h⟩⟩
theorem book_set {l:List DAcct} (h:BookOkP l) {i:Nat} (hi:i<l.length) {z:DMoney} (hz:MonP z):BookOkP (l.set i (l[i].1,z)):=by
 have hk:∀ (j:Nat) (hj:j<(l.set i (l[i].1,z)).length),(l.set i (l[i].1,z))[j].1=(l[j]'(by simpa using hj)).1:=fun j hj=>by
  rw [List.getElem_set]
  split
  ·rename_i ij; subst ij; rfl
  ·rfl
 refine⟨by rw [List.length_set]; exact h.1,fun j hj=>?_⟩
 obtain⟨q0,q1,q2,q3⟩:=h.2 j (by simpa using hj)
 refine⟨hj,by rw [hk]; exact q1,?_,fun h0=>by rw [hk,hk]; exact q3 h0⟩
 rw [List.getElem_set]
 split
 ·exact hz
 ·exact q2
theorem postB_ok {l:List DAcct} {n:ByteArray} {m:DMoney} {y:List DAcct} (h:postB l n m=(y,true)):BookOkP y:=by
 by_cases hb:BookOkP l
 ·cases hf:fnd n l with
  | none=>rw [postB_none hf] at h; simp at h
  | some i =>
   obtain⟨hi,_⟩:=fnd_at hf
   obtain⟨⟨z,ok⟩,ha⟩:∃ r,addM l[i].2 m=r:=⟨_,rfl⟩
   rw [postB_some hb hf hi ha] at h
   cases ok with
   | false=>simp at h
   | true =>
    simp only [if_true,Prod.mk.injEq,and_true] at h
    subst h
    exact book_set hb hi (addM_ok ha (addP_ex _ _)).1
 ·rw [postB_no hb] at h; simp at h
theorem postL_ok:∀ {legs:List DAcct} {l y:List DAcct},BookOkP l→postL l legs=some y→BookOkP y
 | [],l,y,h,e=>by
  rw [postL] at e
  cases e; exact h
 | g :: gs,l,y,h,e=>by
  obtain⟨⟨l',ok⟩,hp⟩:∃ r,postB l g.1 g.2=r:=⟨_,rfl⟩
  rw [postL_cons hp] at e
  cases ok with
  | false=>simp at e
  | true=>exact postL_ok (postB_ok hp) (by simpa using e)
theorem postP_Ans {x:DLedger} {legs:List DAcct} (h:LedgerOkP x):Ans (postP x legs):=by
 unfold postP
 cases hp:postL x.1 legs with
 | none=>exact .inr ⟨(by show(8:Int)≠0; decide),rfl⟩
 | some l=>exact .inl ⟨rfl,postL_ok h.1 hp,h.2⟩
theorem legsP_Ans {x:DLedger} {legs:List DAcct} (h:LedgerOkP x):Ans (legsP x legs):=by
 unfold legsP
 split
 ·exact .inr ⟨by decide,rfl⟩
 ·split
  ·exact .inr ⟨by decide,rfl⟩
  ·exact postP_Ans h
theorem addRun_ans {x:DLedger} {n:ByteArray} {m:DMoney} {take:Bool} (h:LedgerOkP x):Ans (addRun x n m take):=by
 unfold addRun
 split
 ·exact legsP_Ans h
 ·exact .inr ⟨by decide,rfl⟩
theorem moveRun_ans {x:DLedger} {a b:ByteArray} {m:DMoney} (h:LedgerOkP x):Ans (moveRun x a b m):=by
 unfold moveRun
 split
 ·exact legsP_Ans h
 ·exact .inr ⟨by decide,rfl⟩
theorem uI_DoPut {V:Know} (hV:HcI V) (c:Scs LedSh) (x:DLedger) (f:List Nat) (h:rLedger.R V c x f) (ht:rLedger.tot x≤1048576) (a:ByteArray) (za:a.size≤1048576) (cm:Scs MonSh) (m:DMoney) (g:List Nat) (hm:rMoney.R V cm m g) (_:rMoney.tot m≤1048576) :
  CallX Tryz.prog V gI_DoPut [Sh1.val (.g [.l,.l,.s,.l]) c,.string a,Sh1.val (.g [.s,.b,.l]) cm] (UI V (perfP x (addRun x a m false))):=(cI_DoPut hV c x f h ht a (by omega) cm m g hm).mono (fun _ _=>doPost_u)
theorem uS_DoPut {V:Know} (hV:HcS V) (c:Scs LedSh) (x:DLedger) (f:List Nat) (h:rLedger.R V c x f) (ht:rLedger.tot x≤1048576) (a:ByteArray) (za:a.size≤1048576) (cm:Scs MonSh) (m:DMoney) (g:List Nat) (hm:rMoney.R V cm m g) (_:rMoney.tot m≤1048576) :
  CallX Tryz.prog V gS_DoPut [Sh1.val (.g [.l,.l,.s,.l]) c,.string a,Sh1.val (.g [.s,.b,.l]) cm] (US V (perfP x (addRun x a m false))):=(cS_DoPut hV c x f h ht a (by omega) cm m g hm).mono (fun _ _=>doS_u)
theorem uI_DoTake {V:Know} (hV:HcI V) (c:Scs LedSh) (x:DLedger) (f:List Nat) (h:rLedger.R V c x f) (ht:rLedger.tot x≤1048576) (a:ByteArray) (za:a.size≤1048576) (cm:Scs MonSh) (m:DMoney) (g:List Nat) (hm:rMoney.R V cm m g) (_:rMoney.tot m≤1048576) :
  CallX Tryz.prog V gI_DoTake [Sh1.val (.g [.l,.l,.s,.l]) c,.string a,Sh1.val (.g [.s,.b,.l]) cm] (UI V (perfP x (addRun x a m true))):=(cI_DoTake hV c x f h ht a (by omega) cm m g hm).mono (fun _ _=>doPost_u)
theorem uS_DoTake {V:Know} (hV:HcS V) (c:Scs LedSh) (x:DLedger) (f:List Nat) (h:rLedger.R V c x f) (ht:rLedger.tot x≤1048576) (a:ByteArray) (za:a.size≤1048576) (cm:Scs MonSh) (m:DMoney) (g:List Nat) (hm:rMoney.R V cm m g) (_:rMoney.tot m≤1048576) :
  CallX Tryz.prog V gS_DoTake [Sh1.val (.g [.l,.l,.s,.l]) c,.string a,Sh1.val (.g [.s,.b,.l]) cm] (US V (perfP x (addRun x a m true))):=(cS_DoTake hV c x f h ht a (by omega) cm m g hm).mono (fun _ _=>doS_u)
theorem uI_DoMove {V:Know} (hV:HcI V) (c:Scs LedSh) (x:DLedger) (f:List Nat) (h:rLedger.R V c x f) (ht:rLedger.tot x≤1048576) (a:ByteArray) (za:a.size≤1048576) (b:ByteArray) (zb:b.size≤1048576) (cm:Scs MonSh) (m:DMoney) (g:List Nat) (hm:rMoney.R V cm m g) (_:rMoney.tot m≤1048576) :
  CallX Tryz.prog V gI_DoMove [Sh1.val (.g [.l,.l,.s,.l]) c,.string a,.string b,Sh1.val (.g [.s,.b,.l]) cm] (UI V (perfP x (moveRun x a b m))):=(cI_DoMove hV c x f h ht a b (by omega) (by omega) cm m g hm).mono (fun _ _=>doPost_u)
theorem uS_DoMove {V:Know} (hV:HcS V) (c:Scs LedSh) (x:DLedger) (f:List Nat) (h:rLedger.R V c x f) (ht:rLedger.tot x≤1048576) (a:ByteArray) (za:a.size≤1048576) (b:ByteArray) (zb:b.size≤1048576) (cm:Scs MonSh) (m:DMoney) (g:List Nat) (hm:rMoney.R V cm m g) (_:rMoney.tot m≤1048576) :
  CallX Tryz.prog V gS_DoMove [Sh1.val (.g [.l,.l,.s,.l]) c,.string a,.string b,Sh1.val (.g [.s,.b,.l]) cm] (US V (perfP x (moveRun x a b m))):=(cS_DoMove hV c x f h ht a b (by omega) (by omega) cm m g hm).mono (fun _ _=>doS_u)
end Go.Proofs.YtccnjccabllcaaaGreatDoor
