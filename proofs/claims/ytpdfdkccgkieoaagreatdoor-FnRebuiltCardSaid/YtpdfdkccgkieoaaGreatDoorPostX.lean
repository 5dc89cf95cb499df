/-
  Accounts found, amounts added and posted, in the program and in the reference. An account found in a book; an amount posted, in the program and in the reference. An amount posted to a book, in the program and in the reference.
-/
import Derived.Test.YtpdfdkccgkieoaaGreatDoorTxt
import Derived.Test.YtpdfdkccgkieoaaGreatDoorCmp
import Derived.Test.YtpdfdkccgkieoaaGreatDoorEngD
import Derived.Test.YtpdfdkccgkieoaaGreatDoorChecked
import Derived.Conc.MuLone
import Derived.KernelRfl
import Derived.Test.YtpdfdkccgkieoaaGreatDoorWr
import Derived.WalkKit
import Derived.Test.YtpdfdkccgkieoaaGreatDoorTotB
import Derived.Test.YtpdfdkccgkieoaaGreatDoorPut
namespace Go.Proofs.YtpdfdkccgkieoaaGreatDoor
open Sx
set_option maxRecDepth 100000
noncomputable def theOne {α:Type} [Nonempty α] (p:α→Prop):α:=Classical.epsilon p
theorem theOne_eq {α:Type} [Nonempty α] {p:α→Prop} {x:α} (h:p x) (u:∀ y,p y→y=x):theOne p=x:=u _ (Classical.epsilon_spec (p:=p) ⟨x,h⟩)
theorem int_inj {e e':Bool} {o o':List Lim} (h:IntOkP e o) (h':IntOkP e' o') (k:sval e o=sval e' o'):e=e'∧o=o':=by
 have h0:=valN_nonneg h.1.1.1
 have h0':=valN_nonneg h'.1.1.1
 have z:∀ {e:Bool} {o:List Lim},IntOkP e o→e=true→0<valN o:=fun h k=>(can_pos h.1.1).1 (h.2 k)
 unfold sval at k
 cases e <;> cases e' <;> simp only [if_true,if_false,Bool.false_eq_true] at k
 ·exact⟨rfl,can_inj h.1.1 h'.1.1 (by omega)⟩
 ·have:=z h' rfl; omega
 ·have:=z h rfl; omega
 ·exact⟨rfl,can_inj h.1.1 h'.1.1 (by omega)⟩
abbrev nilM:DMoney:=(ByteArray.empty,false,[],())
abbrev MonP (x:DMoney):Prop:=MoneyOkP x.1 x.2.1 x.2.2.1
abbrev svM (x:DMoney):Int:=sval x.2.1 x.2.2.1
def AddP (x y:DMoney) (r:DMoney × Bool):Prop :=
 (r.2=true∧AlikeP x y∧MonP r.1∧r.1.1=x.1∧svM r.1=svM x+svM y) ∨
 (r.2=false∧r.1=nilM∧¬ (AlikeP x y∧∃ z:DMoney,MonP z∧z.1=x.1∧svM z=svM x+svM y))
theorem mon_inj {x y:DMoney} (h:MonP x) (k:MonP y) (e:x.1=y.1) (s:svM x=svM y):x=y:=by
 obtain⟨x0,x1,x2,xu⟩:=x
 obtain⟨y0,y1,y2,yu⟩:=y
 obtain⟨rfl,rfl⟩:=int_inj h.2.1 k.2.1 s
 replace e:x0=y0:=e
 subst e; rfl
theorem addP_inj {x y:DMoney} {r r':DMoney × Bool} (h:AddP x y r) (h':AddP x y r'):r'=r:=by
 obtain⟨z,ok⟩:=r
 obtain⟨z',ok'⟩:=r'
 rcases h with ⟨a,b,c,d,e⟩ | ⟨a,b,c⟩ <;> rcases h' with ⟨a',b',c',d',e'⟩ | ⟨a',b',c'⟩
 ·replace a:ok=true:=a
  replace a':ok'=true:=a'
  subst a a'
  rw [show z'=z from mon_inj c' c (d'.trans d.symm) (e'.trans e.symm)]
 ·exact absurd ⟨b,z,c,d,e⟩ c'
 ·exact absurd ⟨b',z',c',d',e'⟩ c
 ·replace a:ok=false:=a
  replace a':ok'=false:=a'
  replace b:z=nilM:=b
  replace b':z'=nilM:=b'
  subst a a' b b'; rfl
noncomputable def addM (x y:DMoney):DMoney × Bool:=theOne (AddP x y)
theorem addM_eq {x y:DMoney} {r:DMoney × Bool} (h:AddP x y r):addM x y=r:=theOne_eq h fun _ k=>addP_inj h k
def fnd (n:ByteArray):List DAcct→Option Nat
 | []=>none
 | a :: l=>if a.1=n then some 0 else (fnd n l).map (·+1)
theorem fnd_some {n:ByteArray}:∀ {l:List DAcct} {i:Nat} (h:i<l.length),l[i].1=n→(∀ (j:Nat) (hj:j<l.length),j<i→l[j].1≠n)→fnd n l=some i
 | a :: l,0,_,e,_=>by
  have e:a.1=n:=e
  rw [fnd,if_pos e]
 | a :: l,i+1,h,e,hj=>by
  have h0:a.1≠n:=hj 0 (by simp) (by omega)
  rw [fnd,if_neg h0,fnd_some (l:=l) (i:=i) (by simpa using h) (by simpa using e) fun j hj' hji=>by
   have:=hj (j+1) (by simpa using hj') (by omega)
   simpa using this]
  rfl
theorem fnd_none {n:ByteArray}:∀ {l:List DAcct},(∀ (j:Nat) (hj:j<l.length),l[j].1≠n)→fnd n l=none
 | [],_=>rfl
 | a :: l,h=>by
  have h0:a.1≠n:=h 0 (by simp)
  rw [fnd,if_neg h0,fnd_none (l:=l) fun j hj=>by
   have:=h (j+1) (by simpa using hj)
   simpa using this]
  rfl
theorem fnd_at {n:ByteArray}:∀ {l:List DAcct} {i:Nat},fnd n l=some i→∃ h:i<l.length,l[i].1=n
 | a :: l,i,h=>by
  rw [fnd] at h
  split at h
  ·rename_i e
   cases h
   exact⟨by simp,e⟩
  ·cases hf:fnd n l with
   | none=>rw [hf] at h; cases h
   | some j =>
    rw [hf] at h
    cases h
    obtain⟨h1,h2⟩:=fnd_at hf
    exact⟨by simpa using h1,by simpa using h2⟩
def atN (n:ByteArray) (l:List DAcct):Int:=match fnd n l with
 | none=>-1
 | some i=>i
theorem atN_none {n:ByteArray} {l:List DAcct} (h:fnd n l=none):atN n l=-1:=by rw [atN,h]
theorem atN_some {n:ByteArray} {l:List DAcct} {i:Nat} (h:fnd n l=some i):atN n l=i:=by rw [atN,h]
open Classical in
noncomputable def postB (l:List DAcct) (n:ByteArray) (m:DMoney):List DAcct × Bool :=
 if BookOkP l then match fnd n l with
  | none=>([],false)
  | some i=>if (addM (l.getD i (n,nilM)).2 m).2=true then (l.set i ((l.getD i (n,nilM)).1,(addM (l.getD i (n,nilM)).2 m).1),true) else ([],false)
 else ([],false)
theorem postB_no {l:List DAcct} {n:ByteArray} {m:DMoney} (h:¬ BookOkP l):postB l n m=([],false):=if_neg h
theorem postB_none {l:List DAcct} {n:ByteArray} {m:DMoney} (h:fnd n l=none):postB l n m=([],false):=by
 unfold postB
 rw [h]
 simp
theorem getD_at {l:List DAcct} {i:Nat} {d:DAcct} (h:i<l.length):l.getD i d=l[i]:=by
 rw [List.getD_eq_getElem?_getD,List.getElem?_eq_getElem h]; rfl
theorem postB_some {l:List DAcct} {n:ByteArray} {m:DMoney} {i:Nat} (h:BookOkP l) (hf:fnd n l=some i) (hi:i<l.length) {z:DMoney} {ok:Bool} (ha:addM l[i].2 m=(z,ok)) :
  postB l n m=(if ok=true then l.set i (l[i].1,z) else [],ok):=by
 unfold postB
 rw [if_pos h,hf]
 show(if (addM (l.getD i (n,nilM)).2 m).2=true then (l.set i ((l.getD i (n,nilM)).1,(addM (l.getD i (n,nilM)).2 m).1),true) else ([],false))=_
 rw [getD_at hi,ha]
 cases ok <;> rfl
noncomputable def postL:List DAcct→List DAcct→Option (List DAcct)
 | l,[]=>some l
 | l,g :: gs=>match postB l g.1 g.2 with
  | (l',true)=>postL l' gs
  | (_,false)=>none
end Go.Proofs.YtpdfdkccgkieoaaGreatDoor
namespace Go.Proofs.YtpdfdkccgkieoaaGreatDoor
open Sx
set_option maxRecDepth 100000
abbrev muL:Go.Conc.Locks.MuLink:={ lock:=290,unlock:=291,ilock:=293,iunlock:=294,lockSlow:=300,unlockSlow:=303,disable:=296,enable:=298,acquire:=299,relMerge:=301,cas32:=297,add32:=302,tIMutex:=331,tMutex:=333,tPMutex:=340,tPIMutex:=342,tPI32:=344,tUP:=262,tNoCopy:=329,tU32:=276 }
theorem muLib:Go.Conc.Locks.MuLib Tryz.prog muL :=
 ⟨Tryz.func290,Tryz.func291,Tryz.func293,Tryz.func294,Tryz.func296,Tryz.func298,Tryz.func299,Tryz.func301,Tryz.func297,Tryz.func302,
  by kernel_rfl,fun w=>prun_run (by kernel_rfl) w,fun w=>prun_run (by kernel_rfl) w,fun w=>prun_run (by kernel_rfl) w,fun w=>prun_run (by kernel_rfl) w,
  by kernel_rfl,fun w=>prun_run (by kernel_rfl) w,fun w=>prun_run (by kernel_rfl) w,fun w=>prun_run (by kernel_rfl) w,fun w=>prun_run (by kernel_rfl) w,
  by kernel_rfl,fun w=>prun_run (by kernel_rfl) w,fun w=>prun_run (by kernel_rfl) w,fun w=>prun_run (by kernel_rfl) w,fun w=>prun_run (by kernel_rfl) w,
  by kernel_rfl,fun w=>prun_run (by kernel_rfl) w,fun w=>prun_run (by kernel_rfl) w,fun w=>prun_run (by kernel_rfl) w,fun w=>prun_run (by kernel_rfl) w,
  by kernel_rfl,fun w=>prun_run (by kernel_rfl) w,fun w=>prun_run (by kernel_rfl) w,fun w=>prun_run (by kernel_rfl) w,fun w=>prun_run (by kernel_rfl) w,
  by kernel_rfl,fun w=>prun_run (by kernel_rfl) w,fun w=>prun_run (by kernel_rfl) w,fun w=>prun_run (by kernel_rfl) w,fun w=>prun_run (by kernel_rfl) w,
  by kernel_rfl,fun w=>prun_run (by kernel_rfl) w,fun w=>prun_run (by kernel_rfl) w,fun w=>prun_run (by kernel_rfl) w,fun w=>prun_run (by kernel_rfl) w,
  by kernel_rfl,fun w=>prun_run (by kernel_rfl) w,fun w=>prun_run (by kernel_rfl) w,fun w=>prun_run (by kernel_rfl) w,fun w=>prun_run (by kernel_rfl) w,
  by kernel_rfl⟩
end Go.Proofs.YtpdfdkccgkieoaaGreatDoor
namespace Go.Proofs.YtpdfdkccgkieoaaGreatDoor
open Sx Go.MuLone
set_option maxRecDepth 100000
theorem run_enter {P:Program} {n:Nat} (h:Enters P n) (args:Array Value) (w:World):(callFunc n args).run P w=.ok (.enter n args) w:=by
 obtain⟨fn,h1,h2,h3⟩:=h
 have h2':fn.body≠none:=fun e=>by rw [e] at h2; cases h2
 have h3' : ¬ fn.name = "runtime.NumGoroutine" := by simpa using h3
 simp [callFunc,h1,h2',h3']
set_option maxHeartbeats 800000 in
theorem change_any (b n:Nat) (cs:Array Value) (K:World→Bool→Prop) (w:World) (h0:w.cell? ⟨b,0,none⟩=some (.int .i32 0)) (f0:w.frozen? ⟨b,0,none⟩=false) (hn:Enters Tryz.prog n)
  (hc:Calls Tryz.prog n (#[.pointer (some ⟨b,2,none⟩)]++cs) (w.setCell ⟨b,0,none⟩ (.int .i32 1)) fun e w'=>∃ r,e=.returned (.bool r)∧w'.cell? ⟨b,0,none⟩=some (.int .i32 1)∧w'.frozen? ⟨b,0,none⟩=false∧K (w'.setCell ⟨b,0,none⟩ (.int .i32 0)) r) :
  Calls Tryz.prog 287 #[.pointer (some ⟨b,0,none⟩),.func (.func n) #[] cs] w fun e w'=>∃ r,e=.returned (.bool r)∧K w' r:=by
 go_enter_defers Tryz.func287,Tryz.ntmps287
 go_wp2_with (go_at_call 290; refine(lock_free muLib ⟨b,0,none⟩ _ h0 f0).mono ?_; rintro e w' ⟨rfl,rfl⟩)
 rw [run_enter hn]
 refine Calls.mono hc ?_
 rintro e w' ⟨r,rfl,h1,f1,hK⟩
 go_wp2
 refine leaves_cons (f:=291) (args:=#[.pointer (some ⟨b,0,none⟩)]) (by simp) (by simp [go_sem]) ?_
 refine(unlock_deferred muLib ⟨b,0,none⟩ .returning _ h1 f1).mono ?_
 rintro e u' w'' ⟨rfl,rfl,rfl⟩
 exact⟨_,results_tmp rfl _ _ _,r,rfl,hK⟩
theorem set_on {V:Know} {w:World} (hV:V.on w) {b:Nat} {x y:Value} {l:List Value} {t:TypeId} (hb:V b=some (x :: l,(t,(0,0)))) :
  (kset V b (y :: l,(t,(0,0)))).on (w.setCell ⟨b,0,none⟩ y)∧Fr V (kset V b (y :: l,(t,(0,0)))) w (w.setCell ⟨b,0,none⟩ y)∧w.cell? ⟨b,0,none⟩=some x∧w.frozen? ⟨b,0,none⟩=false:=by
 have h0:w.heap[b]?=some (.cells (x :: l).toArray t (0,0)):=by rw [hV b _ _ hb,objOf_rw]
 have hlt:b<w.heap.size:=(Array.getElem?_eq_some_iff.1 h0).1
 have hs:∀ k,k≠b→(w.setCell ⟨b,0,none⟩ y).heap[k]?=w.heap[k]?:=fun k hk=>by
  simp only [World.setCell,Array.getElem?_modify]
  rw [if_neg (fun e:b=k=>hk e.symm)]
 have hsb:(w.setCell ⟨b,0,none⟩ y).heap[b]?=some (.cells (y :: l).toArray t (0,0)):=by
  simp only [World.setCell,Array.getElem?_modify,if_true,h0]
  simp
 refine⟨fun k c u hk=>?_,⟨rfl,rfl,rfl,by simp [World.setCell],fun k _ hk=>hs k (fun e=>by rw [e,hb] at hk; cases hk),fun k _ hk=>?_⟩,?_,?_⟩
 ·by_cases e:k=b
  ·subst e
   rw [kset_same] at hk
   cases hk
   rw [hsb,objOf_rw]
  ·rw [kset_other e] at hk
   rw [hs k e]; exact hV k c u hk
 ·rw [kset_other (fun e=>by rw [e,hb] at hk; cases hk)]; exact hk
 ·simp [World.cell?,h0]
 ·simp [World.frozen?,h0]
abbrev gdT:TypeId:=335
theorem guard_change {V:Know} {b n:Nat} {cs:List Value} {q s:Value} (hb:V b=some ([.int .i32 0,q,s],(gdT,(0,0)))) {K:Know→Bool→Prop}
  (hc:CallX Tryz.prog (kset V b ([.int .i32 1,q,s],(gdT,(0,0)))) n (.pointer (some ⟨b,2,none⟩) :: cs) fun V' r=>∃ e q' s',r=.bool e∧V' b=some ([.int .i32 1,q',s'],(gdT,(0,0)))∧K (kset V' b ([.int .i32 0,q',s'],(gdT,(0,0)))) e) :
  CallX Tryz.prog V 287 [.pointer (some ⟨b,0,none⟩),.func (.func n) #[] cs.toArray] fun V' r=>∃ e,r=.bool e∧K V' e:=by
 refine⟨⟨_,Tryz.func287,by kernel_rfl,by kernel_rfl⟩,fun w hw=>?_⟩
 obtain⟨on1,fr1,c1,z1⟩:=set_on (y:=.int .i32 1) hw hb
 refine(change_any b n cs.toArray (fun w' e=>∃ V',Fr V V' w w'∧V'.on w'∧K V' e) w c1 z1 hc.1 ?_).mono ?_
 ·have h2:=hc.2 _ on1
  have ea:(.pointer (some ⟨b,2,none⟩) :: cs).toArray=#[Value.pointer (some ⟨b,2,none⟩)]++cs.toArray:=by simp
  rw [ea] at h2
  refine h2.mono ?_
  rintro e w' ⟨V',r,rfl,fr2,on2,e,q',s',rfl,hb2,hK⟩
  obtain⟨on3,fr3,c3,z3⟩:=set_on (y:=.int .i32 0) on2 hb2
  exact⟨e,rfl,c3,z3,_,(fr1.trans fr2).trans fr3,on3,hK⟩
 ·rintro e w' ⟨r,rfl,V',h1,h2,h3⟩
  exact⟨V',_,rfl,h1,h2,r,rfl,h3⟩
def Change (V:Know) (n:Nat) (cs:List Value) (l:List DAcct) (out:List DAcct) (ok:Bool):Prop :=
 ∀ (V1:Know) (b:Nat) (q:Value) (s:SlV) (f:List Nat),V.le V1→V b=none→GR rAcct acT V1 s l f→Own V V1 f→l.length≤1048576→b ∉ f→V1 b=some ([.int .i32 1,q,.slice s.a s.n s.c],(gdT,(0,0))) →
  CallX Tryz.prog V1 n (.pointer (some ⟨b,2,none⟩) :: cs) fun V2 r=>r=.bool ok∧V.le V2∧∃ s',V2 b=some ([.int .i32 1,q,.slice s'.a s'.n s'.c],(gdT,(0,0)))∧(ok=true→∃ f',LR rAcct V2 s' out f'∧Own V V2 f'∧b ∉ f')
abbrev BkPost (V:Know) (y:List DAcct × Bool):Know→Value→Prop:=fun V' v=>V.le V'∧∃ s f,v=.tuple #[qv4 (s,()),.bool y.2]∧LR rAcct V' s y.1 f∧Own V V' f
theorem kset_loc {V:Know} {b:Nat} {y:List Value × KTy} {g:List Nat} (h:b ∉ g):∀ b'∈g,kset V b y b'=V b':=fun b' hb'=>kset_other (fun e=>h (by rw [← e]; exact hb'))
theorem kset_le2 {V V':Know} {b:Nat} {y:List Value × KTy} (h:V.le V') (hb:V b=none):V.le (kset V' b y):=fun k z hk=>by
 rw [kset_other (fun e=>by rw [e,hb] at hk; cases hk)]
 exact h k z hk
theorem own_kset {V V':Know} {b:Nat} {y:List Value × KTy} {f:List Nat} (h:Own V V' f) (hb:b ∉ f):Own V (kset V' b y) f :=
 ⟨h.1,h.2.1,fun k hk=>by obtain⟨c,t,q⟩:=h.2.2 k hk; exact⟨c,t,by rw [kset_other (fun e=>hb (by rw [← e]; exact hk))]; exact q⟩⟩
theorem cI_changed {V:Know} (s:SlV) (l:List DAcct) (f:List Nat) (h:LR rAcct V s l f) (ht:l.length+totE rAcct l≤1048576) (n:Nat) (cs:List Value) (out:List DAcct) (ok:Bool) (hone:one [.func (.func n) #[] cs.toArray]=true) (hc:Change V n cs l out ok) :
  CallX Tryz.prog V 284 [qv4 (s,()),.func (.func n) #[] cs.toArray] (BkPost V (if ok=true then out else [],ok)):=by
 refine CallX.of_fits Tryz.mix (fI_changed (s,()) ⟨_,hone⟩) fun _=>?_
 simp only [tI_changed,T.wp]
 refine(growI_book V (s,()) (l,()) _ (rSl.mk h rNil.mk) (by show l.length+totE rAcct l+0≤1048576; omega)).mono ?_
 rintro V1 _ ⟨le1,s1,f1,rfl,r1,O1⟩
 refine⟨nofun,(s1,()),rfl,fun b hb=>?_⟩
 have hbV:V b=none:=none_of_le le1 hb
 have hbf:b ∉ f1:=fun hm=>by
  obtain⟨c,t,k⟩:=O1.2.2 b hm
  rw [hb] at k; cases k
 refine(guard_change (s:=.slice s1.a s1.n s1.c) (q:=.int .u32 0) (cs:=cs) (K:=fun V' e=>e=ok∧V.le V'∧∃ s',V' b=some ([.int .i32 0,.int .u32 0,.slice s'.a s'.n s'.c],(gdT,(0,0)))∧(ok=true→∃ f',LR rAcct V' s' out f'∧Own V V' f')) kset_same ?_).mono ?_
 ·refine(hc _ b (.int .u32 0) s1 f1 ?_ hbV (r1.loc (fun y hy=>(kset_loc hbf y hy).trans (kset_loc hbf y hy))) ?_ (by omega) hbf kset_same).mono ?_
  ·exact kset_le2 (kset_le2 le1 hbV) hbV
  ·exact own_kset (own_kset O1 hbf) hbf
  ·rintro V2 _ ⟨rfl,le2,s',h2,hok⟩
   refine⟨ok,_,_,rfl,h2,rfl,kset_le2 le2 hbV,s',kset_same,fun k=>?_⟩
   obtain⟨f',q1,q2,q3⟩:=hok k
   exact⟨f',q1.loc (kset_loc q3),own_kset q2 q3⟩
 ·rintro V2 _ ⟨e,rfl,rfl,le2,s',h2,hok⟩
  refine⟨nofun,e,rfl,fun hf=>?_,fun hT=>?_⟩
  ·have:e=false:=by simpa using hf
   subst this
   exact⟨le2,⟨none,0,0⟩,[],rfl,⟨rfl,Nat.le_refl _,by decide,.inl ⟨rfl,fun _=>rfl,rfl⟩⟩,Own.nil⟩
  ·have:e=true:=by simpa using hT
   subst this
   obtain⟨f',q1,q2⟩:=hok rfl
   refine⟨(s',()),?_,le2,s',f',rfl,q1,q2⟩
   simp only [addr_add_eq,loadV,Bool.false_eq_true,if_false,h2]
   rfl
end Go.Proofs.YtpdfdkccgkieoaaGreatDoor
namespace Go.Proofs.YtpdfdkccgkieoaaGreatDoor
open Sx
set_option maxRecDepth 100000
abbrev MonSh:List Sc:=[.s,.b,.l]
theorem mon_elim {V:Know} {c:Scs MonSh} {x:DMoney} {f:List Nat} (h:rMoney.R V c x f):∃ s,c=(x.1,x.2.1,s,())∧LR rI V s x.2.2.1 f∧x.1.size≤9223372036854775807:=by
 obtain⟨c0,c1,c2,cu⟩:=c
 obtain⟨⟨e0,z0⟩,e1,g,g',rfl,hs,hN⟩:=h
 replace e0:c0=x.1:=e0
 replace e1:c1=x.2.1:=e1
 replace hN:g'=[]:=hN
 subst e0 e1 hN
 rw [List.append_nil]
 exact⟨c2,rfl,hs,z0⟩
theorem mon_mk {V:Know} {e:Bool} {s:SlV} {o:List Lim} {f:List Nat} {n:ByteArray} (z:n.size≤9223372036854775807) (h:LR rI V s o f):rMoney.R V (n,e,s,()) (n,e,o,()) f:=⟨⟨rfl,z⟩,rfl,f,[],by simp,h,rfl⟩
theorem nilM_R (V:Know):rMoney.R V (ByteArray.empty,false,⟨none,0,0⟩,()) nilM []:=mon_mk (by decide) ⟨rfl,Nat.le_refl _,by decide,.inl ⟨rfl,fun _=>rfl,rfl⟩⟩
abbrev AddPost (V:Know) (x y:DMoney):Know→Value→Prop:=fun V' v=>V.le V'∧∃ c z ok f,v=.tuple #[qv2 c,.bool ok]∧rMoney.R V' c z f∧Own V V' f∧addM x y=(z,ok)
theorem add_no {V V':Know} {x y:DMoney} (le:V.le V') (h:¬ (AlikeP x y∧∃ z:DMoney,MonP z∧z.1=x.1∧svM z=svM x+svM y)):AddPost V x y V' (packed [qv2 (ByteArray.empty,false,⟨none,0,0⟩,()),.bool false]) :=
 ⟨le,(ByteArray.empty,false,⟨none,0,0⟩,()),nilM,false,[],rfl,nilM_R V',Own.nil,addM_eq (.inr ⟨rfl,rfl,h⟩)⟩
theorem mon_of {x y:DMoney} {e:Bool} {o:List Lim} (q:known x.1=true∧∃ z:DMoney,MonP z∧z.1=x.1∧svM z=svM x+svM y) (C2:Can o) (p2:e=true→0<o.length) (v2:sval e o=svM x+svM y):MoneyOkP x.1 e o:=by
 obtain⟨kx,z,mz,z1,sz⟩:=q
 have hl:o.length≤4:=by
  have:valN o=valN z.2.2.1:=by
   have a1:=valN_nonneg C2.1
   have a2:=valN_nonneg mz.2.1.1.1.1
   have b1:e=true→0<valN o:=fun h=>(can_pos C2).1 (p2 h)
   have b2:z.2.1=true→0<valN z.2.2.1:=fun h=>(can_pos mz.2.1.1.1).1 (mz.2.1.2 h)
   have key:sval e o=sval z.2.1 z.2.2.1:=v2.trans sz.symm
   unfold sval at key
   revert b1 b2 key
   cases e <;> cases z.2.1 <;> simp <;> omega
  have:=can_inj C2 mz.2.1.1.1 this
  rw [this]; exact mz.2.2
 exact⟨kx,⟨⟨C2,by omega⟩,p2⟩,hl⟩
theorem cI_MoneyAdd {V:Know} (hV:hasCur V) (c d:Scs MonSh) (x y:DMoney) (f g:List Nat) (hx:rMoney.R V c x f) (hy:rMoney.R V d y g) :
  CallX Tryz.prog V 319 [qv2 c,qv2 d] (AddPost V x y):=by
 refine CallX.of_fits Tryz.mix (fI_MoneyAdd _ _) fun _=>?_
 simp only [tI_MoneyAdd,T.wp]
 refine(cI_alike hV c d x y f g hx hy).mono ?_
 rintro V1 _ ⟨le1,e1,rfl,he1⟩
 refine⟨nofun,e1,rfl,fun hf=>add_no le1 fun k=>?_,fun h1=>?_⟩
 ·rw [he1.2 k.1] at hf; cases hf
 have al:=he1.1 (by simpa using h1)
 obtain⟨s,rfl,hl,z0⟩:=mon_elim hx
 obtain⟨s',rfl,hl',z0'⟩:=mon_elim hy
 have al2:=al
 obtain⟨ax,ay,_⟩:=al2
 have nx:=ax.2.2
 have ny:=ay.2.2
 refine(cI_intAdd V1 x.2.1 s y.2.1 s' x.2.2.1 y.2.2.1 f g (hl.le le1) (hl'.le le1) ax.2.1.1.1 ay.2.1.1.1 (by omega) (by omega)).mono ?_
 rintro V2 _ ⟨le2,e,t,o,k,rfl,L2,O2,C2,v2,p2,n2⟩
 have l2:=le1.trans le2
 refine⟨fun _=>le2,(e,t,()),rfl,?_⟩
 have hm:CallX Tryz.prog V2 321 [.string x.1,qv1 (e,t,())] (fun V' v=>V2.le V'∧AddPost V x y V' v):=by
  refine CallX.of_fits Tryz.mix (fI_moneyOf _ _) fun _=>?_
  simp only [tI_moneyOf,T.wp]
  refine(cI_MoneyOk (hasCur.le hV l2) x.1 e t o k L2).mono ?_
  rintro V3 _ ⟨le3,e3,rfl,he3⟩
  refine⟨nofun,e3,rfl,fun ht=>?_,fun hf=>⟨le3,add_no (l2.trans le3) fun q=>?_⟩⟩
  ·have ok:MoneyOkP x.1 e o:=he3.1 ht
   exact⟨le3,l2.trans le3,(x.1,e,t,()),(x.1,e,o,()),true,k,rfl,mon_mk z0 (L2.le le3),(O2.post le3).pre le1,addM_eq (.inl ⟨rfl,al,ok,rfl,v2⟩)⟩
  ·rw [he3.2 (mon_of ⟨ax.1,q.2⟩ C2 p2 v2)] at hf; cases hf
 refine hm.mono ?_
 rintro V3 _ ⟨le3,le03,c3,z3,ok3,f3,rfl,R3,O3,h3⟩
 exact⟨fun _=>le3,(c3,ok3,()),rfl,le03,c3,z3,ok3,f3,rfl,R3,O3,h3⟩
theorem cS_MoneyAdd {V:Know} (c d:Scs MonSh) (x y:DMoney) (f g:List Nat) (hx:rMoney.R V c x f) (hy:rMoney.R V d y g) :
  CallX Tryz.prog V 99 [qv2 c,qv2 d] (AddPost V x y):=by
 refine CallX.of_fits Tryz.mix (fS_MoneyAdd _ _) fun _=>?_
 simp only [tS_MoneyAdd,T.wp]
 refine(cS_l09Both c d x y f g hx hy).mono ?_
 rintro V1 _ ⟨le1,e1,rfl,he1⟩
 refine⟨nofun,e1,rfl,fun hf=>add_no le1 fun k=>?_,fun h1=>?_⟩
 ·rw [he1.2 k.1] at hf; cases hf
 have al:=he1.1 (by simpa using h1)
 obtain⟨s,rfl,hl,z0⟩:=mon_elim hx
 obtain⟨s',rfl,hl',z0'⟩:=mon_elim hy
 have al2:=al
 obtain⟨ax,ay,_⟩:=al2
 have nx:=ax.2.2
 have ny:=ay.2.2
 refine(cS_IntAdd V1 x.2.1 s y.2.1 s' x.2.2.1 y.2.2.1 f g (hl.le le1) (hl'.le le1) ax.2.1 ay.2.1 (by omega) (by omega)).mono ?_
 rintro V2 _ ⟨le2,e,t,o,k,rfl,L2,O2,ok2,v2,n2⟩
 have l2:=le1.trans le2
 refine⟨fun _=>le2,(e,t,()),rfl,?_⟩
 have hm:CallX Tryz.prog V2 151 [.string x.1,qv1 (e,t,())] (fun V' v=>V2.le V'∧AddPost V x y V' v):=by
  refine CallX.of_fits Tryz.mix (fS_l09Make _ _) fun _=>?_
  simp only [tS_l09Make,T.wp]
  refine(cS_MoneyOk x.1 e t o k L2).mono ?_
  rintro V3 _ ⟨le3,e3,rfl,he3⟩
  refine⟨nofun,e3,rfl,fun hf=>⟨le3,add_no (l2.trans le3) fun q=>?_⟩,fun ht=>?_⟩
  ·rw [he3.2 (mon_of ⟨ax.1,q.2⟩ ok2.1.1 ok2.2 v2)] at hf; cases hf
  ·have ok:MoneyOkP x.1 e o:=he3.1 (by simpa using ht)
   exact⟨le3,l2.trans le3,(x.1,e,t,()),(x.1,e,o,()),true,k,rfl,mon_mk z0 (L2.le le3),(O2.post le3).pre le1,addM_eq (.inl ⟨rfl,al,ok,rfl,v2⟩)⟩
 refine hm.mono ?_
 rintro V3 _ ⟨le3,le03,c3,z3,ok3,f3,rfl,R3,O3,h3⟩
 exact⟨fun _=>le3,(c3,ok3,()),rfl,le03,c3,z3,ok3,f3,rfl,R3,O3,h3⟩
theorem findR_wp {sh:List Sc} {α:Type} {P:Program} {r:Rp sh α} {K:Know→List Value→Prop} {V V0:Know} {s:SlV} {l:List α} {f:List Nat} {p:α→Prop} {body:LShs [.o (.o (.i .i64))]→T} (h:LR r V s l f)
  (hbody:∀ (i:Nat) (hi:i<l.length) (N:List LV→Know→Prop),(p l[i]→K V [.int .i64 i])→(¬ p l[i]→N [.v (.int .i64 (IntKind.i64.wrap ((i:Int)+1)))] V)→(body ((i:Int),())).wp P K V V [N])
  (hK:∀ (i:Nat) (hi:i<l.length),p l[i]→(∀ (j:Nat) (hj:j<l.length),j<i→¬ p l[j])→K V [.int .i64 i]) (hno:(∀ (j:Nat) (hj:j<l.length),¬ p l[j])→K V [.int .i64 (-1)]) :
  (T.lp [.o (.o (.i .i64))] [.v (.int .i64 (0:Int))] fun y=>.br (decide (y.1<(s.n:Int))) (body y) (.ret [.int .i64 (-1:Int)])).wp P K V V0 []:=by
 have hn:=h.1
 have h63:=h.2.2.1
 simp only [T.wp]
 refine⟨fun y V'=>V'=V∧∃ i:Nat,y.1=(i:Int)∧i≤l.length∧∀ (j:Nat) (hj:j<l.length),j<i→¬ p l[j],fun y _=>((l.length:Int)-(y.1:Int)).toNat,⟨((0:Int),()),rfl,rfl,0,rfl,Nat.zero_le _,fun j _ h=>by omega⟩,?_⟩
 rintro⟨(i:Int),u⟩ V' ⟨rfl,k,hk,hle,hall⟩
 replace hk:i=(k:Int):=hk
 subst hk
 refine⟨fun hlt=>?_,fun hge=>?_⟩
 ·have hi:k<l.length:=by
   have:(k:Int)<(s.n:Int):=of_decide_eq_true hlt
   omega
  refine hbody k hi _ (fun hp=>hK k hi hp hall) fun hp=>?_
  ·refine⟨(((k+1:Nat):Int),()),by rw [nxt hi (by omega)]; rfl,⟨rfl,k+1,rfl,hi,fun j hj h2=>?_⟩,?_⟩
   ·by_cases e:j=k
    ·subst e; exact hp
    ·exact hall j hj (by omega)
   ·show((l.length:Int)-((k+1:Nat):Int)).toNat<((l.length:Int)-(k:Int)).toNat
    omega
 ·have hi:k=l.length:=by
   have:¬ (k:Int)<(s.n:Int):=of_decide_eq_false hge
   omega
  subst hi
  exact hno fun j hj=>hall j hj hj
abbrev AxPost (V:Know) (n:ByteArray) (l:List DAcct):Know→Value→Prop:=fun V' r=>V.le V'∧r=.int .i64 (atN n l)
theorem ax_yes {n:ByteArray} {l:List DAcct} {k:Nat} (h:k<l.length) (e:l[k].1=n) (hj:∀ (j:Nat) (hj:j<l.length),j<k→¬ l[j].1=n):atN n l=k:=atN_some (fnd_some h e hj)
theorem ax_no {n:ByteArray} {l:List DAcct} (h:∀ (j:Nat) (hj:j<l.length),¬ l[j].1=n):atN n l=-1:=atN_none (fnd_none h)
theorem acct_name {V:Know} {c:Scs [.s,.s,.b,.l]} {x:DAcct} {f:List Nat} (h:rAcct.R V c x f):c.1=x.1:=h.1.1
theorem cS_AcctAt (V:Know) (s:SlV) (l:List DAcct) (f:List Nat) (h:LR rAcct V s l f) (n:ByteArray):CallX Tryz.prog V 97 [qv4 (s,()),.string n] (AxPost V n l):=by
 refine CallX.of_fits Tryz.mix (fS_AcctAt _ _) fun _=>?_
 have hn:=h.1
 rw [tS_AcctAt]
 refine findR_wp (p:=fun a=>a.1=n) h (fun i hi N hy hN=>?_) (fun i hi e hj=>⟨Know.le.refl _,by rw [ax_yes hi e hj]; rfl⟩) (fun hno=>⟨Know.le.refl _,by rw [ax_no hno]; rfl⟩)
 obtain⟨b1,o1,c1,fc,a1,l1,hR,_⟩:=h.at hi
 have e0:(i:Int).toNat=i:=by omega
 simp only [T.wp]
 rw [e0]
 refine⟨_,a1,by omega,by omega,c1,l1,fun he=>?_,fun he=>⟨_,rfl,hN fun e=>?_⟩⟩
 ·exact hy ((acct_name hR).symm.trans (text_eq.1 he))
 ·have:=text_eq.2 ((acct_name hR).trans e)
  rw [this] at he; cases he
theorem cI_AcctAt (V:Know) (s:SlV) (l:List DAcct) (f:List Nat) (h:LR rAcct V s l f) (n:ByteArray):CallX Tryz.prog V 280 [qv4 (s,()),.string n] (AxPost V n l):=by
 refine CallX.of_fits Tryz.mix (fI_AcctAt _ _) fun _=>?_
 simp only [tI_AcctAt,T.wp]
 intro b hb
 have leb:=kset_le (x:=([Value.string n],((9:TypeId),((0,0):Nat × Nat)))) hb
 have hv:kset V b ([Value.string n],((9:TypeId),((0,0):Nat × Nat))) b=some _:=kset_same
 revert leb hv
 generalize kset V b ([Value.string n],((9:TypeId),((0,0):Nat × Nat)))=V1
 intro leb hv
 have h1:=h.le leb
 have hn:=h.1
 have key:CallX Tryz.prog V1 282 [Sc.val .l s,.func (.func 283) #[] #[.pointer (some ⟨b,0,none⟩)]] (fun V' r=>V'=V1∧r=.int .i64 (atN n l)):=by
  refine CallX.of_fits Tryz.mix (fX_IndexFunc_Acct s (283,⟨b,0,none⟩)) fun _=>?_
  rw [tX_IndexFunc_Acct]
  refine findR_wp (p:=fun a=>a.1=n) h1 (fun i hi N hy hN=>?_) (fun i hi e hj=>⟨rfl,by rw [ax_yes hi e hj]; rfl⟩) (fun hno=>⟨rfl,by rw [ax_no hno]; rfl⟩)
  obtain⟨b1,o1,c1,fc,a1,l1,hR,_⟩:=h1.at hi
  have e0:(i:Int).toNat=i:=by omega
  simp only [T.wp]
  rw [e0]
  refine⟨_,a1,by omega,by omega,c1,l1,?_⟩
  have hc:CallX Tryz.prog V1 283 [qv11 c1,.pointer (some ⟨b,0,none⟩)] (fun V' r=>V'=V1∧r=.bool (l[i].1.toList == n.toList)):=by
   refine CallX.of_fits Tryz.mix (fI_AcctAt_1 c1 ⟨b,0,none⟩) fun _=>?_
   simp only [tI_AcctAt_1,T.wp]
   refine⟨n,?_,trivial,?_⟩
   ·simp only [loadV,Bool.false_eq_true,if_false,hv]
    rfl
   ·rw [acct_name hR]; rfl
  refine hc.mono ?_
  rintro V2 _ ⟨rfl,rfl⟩
  refine⟨nofun,_,rfl,fun he=>hy (text_eq.1 he),fun he=>⟨_,rfl,hN fun e=>?_⟩⟩
  have:=text_eq.2 e
  rw [this] at he; cases he
 refine key.mono ?_
 rintro V2 _ ⟨rfl,rfl⟩
 exact⟨nofun,_,rfl,leb,rfl⟩
theorem load_part {V:Know} {a:Addr} {m o n:Nat} {L l':List Value} (h:loadV V a m=some L) (hc:cutv L o n=some l'):loadV V (a.add o) n=some l':=by
 obtain⟨b,off,sp⟩:=a
 cases sp with
 | some _=>simp [loadV] at h
 | none =>
  simp only [addr_add_eq,loadV] at h ⊢
  cases hb:V b with
  | none=>rw [hb] at h; cases h
  | some y =>
   rw [hb] at h
   simp only at h ⊢
   unfold cutv at h hc ⊢
   split at h
   ·rename_i hle
    simp only [Option.some.injEq] at h
    subst h
    split at hc
    ·rename_i hle2
     simp only [Option.some.injEq] at hc
     simp only [List.length_take,List.length_drop] at hle2
     rw [if_pos (by omega)]
     simp only [Option.some.injEq]
     rw [← hc,List.drop_take,List.take_take,List.drop_drop]
     congr 1
     omega
    ·cases hc
   ·cases h
theorem setl_mon (c:Scs [.s,.s,.b,.l]) (z:Scs MonSh):Scs.vals [.s,.s,.b,.l] (c.1,z)=setl (Scs.vals [.s,.s,.b,.l] c) 1 (Scs.vals MonSh z):=rfl
theorem bk_no {V V':Know} (le:V.le V'):BkPost V ([],false) V' (packed [qv4 (⟨none,0,0⟩,()),.bool false]):=⟨le,⟨none,0,0⟩,[],rfl,⟨rfl,Nat.le_refl _,by decide,.inl ⟨rfl,fun _=>rfl,rfl⟩⟩,Own.nil⟩
theorem at_neg {n:ByteArray} {l:List DAcct}:(atN n l<0↔fnd n l=none):=by
 cases h:fnd n l with
 | none=>rw [atN_none h]; simp
 | some i=>rw [atN_some h]; simp
theorem at_some {n:ByteArray} {l:List DAcct} (h:¬ atN n l<0):∃ (i:Nat) (hi:i<l.length),fnd n l=some i∧atN n l=i∧l[i].1=n:=by
 cases hf:fnd n l with
 | none=>exact absurd (at_neg.2 hf) h
 | some i =>
  obtain⟨h1,h2⟩:=fnd_at hf
  exact⟨i,h1,rfl,atN_some hf,h2⟩
theorem post_change {V:Know} (hV:HcI V) {b3 b4:Nat} {t3 t4:TypeId} {l:List DAcct} {i:Nat} (hi:i<l.length) {cm:Scs MonSh} {x z:DMoney} {g:List Nat} {ok:Bool} (hx:rMoney.R V cm x g) (ha:addM l[i].2 x=(z,ok))
  (h3:V b3=some ([.int .i64 (i:Int)],(t3,(0,0)))) (h4:V b4=some (Scs.vals MonSh cm,(t4,(0,0)))):Change V 318 [.pointer (some ⟨b3,0,none⟩),.pointer (some ⟨b4,0,none⟩)] l (l.set i (l[i].1,z)) ok:=by
 intro V1 b q s f le hbV G O hl1 hbf hbk
 have L:=G.lr (show l.length≤9223372036854775807 by omega)
 refine CallX.of_fits Tryz.mix (fI_BookPost_1 ⟨b,2,none⟩ ⟨b3,0,none⟩ ⟨b4,0,none⟩) fun _=>?_
 simp only [tI_BookPost_1,T.wp]
 obtain⟨bb,o,cs,u,c,fc,hsa,hbb,hlen,hld,hR,hfc,hset⟩:=L.putRow O hi
 have hn:=L.1
 have e0:(i:Int).toNat=i:=by omega
 refine⟨V1,Know.le.refl _,s,?_,(i:Int),?_,?_⟩
 ·simp only [addr_add_eq,loadV,if_true,hbk]; rfl
 ·simp only [loadV,if_true,le _ _ h3]; rfl
 rw [e0]
 refine⟨_,hsa,by omega,by omega,c.2,load_part hld rfl,cm,?_,(cI_MoneyAdd (hasCur.le hV le) c.2 cm l[i].2 x fc g hR.2 (rMoney.le hx le)).mono ?_⟩
 ·simp only [loadV,if_true,le _ _ h4]; rfl
 rintro V2 _ ⟨le2,cz,z',ok',fz,rfl,Rz,Oz,ha'⟩
 obtain⟨rfl,rfl⟩:z'=z∧ok'=ok:=by
  have:=ha'.symm.trans ha
  simpa using this
 have l2:=le.trans le2
 obtain⟨f',Lf,Of,lef,hbf',hsub⟩:=hset (c':=(c.1,cz)) (x':=(l[i].1,z')) (k:=1) (vs:=Scs.vals MonSh cz) le2 l2 ⟨hR.1,Rz⟩ (O.append Oz le le2) (by simp [vals_len]) (setl_mon c cz)
 refine⟨fun _=>le2,(cz,ok',()),rfl,s,?_,(i:Int),?_,?_⟩
 ·simp only [addr_add_eq,loadV,if_true,le2 _ _ hbk]; rfl
 ·simp only [loadV,if_true,l2 _ _ h3]; rfl
 rw [e0]
 refine⟨_,hsa,by omega,by omega,cs,u,?_⟩
 simp only [addr_add_eq]
 have hne:b≠bb:=fun e=>hbf (by rw [e]; exact hbf')
 refine⟨trivial,le2 _ _ hbb,by omega,rfl,lef,s,?_,fun _=>⟨f',Lf,Of,fun hm=>?_⟩⟩
 ·rw [kset_other hne]; exact le2 _ _ hbk
 ·rcases hsub b hm with h | h
  ·exact hbf h
  ·rw [Oz.2.1 b h] at hbk; cases hbk
theorem cI_BookPost {V:Know} (hV:HcI V) (s:SlV) (l:List DAcct) (f:List Nat) (h:LR rAcct V s l f) (n:ByteArray) (cm:Scs MonSh) (x:DMoney) (g:List Nat) (hx:rMoney.R V cm x g) :
  CallX Tryz.prog V 316 [qv4 (s,()),.string n,qv2 cm] (BkPost V (postB l n x)):=by
 refine CallX.of_fits Tryz.mix (fI_BookPost _ _ _) fun _=>?_
 simp only [tI_BookPost,T.wp]
 refine(cI_AcctAt V s l f h n).mono ?_
 rintro V1 _ ⟨le1,rfl⟩
 refine⟨nofun,_,rfl,(cI_BookOk (hV.le le1) s l f (h.le le1)).mono ?_⟩
 rintro V2 _ ⟨le2,e2,rfl,he2⟩
 have l2:=le1.trans le2
 refine⟨nofun,e2,rfl,fun hf=>?_,fun h2=>⟨fun hlt=>?_,fun hge=>?_⟩⟩
 ·rw [postB_no (fun k=>by rw [he2.2 k] at hf; cases hf)]
  exact bk_no l2
 ·rw [postB_none (at_neg.1 (of_decide_eq_true hlt))]
  exact bk_no l2
 have ok2:=he2.1 (by simpa using h2)
 obtain⟨i,hi,hfi,hat,hin⟩:=at_some (of_decide_eq_false hge)
 rw [hat]
 obtain⟨⟨z,ok⟩,ha⟩:∃ r,addM l[i].2 x=r:=⟨_,rfl⟩
 rw [postB_some ok2 hfi hi ha]
 intro b3 hb3 b4 hb4
 have q3:=kset_le (x:=([Value.int .i64 (i:Int)],((3:TypeId),((0,0):Nat × Nat)))) hb3
 have q4:=kset_le (x:=(Scs.vals MonSh cm,((72:TypeId),((0,0):Nat × Nat)))) hb4
 have v3:kset (kset V2 b3 ([Value.int .i64 (i:Int)],((3:TypeId),((0,0):Nat × Nat)))) b4 (Scs.vals MonSh cm,((72:TypeId),((0,0):Nat × Nat))) b3=some _:=q4 _ _ kset_same
 have l4:=l2.trans (q3.trans q4)
 refine(cI_changed s l f (h.le l4) (by have:=book_tot ok2; omega) 318 [.pointer (some ⟨b3,0,none⟩),.pointer (some ⟨b4,0,none⟩)] (l.set i (l[i].1,z)) ok rfl (post_change (hV.le l4) hi (rMoney.le hx l4) ha v3 kset_same)).mono ?_
 rintro V5 _ ⟨le5,s5,f5,rfl,L5,O5⟩
 exact⟨nofun,((s5,()),ok,()),rfl,l4.trans le5,s5,f5,rfl,L5,O5.pre l4⟩
theorem cS_BookPost {V:Know} (hV:HcS V) (s:SlV) (l:List DAcct) (f:List Nat) (h:LR rAcct V s l f) (n:ByteArray) (cm:Scs MonSh) (x:DMoney) (g:List Nat) (hx:rMoney.R V cm x g) :
  CallX Tryz.prog V 57 [qv4 (s,()),.string n,qv2 cm] (BkPost V (postB l n x)):=by
 refine CallX.of_fits Tryz.mix (fS_BookPost _ _ _) fun _=>?_
 simp only [tS_BookPost,T.wp]
 refine(cS_AcctAt V s l f h n).mono ?_
 rintro V1 _ ⟨le1,rfl⟩
 refine⟨nofun,_,rfl,(cS_BookOk (hV.le le1) s l f (h.le le1)).mono ?_⟩
 rintro V2 _ ⟨le2,e2,rfl,he2⟩
 have l2:=le1.trans le2
 refine⟨nofun,e2,rfl,fun hf=>?_,fun h2=>⟨fun hlt=>?_,fun hge=>?_⟩⟩
 ·rw [postB_no (fun k=>by rw [he2.2 k] at hf; cases hf)]
  exact bk_no l2
 ·rw [postB_none (at_neg.1 (of_decide_eq_true hlt))]
  exact bk_no l2
 have ok2:=he2.1 (by simpa using h2)
 obtain⟨i,hi,hfi,hat,hin⟩:=at_some (of_decide_eq_false hge)
 have e0:(i:Int).toNat=i:=by omega
 rw [hat,e0]
 have hL:=h.le l2
 have hn:=hL.1
 obtain⟨b1,o1,c1,fc,a1,l1,hR,_⟩:=hL.at hi
 refine⟨_,a1,by omega,by omega,c1.2,load_part l1 rfl,(cS_MoneyAdd c1.2 cm l[i].2 x fc g hR.2 (rMoney.le hx l2)).mono ?_⟩
 rintro V3 _ ⟨le3,cz,z,ok,fz,rfl,Rz,Oz,ha⟩
 have l3:=l2.trans le3
 rw [postB_some ok2 hfi hi ha]
 refine⟨fun _=>le3,(cz,ok,()),rfl,fun hf=>?_,fun ht=>?_⟩
 ·have:ok=false:=by simpa using hf
  subst this
  exact bk_no l3
 have:ok=true:=by simpa using ht
 subst this
 refine(kS_l17Copy V3 (s,()) (l,()) _ (rSl.mk (h.le l3) rNil.mk) (by show l.length+totE rAcct l+0≤1048576; have:=book_tot ok2; omega)).mono ?_
 rintro V4 _ ⟨le4,⟨s4,su⟩,f4,rfl,⟨g4,g5,e4,L4,hN⟩,O4⟩
 replace L4:LR rAcct V4 s4 l g4:=L4
 replace hN:g5=[]:=hN
 subst hN
 rw [List.append_nil] at e4
 subst e4
 have hn4:=L4.1
 obtain⟨bb,o,cs,u,c,fc4,hsa,hbb,hlen,hld,hR4,hfc,hset⟩:=L4.putRow (O4.pre le3) hi
 obtain⟨f',Lf,Of,lef,_⟩:=hset (c':=(c.1,cz)) (x':=(l[i].1,z)) (k:=1) (vs:=Scs.vals MonSh cz) (Know.le.refl _) (le3.trans le4) ⟨hR4.1,rMoney.le Rz le4⟩ ((Oz.append O4 le3 le4).perm List.perm_append_comm) (by simp [vals_len]) (setl_mon c cz)
 refine⟨nofun,(s4,()),rfl,_,hsa,by omega,(by show(i:Int)<(s4.n:Int); omega),cs,u,?_⟩
 simp only [addr_add_eq]
 exact⟨trivial,hbb,(by show o+i*4+1+3≤cs.length; have h4:o+i*4+4≤cs.length:=hlen; omega),l2.trans lef,s4,f',rfl,Lf,Of.pre l2⟩
end Go.Proofs.YtpdfdkccgkieoaaGreatDoor
