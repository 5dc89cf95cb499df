/-
  A book is changed under its lock.
-/
import Derived.Test.YtccnjccabllcaaaGreatDoorMu
import Derived.Test.YtccnjccabllcaaaGreatDoorCopy
import Derived.WalkKit
namespace Go.Proofs.YtccnjccabllcaaaGreatDoor
open Sx Go.MuLone
set_option maxRecDepth 100000
theorem run_enter {P:Program} {n:Nat} (h:Enters P n) (args:Array Value) (w:World):(callFunc n args).run P w=.ok (.enter n args) w:=by
 obtain⟨fn,h1,h2,h3⟩:=h
 have h2':fn.body≠none:=fun e=>by rw [e] at h2; cases h2
 have h3' : ¬ fn.name = "runtime.NumGoroutine" := by simpa using h3
 simp [callFunc,h1,h2',h3']
set_option maxHeartbeats 800000 in
theorem change_any (b n:Nat) (cs:Array Value) (K:World→Bool→Prop) (w:World) (h0:w.cell? ⟨b,0,none⟩=some (.int .i32 0)) (f0:w.frozen? ⟨b,0,none⟩=false) (hn:Enters Tryz.prog n)
  (hc:Calls Tryz.prog n (#[.pointer (some ⟨b,2,none⟩)]++cs) (w.setCell ⟨b,0,none⟩ (.int .i32 1)) fun e w'=>∃ r,e=.returned (.bool r)∧w'.cell? ⟨b,0,none⟩=some (.int .i32 1)∧w'.frozen? ⟨b,0,none⟩=false∧K (w'.setCell ⟨b,0,none⟩ (.int .i32 0)) r) :
  Calls Tryz.prog 198 #[.pointer (some ⟨b,0,none⟩),.func (.func n) #[] cs] w fun e w'=>∃ r,e=.returned (.bool r)∧K w' r:=by
 go_enter_defers Tryz.func198,Tryz.ntmps198
 go_wp2_with (go_at_call 201; refine(lock_free muLib ⟨b,0,none⟩ _ h0 f0).mono ?_; rintro e w' ⟨rfl,rfl⟩)
 rw [run_enter hn]
 refine Calls.mono hc ?_
 rintro e w' ⟨r,rfl,h1,f1,hK⟩
 go_wp2
 refine leaves_cons (f:=202) (args:=#[.pointer (some ⟨b,0,none⟩)]) (by simp) (by simp [go_sem]) ?_
 refine(unlock_deferred muLib ⟨b,0,none⟩ .returning _ h1 f1).mono ?_
 rintro e u' w'' ⟨rfl,rfl,rfl⟩
 exact⟨_,results_tmp rfl _ _ _,r,rfl,hK⟩
theorem set_on {V:Know} {w:World} (hV:V.on w) {b:Nat} {x y:Value} {l:List Value} {t:TypeId} (hb:V b=some (x :: l,(t,(0,0)))) :
  (kset V b (y :: l,(t,(0,0)))).on (w.setCell ⟨b,0,none⟩ y)∧Fr V (kset V b (y :: l,(t,(0,0)))) w (w.setCell ⟨b,0,none⟩ y)∧w.cell? ⟨b,0,none⟩=some x∧w.frozen? ⟨b,0,none⟩=false:=by
 have h0:w.heap[b]?=some (.cells (x :: l).toArray t (0,0)):=by rw [hV b _ _ hb,objOf_rw]
 have hlt:b<w.heap.size:=(Array.getElem?_eq_some_iff.1 h0).1
 have hs:∀ k,k≠b→(w.setCell ⟨b,0,none⟩ y).heap[k]?=w.heap[k]?:=fun k hk=>by
  simp only [World.setCell,Array.getElem?_modify]
  rw [if_neg (fun e:b=k=>hk e.symm)]
 have hsb:(w.setCell ⟨b,0,none⟩ y).heap[b]?=some (.cells (y :: l).toArray t (0,0)):=by
  simp only [World.setCell,Array.getElem?_modify,if_true,h0]
  simp
 refine⟨fun k c u hk=>?_,⟨rfl,rfl,rfl,by simp [World.setCell],fun k _ hk=>hs k (fun e=>by rw [e,hb] at hk; cases hk),fun k _ hk=>?_⟩,?_,?_⟩
 ·by_cases e:k=b
  ·subst e
   rw [kset_same] at hk
   cases hk
   rw [hsb,objOf_rw]
  ·rw [kset_other e] at hk
   rw [hs k e]; exact hV k c u hk
 ·rw [kset_other (fun e=>by rw [e,hb] at hk; cases hk)]; exact hk
 ·simp [World.cell?,h0]
 ·simp [World.frozen?,h0]
abbrev gdT:TypeId:=241
theorem guard_change {V:Know} {b n:Nat} {cs:List Value} {q s:Value} (hb:V b=some ([.int .i32 0,q,s],(gdT,(0,0)))) {K:Know→Bool→Prop}
  (hc:CallX Tryz.prog (kset V b ([.int .i32 1,q,s],(gdT,(0,0)))) n (.pointer (some ⟨b,2,none⟩) :: cs) fun V' r=>∃ e q' s',r=.bool e∧V' b=some ([.int .i32 1,q',s'],(gdT,(0,0)))∧K (kset V' b ([.int .i32 0,q',s'],(gdT,(0,0)))) e) :
  CallX Tryz.prog V 198 [.pointer (some ⟨b,0,none⟩),.func (.func n) #[] cs.toArray] fun V' r=>∃ e,r=.bool e∧K V' e:=by
 refine⟨⟨_,Tryz.func198,by kernel_rfl,by kernel_rfl⟩,fun w hw=>?_⟩
 obtain⟨on1,fr1,c1,z1⟩:=set_on (y:=.int .i32 1) hw hb
 refine(change_any b n cs.toArray (fun w' e=>∃ V',Fr V V' w w'∧V'.on w'∧K V' e) w c1 z1 hc.1 ?_).mono ?_
 ·have h2:=hc.2 _ on1
  have ea:(.pointer (some ⟨b,2,none⟩) :: cs).toArray=#[Value.pointer (some ⟨b,2,none⟩)]++cs.toArray:=by simp
  rw [ea] at h2
  refine h2.mono ?_
  rintro e w' ⟨V',r,rfl,fr2,on2,e,q',s',rfl,hb2,hK⟩
  obtain⟨on3,fr3,c3,z3⟩:=set_on (y:=.int .i32 0) on2 hb2
  exact⟨e,rfl,c3,z3,_,(fr1.trans fr2).trans fr3,on3,hK⟩
 ·rintro e w' ⟨r,rfl,V',h1,h2,h3⟩
  exact⟨V',_,rfl,h1,h2,r,rfl,h3⟩
def Change (V:Know) (n:Nat) (cs:List Value) (l:List DAcct) (out:List DAcct) (ok:Bool):Prop :=
 ∀ (V1:Know) (b:Nat) (q:Value) (s:SlV) (f:List Nat),V.le V1→V b=none→GR rAcct acT V1 s l f→Own V V1 f→l.length≤1048576→b ∉ f→V1 b=some ([.int .i32 1,q,.slice s.a s.n s.c],(gdT,(0,0))) →
  CallX Tryz.prog V1 n (.pointer (some ⟨b,2,none⟩) :: cs) fun V2 r=>r=.bool ok∧V.le V2∧∃ s',V2 b=some ([.int .i32 1,q,.slice s'.a s'.n s'.c],(gdT,(0,0)))∧(ok=true→∃ f',LR rAcct V2 s' out f'∧Own V V2 f'∧b ∉ f')
abbrev BkPost (V:Know) (y:List DAcct × Bool):Know→Value→Prop:=fun V' v=>V.le V'∧∃ s f,v=.tuple #[Sh1.val (.g [.l]) (s,()),.bool y.2]∧LR rAcct V' s y.1 f∧Own V V' f
theorem kset_loc {V:Know} {b:Nat} {y:List Value × KTy} {g:List Nat} (h:b ∉ g):∀ b'∈g,kset V b y b'=V b':=fun b' hb'=>kset_other (fun e=>h (by rw [← e]; exact hb'))
theorem kset_le2 {V V':Know} {b:Nat} {y:List Value × KTy} (h:V.le V') (hb:V b=none):V.le (kset V' b y):=fun k z hk=>by
 rw [kset_other (fun e=>by rw [e,hb] at hk; cases hk)]
 exact h k z hk
theorem own_kset {V V':Know} {b:Nat} {y:List Value × KTy} {f:List Nat} (h:Own V V' f) (hb:b ∉ f):Own V (kset V' b y) f :=
 ⟨h.1,h.2.1,fun k hk=>by obtain⟨c,t,q⟩:=h.2.2 k hk; exact⟨c,t,by rw [kset_other (fun e=>hb (by rw [← e]; exact hk))]; exact q⟩⟩
theorem cI_changed {V:Know} (s:SlV) (l:List DAcct) (f:List Nat) (h:LR rAcct V s l f) (ht:l.length+totE rAcct l≤1048576) (n:Nat) (cs:List Value) (out:List DAcct) (ok:Bool) (hone:one [.func (.func n) #[] cs.toArray]=true) (hc:Change V n cs l out ok) :
  CallX Tryz.prog V gI_changed [Sh1.val (.g [.l]) (s,()),.func (.func n) #[] cs.toArray] (BkPost V (if ok=true then out else [],ok)):=by
 refine CallX.of_fits Tryz.mix (fI_changed (s,()) ⟨_,hone⟩) fun _=>?_
 simp only [tI_changed,T.wp]
 refine(growI_book V (s,()) (l,()) _ (rSl.mk h rNil.mk) (by show l.length+totE rAcct l+0≤1048576; omega)).mono ?_
 rintro V1 _ ⟨le1,s1,f1,rfl,r1,O1⟩
 refine⟨nofun,(s1,()),rfl,fun b hb=>?_⟩
 have hbV:V b=none:=none_of_le le1 hb
 have hbf:b ∉ f1:=fun hm=>by
  obtain⟨c,t,k⟩:=O1.2.2 b hm
  rw [hb] at k; cases k
 refine(guard_change (s:=.slice s1.a s1.n s1.c) (q:=.int .u32 0) (cs:=cs) (K:=fun V' e=>e=ok∧V.le V'∧∃ s',V' b=some ([.int .i32 0,.int .u32 0,.slice s'.a s'.n s'.c],(gdT,(0,0)))∧(ok=true→∃ f',LR rAcct V' s' out f'∧Own V V' f')) kset_same ?_).mono ?_
 ·refine(hc _ b (.int .u32 0) s1 f1 ?_ hbV (r1.loc (fun y hy=>(kset_loc hbf y hy).trans (kset_loc hbf y hy))) ?_ (by omega) hbf kset_same).mono ?_
  ·exact kset_le2 (kset_le2 le1 hbV) hbV
  ·exact own_kset (own_kset O1 hbf) hbf
  ·rintro V2 _ ⟨rfl,le2,s',h2,hok⟩
   refine⟨ok,_,_,rfl,h2,rfl,kset_le2 le2 hbV,s',kset_same,fun k=>?_⟩
   obtain⟨f',q1,q2,q3⟩:=hok k
   exact⟨f',q1.loc (kset_loc q3),own_kset q2 q3⟩
 ·rintro V2 _ ⟨e,rfl,rfl,le2,s',h2,hok⟩
  refine⟨nofun,e,rfl,fun hf=>?_,fun hT=>?_⟩
  ·have:e=false:=by simpa using hf
   subst this
   exact⟨le2,⟨none,0,0⟩,[],rfl,⟨rfl,Nat.le_refl _,by decide,.inl ⟨rfl,fun _=>rfl,rfl⟩⟩,Own.nil⟩
  ·have:e=true:=by simpa using hT
   subst this
   obtain⟨f',q1,q2⟩:=hok rfl
   refine⟨(s',()),?_,le2,s',f',rfl,q1,q2⟩
   simp only [addr_add_eq,loadV,Bool.false_eq_true,if_false,h2]
   rfl
end Go.Proofs.YtccnjccabllcaaaGreatDoor
