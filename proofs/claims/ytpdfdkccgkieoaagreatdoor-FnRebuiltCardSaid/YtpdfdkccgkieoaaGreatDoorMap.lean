/-
  Operations on maps that are known: made, asked, laid into.
-/
import Derived.Test.YtpdfdkccgkieoaaGreatDoorRead
import Derived.ChangeKeysEq
import Derived.Carry
namespace Go.Proofs.YtpdfdkccgkieoaaGreatDoor
open Sx
theorem semx_mk {P:Program} {V:Know} {t:TypeId}:SemX P V (MOp.mk t).sem (fun V' r=>∃ b,V b=none∧V'=kset V b (mapC [],(0,(1,0)))∧r=.map (some b)):=by
 intro w hw
 refine⟨_,_,_,(show(MOp.mk t).sem.run P w=.ok (.map (some w.heap.size)) (w.alloc (.map #[] 0)) from rfl),⟨rfl,rfl,rfl,by simp,fun b hb _=>heap_alloc_old w _ hb,fun b hb hn=>?_⟩,fun b c u hb=>?_,w.heap.size,hw.size_none,rfl,rfl⟩
 ·rw [kset_other (by omega)]; exact hn
 ·by_cases e:b=w.heap.size
  ·subst e
   rw [kset_same] at hb
   simp only [Option.some.injEq,Prod.mk.injEq] at hb
   obtain⟨rfl,rfl⟩:=hb
   rw [heap_alloc_new,objOf_map]
  ·rw [kset_other e] at hb
   have:=hw b c u hb
   rw [heap_alloc_old w _ (Array.getElem?_eq_some_iff.1 this).1]; exact this
theorem map_set {V:Know} {w:World} (hw:V.on w) {m k k':Nat} {es es':List MapEntry} (hV:V m=some (mapC es,(k,(1,0)))) :
  Fr V (kset V m (mapC es',(k',(1,0)))) w { w with heap:=w.heap.setIfInBounds m (.map es'.toArray k') }∧(kset V m (mapC es',(k',(1,0)))).on { w with heap:=w.heap.setIfInBounds m (.map es'.toArray k') }:=by
 have hm:=hw _ _ _ hV
 have hlt:=(Array.getElem?_eq_some_iff.1 hm).1
 have ho:∀ b,b≠m→(w.heap.setIfInBounds m (.map es'.toArray k'))[b]?=w.heap[b]?:=fun b hb=>Array.getElem?_setIfInBounds_ne (Ne.symm hb)
 refine⟨⟨rfl,rfl,rfl,by simp,fun b hb hn=>ho b (fun e=>by rw [e,hV] at hn; cases hn),fun b hb hn=>?_⟩,fun b c u hb=>?_⟩
 ·rw [kset_other (fun e=>by rw [e,hV] at hn; cases hn)]; exact hn
 ·by_cases e:b=m
  ·subst e
   rw [kset_same] at hb
   simp only [Option.some.injEq,Prod.mk.injEq] at hb
   obtain⟨rfl,rfl⟩:=hb
   rw [objOf_map]
   show(w.heap.setIfInBounds b _)[b]?=_
   rw [Array.getElem?_setIfInBounds_self_of_lt hlt]
  ·rw [kset_other e] at hb
   rw [← hw b c u hb]
   exact ho b e
structure PairTy (P:Program) (T S:TypeId):Prop where
 und:P.underlying T=some (.struct (P.fieldsOf T))
 held:P.stoodInHeld T=false
 fs:(P.fieldsOf T).toList=[(P.fieldsOf T)[0]!,(P.fieldsOf T)[1]!]
 nm : (P.fieldsOf T)[0]!.name ≠ "_" ∧ (P.fieldsOf T)[1]!.name ≠ "_"
 ty:(P.fieldsOf T)[0]!.type=S∧(P.fieldsOf T)[1]!.type=S
 off:(P.fieldsOf T)[0]!.offset=0∧(P.fieldsOf T)[1]!.offset=1
 str:P.underlying S=some .string
def pairK (p:ByteArray × ByteArray):Value:=.agg #[.string p.1,.string p.2]
theorem toL_eq (a b:ByteArray):(a.toList == b.toList)=decide (a=b):=by
 by_cases h:a=b
 ·rw [decide_eq_true h]; exact text_eq.2 h
 ·rw [decide_eq_false h]; exact text_ne.2 h
section
variable {P:Program} {T S:TypeId} (hT:PairTy P T S) (w:World)
include hT
theorem run_part0 (a b:ByteArray):(part S #[.string a,.string b] 0).run P w=.ok (.string a) w:=by
 simp [part,isAgg,run_underlying hT.str]
theorem run_part1 (a b:ByteArray):(part S #[.string a,.string b] 1).run P w=.ok (.string b) w:=by
 simp [part,isAgg,run_underlying hT.str]
theorem run_eqPair (p q:ByteArray × ByteArray):(Op.equal T (pairK p) (pairK q)).run P w=.ok (decide (p=q)) w:=by
 have h:=run_equalIn_struct w 9999 T #[.string p.1,.string p.2] #[.string q.1,.string q.2] hT.und hT.held
 show(Op.equalIn (9999+1) T _ _).run P w=_
 unfold pairK
 rw [h,hT.fs]
 have n0:=hT.nm.1
 have n1:=hT.nm.2
 have es:∀ (a b:ByteArray),(Op.equalIn 9999 S (.string a) (.string b)).run P w=.ok (decide (a=b)) w:=fun a b=>by
  rw [← toL_eq]; exact run_equalIn_string w 9998 S a b hT.str
 obtain⟨p1,p2⟩:=p
 obtain⟨q1,q2⟩:=q
 simp only [Op.eqFields,hT.ty.1,hT.ty.2,hT.off.1,hT.off.2,Sem.run_bind,run_part0 hT,Result.andThen_ok,es,ne_eq,n0,n1,not_false_eq_true,if_true]
 by_cases h1:p1=q1
 ·rw [decide_eq_true h1]
  simp only [Bool.not_true,Bool.false_eq_true,if_false,Sem.run_bind,run_part1 hT,Result.andThen_ok,es]
  by_cases h2:p2=q2
  ·rw [decide_eq_true h2]
   simp [h1,h2]
  ·rw [decide_eq_false h2]
   simp [h1,h2]
 ·rw [decide_eq_false h1]
  simp [h1]
theorem run_checkText (e:Bool) (n:Nat) (s:ByteArray):(Instr.checkKey e (n+1) S (.string s)).run P w=.ok () w:=by
 simp [Instr.checkKey,run_underlying hT.str]
theorem run_checkPairN (e:Bool) (n:Nat) (p:ByteArray × ByteArray):(Instr.checkKey e (n+1+1) T (pairK p)).run P w=.ok () w:=by
 have n0:=hT.nm.1
 have n1:=hT.nm.2
 unfold pairK
 rw [Instr.checkKey]
 simp only [Sem.run_bind,run_underlying hT.und,Result.andThen_ok]
 rw [← Array.forIn_toList,hT.fs]
 simp [hT.ty.1,hT.ty.2,hT.off.1,hT.off.2,n0,n1,run_part0 hT,run_part1 hT,run_checkText hT]
theorem run_checkPair (e:Bool) (p:ByteArray × ByteArray):(Instr.checkKey e 10000 T (pairK p)).run P w=.ok () w:=run_checkPairN hT w e 9998 p
end
def pairE (i:Nat) (p:ByteArray × ByteArray):MapEntry:=⟨pairK p,.bool true,i⟩
def pairEs:Nat→List (ByteArray × ByteArray)→List MapEntry
 | _,[]=>[]
 | i,p :: l=>pairE i p :: pairEs (i+1) l
theorem pairEs_app:∀ (l:List (ByteArray × ByteArray)) (i:Nat) (p:ByteArray × ByteArray),pairEs i (l++[p])=pairEs i l++[pairE (i+l.length) p]
 | [],i,p=>rfl
 | q :: l,i,p=>by
  show pairE i q :: pairEs (i+1) (l++[p])=_
  rw [pairEs_app l (i+1) p,List.length_cons,show i+1+l.length=i+(l.length+1) by omega]; rfl
theorem run_askPair {P:Program} {T S:TypeId} (hT:PairTy P T S) (w:World) (p:ByteArray × ByteArray):∀ (l:List (ByteArray × ByteArray)) (i j:Nat),
  ∃ o,(Instr.findAsking T (pairK p) (pairEs i l) j).run P w=.ok o w∧(p∈l→∃ k,o=some (k,.bool true))∧(p ∉ l→o=none)
 | [],i,j=>⟨none,by simp [Instr.findAsking,pairEs],(fun h=>by cases h),fun _=>rfl⟩
 | q :: l,i,j=>by
  obtain⟨o,h1,h2,h3⟩:=run_askPair hT w p l (i+1) (j+1)
  have e:=run_eqPair hT w p q
  by_cases hpq:p=q
  ·refine⟨some (j,.bool true),?_,fun _=>⟨j,rfl⟩,fun h=>absurd (by rw [hpq]; exact List.mem_cons_self) h⟩
   rw [decide_eq_true hpq] at e
   simp only [Instr.findAsking,pairEs,Sem.run_bind]
   show((Op.equal T (pairK p) (pairK q)).run P w).andThen _=_
   rw [e]
   simp [pairE]
  ·refine⟨o,?_,fun h=>h2 ((List.mem_cons.1 h).resolve_left hpq),fun h=>h3 (fun k=>h (List.mem_cons_of_mem _ k))⟩
   rw [decide_eq_false hpq] at e
   simp only [Instr.findAsking,pairEs,Sem.run_bind]
   show((Op.equal T (pairK p) (pairK q)).run P w).andThen _=_
   rw [e]
   simpa using h1
theorem run_findPair {P:Program} {T S:TypeId} (hT:PairTy P T S) (w:World) (p:ByteArray × ByteArray) (l:List (ByteArray × ByteArray)) :
  ∃ o,(Instr.findKey T (pairK p) (pairEs 0 l)).run P w=.ok o w∧(p∈l→∃ k,o=some (k,.bool true))∧(p ∉ l→o=none):=by
 obtain⟨o,h1,h2,h3⟩:=run_askPair hT w p l 0 0
 cases l with
 | nil =>
  refine⟨none,?_,(fun h=>by cases h),fun _=>rfl⟩
  simp [Instr.findKey,run_underlying hT.und,pairEs,Instr.findNow]
 | cons q l =>
  refine⟨o,?_,h2,h3⟩
  simp only [Instr.findKey,run_underlying hT.und,Sem.run_bind,Result.andThen_ok]
  have:Instr.findNow (.struct (P.fieldsOf T)) (pairK p) (pairEs 0 (q :: l)) 0=none:=rfl
  rw [this]
  exact h1
theorem semx_lkPair {P:Program} {V:Know} {M T S E m:Nat} {l:List (ByteArray × ByteArray)} (hM:P.underlying M=some (.map T E)) (hz:∀ w,(zeroValue E).run P w=.ok (.bool false) w) (hT:PairTy P T S)
  (hV:V m=some (mapC (pairEs 0 l),(l.length,(1,0)))) (p:ByteArray × ByteArray) :
  SemX P V (MOp.lk M (.map (some m)) (pairK p) false).sem (fun V' r=>V'=V∧∃ e,r=.bool e∧(e=true↔p∈l)):=by
 intro w hw
 have hm:=hw _ _ _ hV
 rw [objOf_map] at hm
 obtain⟨o,h1,h2,h3⟩:=run_findPair hT w p l
 have hg:(getObj m).run P w=.ok (.map (pairEs 0 l).toArray l.length) w:=by simp [getObj,Sem.run,hm]
 by_cases h:p∈l
 ·obtain⟨k,rfl⟩:=h2 h
  refine⟨.bool true,w,V,?_,Fr.refl V w,hw,rfl,true,rfl,⟨fun _=>h,fun _=>rfl⟩⟩
  simp [MOp.sem,Instr.lookup,run_underlying hM,hg,run_checkPair hT,h1]
 ·have:=h3 h
  subst this
  refine⟨.bool false,w,V,?_,Fr.refl V w,hw,rfl,false,rfl,⟨(fun e=>by cases e),fun e=>absurd e h⟩⟩
  simp [MOp.sem,Instr.lookup,run_underlying hM,hg,run_checkPair hT,h1,hz]
theorem semx_upPair {P:Program} {V:Know} {M T S E m:Nat} {l:List (ByteArray × ByteArray)} (hM:P.underlying M=some (.map T E)) (hT:PairTy P T S)
  (hV:V m=some (mapC (pairEs 0 l),(l.length,(1,0)))) (p:ByteArray × ByteArray) (h:p ∉ l) :
  SemX P V (MOp.up M (.map (some m)) (pairK p) (.bool true)).sem (fun V' r=>V'=kset V m (mapC (pairEs 0 (l++[p])),((l++[p]).length,(1,0)))∧r=.tuple #[]):=by
 intro w hw
 have hm:=hw _ _ _ hV
 rw [objOf_map] at hm
 have hlt:=(Array.getElem?_eq_some_iff.1 hm).1
 obtain⟨o,h1,h2,h3⟩:=run_findPair hT w p l
 have:=h3 h
 subst this
 have hg:(getObj m).run P w=.ok (.map (pairEs 0 l).toArray l.length) w:=by simp [getObj,Sem.run,hm]
 obtain⟨f1,f2⟩:=map_set (k':=(l++[p]).length) (es':=pairEs 0 (l++[p])) hw hV
 refine⟨_,_,_,?_,f1,f2,rfl,rfl⟩
 have hs:(setObj m (.map (pairEs 0 (l++[p])).toArray (l++[p]).length)).run P w=.ok () { w with heap:=w.heap.setIfInBounds m (.map (pairEs 0 (l++[p])).toArray (l++[p]).length) }:=by
  simp [setObj,Sem.run,hm]
 have e:(pairEs 0 l).toArray.push { key:=pairK p,val:=.bool true,born:=l.length }=(pairEs 0 (l++[p])).toArray:=by
  rw [pairEs_app]
  simp [pairE]
 have e2:l.length+1=(l++[p]).length:=by simp
 simp only [MOp.sem,Instr.mapUpdate,run_underlying hM,Sem.run_bind,Result.andThen_ok,hg,run_checkPair hT,h1,e,e2,hs]
 rfl
end Go.Proofs.YtpdfdkccgkieoaaGreatDoor
