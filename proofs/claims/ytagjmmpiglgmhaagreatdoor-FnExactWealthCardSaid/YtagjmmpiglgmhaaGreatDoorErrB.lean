/-
  The code of an error: errors.As as a contract.
-/
import Derived.Test.YtagjmmpiglgmhaaGreatDoorErr
import Derived.OneCell
import Derived.Below
namespace Go.Proofs.YtagjmmpiglgmhaaGreatDoor
open Sx Go.RowKit
set_option maxRecDepth 100000
theorem wA_old (t:Addr) (c:Int) (w:World) (k:Nat) (h:k<w.heap.size):(wA t c w).heap[k]?=w.heap[k]?:=by
 rw [Below.heap_alloc _ _ _ (by simp; omega),Below.heap_alloc _ _ _ (by simp; omega),Below.heap_alloc _ _ _ (by simp; omega),Below.heap_alloc _ _ _ h]
theorem cX_As (V:Know) (c:Int) (b:Nat) (old:Value) (hE:hasErr V) (hb:V b=some ([old],(eT,(0,0)))) :
  CallX Tryz.prog V 89 [.iface eT (.agg #[.int .i64 c]),.iface eP (.pointer (some ⟨b,0,none⟩))] (fun V' r=>V'=kset V b ([.int .i64 c],(eT,(0,0)))∧r=.bool true):=by
 refine⟨⟨_,Tryz.func89,by kernel_rfl,by kernel_rfl⟩,fun w hw=>?_⟩
 obtain⟨te,hte⟩:=hE
 have hg:=hw.cell hte 0 (fun es e=>by simp at e) (by simp)
 have hrow:w.heap[b]?=some (.cells #[old] eT (0,0)):=hw.row hb
 have hlt:b<w.heap.size:=(Array.getElem?_eq_some_iff.1 hrow).1
 have ht0:w.cell? ⟨b,0,none⟩=some old:=by rw [cell_of_row w _ _ _ _ _ hrow]; rfl
 have hf:w.frozen? ⟨b,0,none⟩=false:=by simp [World.frozen?,hrow]
 refine(as_hit c ⟨b,0,none⟩ old w (by rw [hg]; rfl) ht0 hf).mono ?_
 rintro e w' ⟨rfl,rfl⟩
 have hb2:(wA ⟨b,0,none⟩ c w).heap[b]?=some (.cells #[old] eT (0,0)):=by rw [wA_old _ _ _ _ hlt]; exact hrow
 have oth:∀ k,k<w.heap.size→k≠b→((wA ⟨b,0,none⟩ c w).setCell ⟨b,0,none⟩ (.int .i64 c)).heap[k]?=w.heap[k]?:=fun k hk hkb=>by
  rw [Below.heap_setCell _ _ _ _ hkb,wA_old _ _ _ _ hk]
 refine⟨kset V b ([.int .i64 c],(eT,(0,0))),_,rfl,⟨?_,?_,?_,?_,fun k hk hn=>?_,fun k hk hn=>?_⟩,fun k cs t hk=>?_,rfl,rfl⟩
 ·rfl
 ·rfl
 ·rfl
 ·have:(wA ⟨b,0,none⟩ c w).heap.size=w.heap.size+4:=by simp only [World.alloc,Array.size_push]
  have e:((wA ⟨b,0,none⟩ c w).setCell ⟨b,0,none⟩ (.int .i64 c)).heap.size=(wA ⟨b,0,none⟩ c w).heap.size:=by simp only [World.setCell,Array.size_modify]
  omega
 ·exact oth k hk (fun e=>by rw [e,hb] at hn; cases hn)
 ·rw [kset_other (fun e=>by rw [e,hb] at hn; cases hn)]; exact hn
 ·by_cases e:k=b
  ·subst e
   rw [kset_same] at hk
   simp only [Option.some.injEq,Prod.mk.injEq] at hk
   obtain⟨rfl,rfl⟩:=hk
   rw [one_setCell hb2,objOf_rw]
  ·rw [kset_other e] at hk
   have h1:=hw k cs t hk
   rw [oth k (Array.getElem?_eq_some_iff.1 h1).1 e]; exact h1
theorem cX_As0 (V:Know) (t:Value):CallX Tryz.prog V 89 [.nilIface,t] (fun V' r=>V'=V∧r=.bool false):=by
 refine⟨⟨_,Tryz.func89,by kernel_rfl,by kernel_rfl⟩,fun w hw=>(as_nil t w).mono ?_⟩
 rintro e w' ⟨rfl,rfl⟩
 exact⟨V,_,rfl,Fr.refl _ _,hw,rfl,rfl⟩
theorem cI_codeOf (V:Know) (hE:hasErr V) (y:Option (Nat × Int)) (code:Int) (hy:(y=none∧code=0)∨y=some (errT,code)):CallX Tryz.prog V gI_codeOf [Sc.val .e y] (fun V' r=>V.le V'∧r=.int .i64 code):=by
 refine CallX.of_fits Tryz.mix (fI_codeOf _) fun _=>?_
 simp only [tI_codeOf,T.wp]
 intro b hb
 have le1:=kset_le (x:=([Value.int .i64 0],(eT,((0,0):Nat × Nat)))) hb
 rcases hy with ⟨rfl,rfl⟩ | rfl
 ·refine(cX_As0 _ _).mono ?_
  rintro V2 _ ⟨rfl,rfl⟩
  exact⟨nofun,false,rfl,nofun,fun _=>⟨le1,rfl⟩⟩
 ·refine(cX_As _ code b (.int .i64 0) (hE.le le1) kset_same).mono ?_
  rintro V2 _ ⟨rfl,rfl⟩
  refine⟨nofun,true,rfl,fun _=>⟨code,?_,?_,rfl⟩,nofun⟩
  ·simp only [loadV,addr_add_eq,Bool.false_eq_true,if_false,kset_same]
   rfl
  ·intro k x hk
   have e:k≠b:=fun e=>by rw [e,hb] at hk; cases hk
   rw [kset_other e,kset_other e]; exact hk
end Go.Proofs.YtagjmmpiglgmhaaGreatDoor
