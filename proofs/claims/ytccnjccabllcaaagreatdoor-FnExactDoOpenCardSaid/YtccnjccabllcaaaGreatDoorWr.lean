/-
  Memory that is written: what stays, and one limb replaced in place.
-/
import Derived.Test.YtccnjccabllcaaaGreatDoorNum
import Derived.Test.YtccnjccabllcaaaGreatDoorDivM
namespace Go.Proofs.YtccnjccabllcaaaGreatDoor
open Sx
set_option maxRecDepth 100000
def LeBut (f:List Nat) (V V':Know):Prop:=∀ b x,b ∉ f→V b=some x→V' b=some x
theorem LeBut.refl {f:List Nat} {V:Know}:LeBut f V V:=fun _ _ _ h=>h
theorem LeBut.trans {f:List Nat} {V V1 V2:Know} (h:LeBut f V V1) (k:LeBut f V1 V2):LeBut f V V2:=fun b x hb hx=>k b x hb (h b x hb hx)
theorem LeBut.of_le {f:List Nat} {V V':Know} (h:V.le V'):LeBut f V V':=fun b x _ hx=>h b x hx
theorem LeBut.sub {f g:List Nat} {V V':Know} (h:LeBut f V V') (hs:∀ b∈f,b∈g):LeBut g V V':=fun b x hb hx=>h b x (fun hm=>hb (hs b hm)) hx
theorem LeBut.kset {f:List Nat} {V:Know} {b:Nat} {x} (h:b∈f):LeBut f V (kset V b x):=fun k y hk hy=>by
 simp only [Sx.kset]
 rw [if_neg (fun e=>hk (by rw [e]; exact h))]; exact hy
theorem le_but {f:List Nat} {V V1 V2:Know} (h:V.le V1) (hf:∀ b∈f,V b=none) (k:LeBut f V1 V2):V.le V2:=fun b x hx=>k b x (fun hm=>by rw [hf b hm] at hx; cases hx) (h b x hx)
theorem Rp.but {sh:List Sc} {α:Type} (r:Rp sh α) {V V':Know} {c:Scs sh} {x:α} {fp f:List Nat} (h:r.R V c x fp) (hd:∀ b∈fp,b ∉ f) (k:LeBut f V V'):r.R V' c x fp :=
 r.loc h fun b hb=>by obtain⟨y,hy⟩:=r.kn h b hb; rw [hy]; exact k b y (hd b hb) hy
theorem LR.but {sh:List Sc} {α:Type} {r:Rp sh α} {V V':Know} {s:SlV} {l:List α} {fp f:List Nat} (h:LR r V s l fp) (hd:∀ b∈fp,b ∉ f) (k:LeBut f V V'):LR r V' s l fp :=
 h.loc fun b hb=>by obtain⟨y,hy⟩:=h.kn b hb; rw [hy]; exact k b y (hd b hb) hy
theorem LR.put {V:Know} {s:SlV} {l:List Lim} {f:List Nat} (h:LR rI V s l f) (hw:Wr V f) {i:Nat} (hi:i<l.length) (x:Int) :
  ∃ b o cs u,s.a=some ⟨b,o,none⟩∧V b=some (cs,(u,(0,0)))∧o+i*1+1≤cs.length∧b∈f∧LR rI (kset V b (setl cs (o+i*1) [.int .i64 x],(u,(0,0)))) s (l.set i (x,())) f∧Wr (kset V b (setl cs (o+i*1) [.int .i64 x],(u,(0,0)))) f:=by
 obtain⟨h1,h2,h3,h4⟩:=h
 rcases h4 with ⟨h0,_,_⟩ | ⟨b,pre,post,t,fps,cs,k1,k2,k3,rfl⟩
 ·omega
 ·obtain⟨rfl,rfl⟩:=els_int_eq k3
  obtain⟨c',t',hk⟩:=hw b (by simp)
  rw [k2] at hk
  simp only [Option.some.injEq,Prod.mk.injEq] at hk
  obtain⟨rfl,rfl⟩:=hk
  refine⟨b,pre.length,_,t',k1,k2,?_,by simp,⟨by simp; exact h1,h2,h3,.inr ⟨b,pre,post,(t',(0,0)),[],cs.set i (x,()),k1,?_,els_int _,rfl⟩⟩,?_⟩
  ·rw [flat_int]
   simp
   omega
  ·rw [kset_same,flat_int,flat_int]
   have e1:pre++(cs.map cellI++post)=(pre++(cs.take i).map cellI)++((cs.drop i).map cellI++post):=by
    rw [List.append_assoc,← List.append_assoc ((cs.take i).map cellI),← List.map_append,List.take_append_drop]
   have e3:(cs.drop i).map cellI++post=cellI cs[i] :: ((cs.drop (i+1)).map cellI++post):=by rw [List.drop_eq_getElem_cons hi]; rfl
   have e2:cs.set i (x,())=cs.take i++(x,()) :: cs.drop (i+1):=by
    rw [List.set_eq_take_append_cons_drop,if_pos hi]
   rw [e1,e3,setl_mid (by simp; omega) (by simp),e2]
   simp only [List.length_singleton,List.drop_succ_cons,List.drop_zero,List.map_append,List.map_cons,List.append_assoc,List.cons_append,List.nil_append]
   rfl
  ·intro b' hb'
   simp at hb'
   subst hb'
   exact⟨_,_,kset_same⟩
end Go.Proofs.YtccnjccabllcaaaGreatDoor
