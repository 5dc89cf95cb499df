/-
  A list of rows in a block of its own, while it is sorted: rows loaded, stored, exchanged.
-/
import Derived.Test.YtfiakghfncempaaGreatDoorGrow
namespace Go.Proofs.YtfiakghfncempaaGreatDoor
open Sx
set_option maxRecDepth 100000
section
variable {sh:List Sc}
def AtR (U:Know) (b:Nat) (t:TypeId) (post:List Value) (Z:List (Scs sh)) (V:Know):Prop:=U b=none∧U.le V∧V b=some (Z.flatMap (Scs.vals sh)++post,(t,(0,0)))
theorem AtR.le {U:Know} {b:Nat} {t:TypeId} {post:List Value} {Z:List (Scs sh)} {V V':Know} (h:AtR U b t post Z V) (le:V.le V'):AtR U b t post Z V':=⟨h.1,h.2.1.trans le,le _ _ h.2.2⟩
theorem flat_split {Z:List (Scs sh)} {k:Nat} {c:Scs sh} (h:Z[k]?=some c):Z.flatMap (Scs.vals sh)=(Z.take k).flatMap (Scs.vals sh)++(Scs.vals sh c++(Z.drop (k+1)).flatMap (Scs.vals sh)):=by
 obtain⟨h1,rfl⟩:=List.getElem?_eq_some_iff.1 h
 conv=>lhs; rw [← List.take_append_drop k Z,List.drop_eq_getElem_cons h1]
 rw [List.flatMap_append,List.flatMap_cons]
theorem AtR.ld {U:Know} {b:Nat} {t:TypeId} {post:List Value} {Z:List (Scs sh)} {V:Know} (h:AtR U b t post Z V) {k:Nat} {c:Scs sh} (hk:Z[k]?=some c):loadV V ⟨b,0+k*sh.length,none⟩ sh.length=some (Scs.vals sh c):=by
 have e:=h.2.2
 have hl:k<Z.length:=(List.getElem?_eq_some_iff.1 hk).1
 have ht:((Z.take k).flatMap (Scs.vals sh)).length=k*sh.length:=by rw [flat_len,List.length_take]; congr 1; omega
 rw [flat_split hk,List.append_assoc,List.append_assoc] at e
 simp only [loadV,e]
 have h1:=cutv_skip (x:=(Z.take k).flatMap (Scs.vals sh)) (y:=Scs.vals sh c++((Z.drop (k+1)).flatMap (Scs.vals sh)++post)) (o:=0) (n:=sh.length)
 rw [ht] at h1
 rw [Nat.zero_add]
 refine Eq.trans h1 ?_
 have h2:=cutv_head (x:=Scs.vals sh c) (y:=(Z.drop (k+1)).flatMap (Scs.vals sh)++post)
 rw [vals_len] at h2
 exact h2
theorem set_split {Z:List (Scs sh)} {k:Nat} {c:Scs sh} (h:k<Z.length):(Z.set k c).flatMap (Scs.vals sh)=(Z.take k).flatMap (Scs.vals sh)++(Scs.vals sh c++(Z.drop (k+1)).flatMap (Scs.vals sh)):=by
 have hk:(Z.set k c)[k]?=some c:=by rw [List.getElem?_set_self h]
 rw [flat_split hk,List.take_set_of_le (Nat.le_refl k),List.drop_set_of_lt (Nat.lt_succ_self k)]
theorem AtR.st {U:Know} {b:Nat} {t:TypeId} {post:List Value} {Z:List (Scs sh)} {V:Know} (h:AtR U b t post Z V) {k:Nat} (hk:k<Z.length) (c:Scs sh) :
  ∃ cs u,V b=some (cs,(u,(0,0)))∧0+k*sh.length+(Scs.vals sh c).length≤cs.length∧AtR U b t post (Z.set k c) (kset V b (setl cs (0+k*sh.length) (Scs.vals sh c),(u,(0,0)))):=by
 have ht:((Z.take k).flatMap (Scs.vals sh)).length=k*sh.length:=by rw [flat_len,List.length_take]; congr 1; omega
 refine⟨_,t,h.2.2,?_,h.1,fun q x hq=>?_,?_⟩
 ·rw [vals_len,List.length_append,flat_len,Nat.zero_add]
  have:(k+1)*sh.length≤Z.length*sh.length:=Nat.mul_le_mul_right _ hk
  rw [Nat.add_mul,Nat.one_mul] at this
  omega
 ·rw [kset_other (fun e=>by rw [e,h.1] at hq; cases hq)]
  exact h.2.1 _ _ hq
 ·rw [kset_same,Nat.zero_add,set_split hk,flat_split (List.getElem?_eq_getElem hk),List.append_assoc,List.append_assoc]
  congr 2
  rw [setl_mid ht.symm (by rw [vals_len,List.length_append,vals_len]; omega),vals_len]
  rw [List.append_assoc,List.append_assoc,← vals_len sh Z[k],List.drop_left]
theorem AtR.ldA {U:Know} {b:Nat} {t:TypeId} {post:List Value} {Z:List (Scs sh)} {V:Know} (h:AtR U b t post Z V) {k:Nat} {c:Scs sh} (hk:Z[k]?=some c):loadV V ((⟨b,0,none⟩:Addr).add (k*sh.length)) sh.length=some (Scs.vals sh c):=by
 rw [addr_add_eq]; exact h.ld hk
theorem AtR.stA {U:Know} {b:Nat} {t:TypeId} {post:List Value} {Z:List (Scs sh)} {V:Know} (h:AtR U b t post Z V) {k:Nat} (hk:k<Z.length) (c:Scs sh) :
  ∃ cs u,((⟨b,0,none⟩:Addr).add (k*sh.length)).spot=none∧V ((⟨b,0,none⟩:Addr).add (k*sh.length)).block=some (cs,(u,(0,0)))∧((⟨b,0,none⟩:Addr).add (k*sh.length)).off+(Scs.vals sh c).length≤cs.length ∧
   AtR U b t post (Z.set k c) (kset V ((⟨b,0,none⟩:Addr).add (k*sh.length)).block (setl cs ((⟨b,0,none⟩:Addr).add (k*sh.length)).off (Scs.vals sh c),(u,(0,0)))):=by
 rw [addr_add_eq]
 obtain⟨cs,u,h1,h2,h3⟩:=h.st hk c
 exact⟨cs,u,rfl,h1,h2,h3⟩
theorem AtR.swp {U:Know} {b:Nat} {t:TypeId} {post:List Value} {Z:List (Scs sh)} {V:Know} (h:AtR U b t post Z V) {i j:Nat} (hi:i<Z.length) (hj:j<Z.length) :
  ∃ ci cj cs u cs' u',Z[i]?=some ci∧Z[j]?=some cj∧loadV V ((⟨b,0,none⟩:Addr).add (i*sh.length)) sh.length=some (Scs.vals sh ci)∧loadV V ((⟨b,0,none⟩:Addr).add (j*sh.length)) sh.length=some (Scs.vals sh cj) ∧
   V ((⟨b,0,none⟩:Addr).add (i*sh.length)).block=some (cs,(u,(0,0)))∧((⟨b,0,none⟩:Addr).add (i*sh.length)).off+sh.length≤cs.length∧((⟨b,0,none⟩:Addr).add (i*sh.length)).spot=none∧((⟨b,0,none⟩:Addr).add (j*sh.length)).spot=none ∧
   (kset V ((⟨b,0,none⟩:Addr).add (i*sh.length)).block (setl cs ((⟨b,0,none⟩:Addr).add (i*sh.length)).off (Scs.vals sh cj),(u,(0,0)))) ((⟨b,0,none⟩:Addr).add (j*sh.length)).block=some (cs',(u',(0,0)))∧((⟨b,0,none⟩:Addr).add (j*sh.length)).off+sh.length≤cs'.length ∧
   AtR U b t post (Srt.swp i j Z) (kset (kset V ((⟨b,0,none⟩:Addr).add (i*sh.length)).block (setl cs ((⟨b,0,none⟩:Addr).add (i*sh.length)).off (Scs.vals sh cj),(u,(0,0)))) ((⟨b,0,none⟩:Addr).add (j*sh.length)).block (setl cs' ((⟨b,0,none⟩:Addr).add (j*sh.length)).off (Scs.vals sh ci),(u',(0,0)))):=by
 have ei:=List.getElem?_eq_getElem hi
 have ej:=List.getElem?_eq_getElem hj
 obtain⟨cs,u,s1,h1,h2,h3⟩:=h.stA hi Z[j]
 obtain⟨cs',u',s1',h1',h2',h3'⟩:=h3.stA (k:=j) (by rw [List.length_set]; exact hj) Z[i]
 rw [vals_len] at h2 h2'
 refine⟨Z[i],Z[j],cs,u,cs',u',ei,ej,h.ldA ei,h.ldA ej,h1,h2,s1,s1',h1',h2',?_⟩
 rw [Srt.swp_eq hi hj]
 exact h3'
end
end Go.Proofs.YtfiakghfncempaaGreatDoor
