/-
  Small facts that the contracts use: lists cut into rows, counters that do not leave their range, loops that end at once.
-/
import Derived.Test.YtccnjccabllcaaaGreatDoorEngD
namespace Go.Proofs.YtccnjccabllcaaaGreatDoor
open Sx
theorem wrap_i64 {n:Int} (h:-9223372036854775808≤n∧n≤9223372036854775807):IntKind.i64.wrap n=n:=by
 simp only [IntKind.wrap]
 have h2:IntKind.i64.bits=64:=rfl
 have h4:IntKind.i64.signed=true:=rfl
 simp only [h2,h4,Bool.true_and]
 by_cases hn:0≤n
 ·have h3:n % 2 ^ 64=n:=Int.emod_eq_of_lt hn (by omega)
  rw [h3,if_neg (by simp; omega)]
 ·have h3:n % 2 ^ 64=n+2 ^ 64:=by
   rw [← Int.add_emod_right]
   exact Int.emod_eq_of_lt (by omega) (by omega)
  rw [h3,if_pos (by simp; omega)]
  omega
theorem kset_le {V:Know} {b:Nat} {x} (h:V b=none):V.le (kset V b x):=by
 intro k y hk
 simp only [kset]
 by_cases e:k=b
 ·subst e; rw [h] at hk; cases hk
 ·rw [if_neg e]; exact hk
theorem kset_same {V:Know} {b:Nat} {x}:kset V b x b=some x:=by simp [kset]
theorem kset_other {V:Know} {b k:Nat} {x} (h:k≠b):kset V b x k=V k:=by simp [kset,h]
theorem cutv_skip {β:Type} {x y:List β} {o n:Nat}:cutv (x++y) (x.length+o) n=cutv y o n:=by
 simp only [cutv,List.length_append]
 have hd:List.drop (x.length+o) (x++y)=List.drop o y:=by
  rw [← List.drop_drop,List.drop_left]
 by_cases h:o+n≤y.length
 ·rw [if_pos h,if_pos (by omega),hd]
 ·rw [if_neg h,if_neg (by omega)]
theorem cutv_head {β:Type} {x y:List β}:cutv (x++y) 0 x.length=some x:=by
 simp [cutv]
theorem cutv_flat {α β:Type} {f:α→List β} {m:Nat} (hf:∀ a,(f a).length=m):∀ {l:List α} {n:Nat} (h:n<l.length) (r:List β),cutv (l.flatMap f++r) (n*m) m=some (f l[n])
 | a :: l,0,_,r=>by
  have:=cutv_head (x:=f a) (y:=l.flatMap f++r)
  rw [hf] at this
  rw [List.flatMap_cons,List.append_assoc,Nat.zero_mul]
  exact this
 | a :: l,n+1,h,r=>by
  have ih:=cutv_flat hf (l:=l) (n:=n) (by simpa using h) r
  have e:(n+1)*m=(f a).length+n*m:=by rw [hf,Nat.add_mul,Nat.one_mul,Nat.add_comm]
  rw [List.flatMap_cons,List.append_assoc,e,cutv_skip,ih]
  rfl
theorem lp_once {P:Program} {K:Know→List Value→Prop} {V V0:Know} {Ns:List (List LV→Know→Prop)} {sh:List LSh} {init:List LV} {body:LShs sh→T} (y:LShs sh) (hy:init=LShs.lvs sh y)
  (h:∀ N,(body y).wp P K V V (Ns++[N])):(T.lp sh init body).wp P K V V0 Ns:=by
 refine⟨fun y' V'=>y'=y∧V'=V,fun _=>0,⟨y,hy,rfl,rfl⟩,?_⟩
 rintro y' V' ⟨rfl,rfl⟩
 exact h _
end Go.Proofs.YtccnjccabllcaaaGreatDoor
