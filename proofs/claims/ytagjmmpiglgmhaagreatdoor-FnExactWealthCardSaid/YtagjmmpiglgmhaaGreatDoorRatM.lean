/-
  Mathematics of fractions: lowest terms, as lists of limbs.
-/
import Derived.Test.YtagjmmpiglgmhaaGreatDoorDivG
namespace Go.Proofs.YtagjmmpiglgmhaaGreatDoor
open Sx
def Red (N D:Int) (p q:List Lim):Prop:=Can p∧Can q∧valN p*(Int.gcd N D:Int)=N∧valN q*(Int.gcd N D:Int)=D
theorem gcd_pos {N D:Int} (hD:0<D):0<(Int.gcd N D:Int):=by
 have:Int.gcd N D≠0:=fun e=>by
  have:=(Int.gcd_eq_zero_iff.1 e).2
  omega
 omega
theorem red_inj {N D:Int} (hD:0<D) {p q p' q':List Lim} (h:Red N D p q) (h':Red N D p' q'):p=p'∧q=q':=by
 have hg:=gcd_pos (N:=N) hD
 refine⟨can_inj h.1 h'.1 ?_,can_inj h.2.1 h'.2.1 ?_⟩
 ·exact Int.eq_of_mul_eq_mul_right (by omega) (h.2.2.1.trans h'.2.2.1.symm)
 ·exact Int.eq_of_mul_eq_mul_right (by omega) (h.2.2.2.trans h'.2.2.2.symm)
theorem red_pos {N D:Int} (hD:0<D) {p q:List Lim} (h:Red N D p q):0<valN q:=by
 have hg:=gcd_pos (N:=N) hD
 have h0:=valN_nonneg h.2.1.1
 rcases(show valN q=0∨0<valN q by omega) with e | e
 ·have:=h.2.2.2
  rw [e,Int.zero_mul] at this
  omega
 ·exact e
theorem red_num {N D:Int} (hD:0<D) {p q:List Lim} (h:Red N D p q):0<valN p↔0<N:=by
 have hg:=gcd_pos (N:=N) hD
 have h0:=valN_nonneg h.1.1
 rw [← h.2.2.1]
 constructor
 ·intro k; exact Int.mul_pos k hg
 ·intro k
  rcases(show valN p=0∨0<valN p by omega) with e | e
  ·rw [e,Int.zero_mul] at k; omega
  ·exact e
theorem red_gcd {N D:Int} (hD:0<D) {p q:List Lim} (h:Red N D p q):Int.gcd (valN p) (valN q)=1:=by
 have hg:=gcd_pos (N:=N) hD
 have e:Int.gcd (valN p*(Int.gcd N D:Int)) (valN q*(Int.gcd N D:Int))=Int.gcd (valN p) (valN q)*Int.natAbs (Int.gcd N D:Int):=Int.gcd_mul_right _ _ _
 rw [h.2.2.1,h.2.2.2] at e
 have e2:Int.natAbs (Int.gcd N D:Int)=Int.gcd N D:=Int.natAbs_natCast _
 rw [e2] at e
 have hg':0<Int.gcd N D:=by omega
 have:1*Int.gcd N D=Int.gcd (valN p) (valN q)*Int.gcd N D:=by omega
 exact(Nat.eq_of_mul_eq_mul_right hg' this).symm
theorem exact_quot {n g q r:Int} (hg:0<g) (h:n=q*g+r) (hr:0≤r∧r<g) (hd:g ∣ n):q*g=n:=by
 obtain⟨c,hc⟩:=hd
 have h2:n=c*g+0:=by rw [hc,Int.mul_comm]; omega
 obtain⟨e1,e2⟩:=quot_unique h h2 hr ⟨Int.le_refl _,hg⟩
 omega
theorem gcd_dvd_l (N D:Int):(Int.gcd N D:Int) ∣ N:=Int.gcd_dvd_left ..
theorem gcd_dvd_r (N D:Int):(Int.gcd N D:Int) ∣ D:=Int.gcd_dvd_right ..
end Go.Proofs.YtagjmmpiglgmhaaGreatDoor
