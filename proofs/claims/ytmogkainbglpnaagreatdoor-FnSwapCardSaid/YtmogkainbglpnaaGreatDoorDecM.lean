/-
  Mathematics of decimals: another scale, the least scale, texts that tell the scale. No program in sight.
-/
import Derived.Test.YtmogkainbglpnaaGreatDoorTotA
import Derived.Test.YtmogkainbglpnaaGreatDoorMath
import Derived.Lib.ItoaNum
import Derived.Lib.ItoaLen
import Derived.Lib.Repeat
import Derived.Test.YtmogkainbglpnaaGreatDoorWr
namespace Go.Proofs.YtmogkainbglpnaaGreatDoor
open Sx
set_option maxRecDepth 100000
end Go.Proofs.YtmogkainbglpnaaGreatDoor
namespace Go.Proofs.YtmogkainbglpnaaGreatDoor
open Sx
set_option maxRecDepth 100000
end Go.Proofs.YtmogkainbglpnaaGreatDoor
namespace Go.Proofs.YtmogkainbglpnaaGreatDoor
open Sx
set_option maxRecDepth 100000
def zeros (k:Nat):ByteArray:=⟨(List.replicate k 48).toArray⟩
end Go.Proofs.YtmogkainbglpnaaGreatDoor
namespace Go.Proofs.YtmogkainbglpnaaGreatDoor
open Sx
set_option maxRecDepth 100000
def ten (k:Nat):Int:=10 ^ k
theorem ten_succ (k:Nat):ten (k+1)=ten k*10:=Int.pow_succ ..
theorem ten_add (i j:Nat):ten (i+j)=ten i*ten j:=by
 induction j with
 | zero=>simp [ten]
 | succ j ih=>rw [← Nat.add_assoc,ten_succ,ih,ten_succ,Int.mul_assoc]
theorem ten_pos:∀ k:Nat,0<ten k
 | 0=>by decide
 | k+1=>by
  have:=ten_pos k
  rw [ten_succ]; omega
theorem ten_nine:∀ q:Nat,ten (9*q)=1000000000 ^ q
 | 0=>rfl
 | q+1=>by
  rw [show 9*(q+1)=9*q+9 by omega,ten_add,ten_nine q,Int.pow_succ]
  rfl
theorem ten_mono {i j:Nat} (h:i≤j):ten i≤ten j:=by
 obtain⟨d,rfl⟩:=Nat.le.dest h
 rw [ten_add]
 have h1:=ten_pos i
 have h2:=ten_pos d
 have:ten i*1≤ten i*ten d:=Int.mul_le_mul_of_nonneg_left (by omega) (by omega)
 omega
theorem ten_lt9 {k:Nat} (h:k<9):1≤ten k∧ten k≤100000000:=by
 have h1:=ten_mono (show k≤8 by omega)
 have h2:=ten_pos k
 have:ten 8=100000000:=rfl
 omega
def tenL (k:Nat):List Lim:=zer (k / 9)++[(ten (k % 9),())]
theorem tenL_len (k:Nat):(tenL k).length=k / 9+1:=by simp [tenL,len_zer]
theorem tenL_val (k:Nat):valN (tenL k)=ten k:=by
 unfold tenL
 rw [valN_app,valN_zer,valN_one,len_zer,← ten_nine,Int.mul_comm,← ten_add,Int.zero_add]
 congr 1
 omega
theorem tenL_can (k:Nat):Can (tenL k):=by
 have h:=ten_lt9 (show k % 9<9 by omega)
 refine⟨lims_app (lims_zer _) (lims_one (by omega)),.inr ?_⟩
 rw [tenL_len]
 show limb (zer (k / 9)++[(ten (k % 9),())]) (k / 9+1-1)≠0
 rw [limb_app_ge (by rw [len_zer]; omega),len_zer,show k / 9+1-1-k / 9=0 by omega]
 show(ten (k % 9))≠0
 omega
abbrev DecD:Type:=Bool × List Lim × Int × Unit
structure Same10 (m:List Lim) (s:Int) (m':List Lim) (s':Int):Prop where
 eq:valN m'*ten s.toNat=valN m*ten s'.toNat
end Go.Proofs.YtmogkainbglpnaaGreatDoor
