/-
  Texts joined with another one between them. No program in sight.
-/
import Derived.Test.YtpnjdpomoijaaaaGreatDoorTxt
import Derived.Test.YtpnjdpomoijaaaaGreatDoorLoopT
import Derived.Lib.Join
namespace Go.Proofs.YtpnjdpomoijaaaaGreatDoor
open Sx
set_option maxRecDepth 100000

abbrev Tx : Type := ByteArray × Unit
def bytesL (l : List Tx) : List (List UInt8) := l.map fun x => x.1.data.toList
def joinT (l : List Tx) (by' : ByteArray) : ByteArray := ⟨(Go.Lib.join (bytesL l) by'.data.toList).toArray⟩
def sumT (l : List Tx) : Nat := Go.Lib.lens (bytesL l)
theorem ba_mk (x : ByteArray) : (⟨x.data.toList.toArray⟩ : ByteArray) = x := by simp
theorem joinT_nil (b : ByteArray) : joinT [] b = ⟨#[]⟩ := rfl
theorem joinT_one (x : Tx) (b : ByteArray) : joinT [x] b = x.1 := by
  unfold joinT bytesL
  rw [List.map_cons, List.map_nil, Go.Lib.join_one]
theorem joinT_snoc {l : List Tx} (h : l ≠ []) (x : Tx) (b : ByteArray) : joinT (l ++ [x]) b = joinT l b ++ b ++ x.1 := by
  cases l with
  | nil => exact absurd rfl h
  | cons a r =>
    have e : Go.Lib.join (bytesL (a :: r ++ [x])) b.data.toList = Go.Lib.join (bytesL (a :: r)) b.data.toList ++ b.data.toList ++ x.1.data.toList := by
      unfold bytesL
      rw [List.cons_append, List.map_cons, List.map_cons, Go.Lib.join_cons, Go.Lib.join_cons, List.map_append]
      simp [Go.Lib.joinTail]
    unfold joinT
    rw [e, ← ba_append, ← ba_append, ba_mk, ba_mk]
theorem sumT_nil : sumT [] = 0 := rfl
theorem sumT_snoc (l : List Tx) (x : Tx) : sumT (l ++ [x]) = sumT l + x.1.size := by
  unfold sumT bytesL Go.Lib.lens
  rw [List.map_append, List.map_append, List.sum_append]
  simp
theorem sumT_cons (l : List Tx) (x : Tx) : sumT (x :: l) = x.1.size + sumT l := by
  unfold sumT bytesL Go.Lib.lens
  simp
theorem sumT_take (l : List Tx) (k : Nat) : sumT (l.take k) ≤ sumT l := by
  unfold sumT bytesL
  rw [List.map_take]
  exact Go.Lib.lens_take_le _ _
theorem sumT_le {B : Nat} : ∀ (l : List Tx), (∀ x ∈ l, x.1.size ≤ B) → sumT l ≤ B * l.length
  | [], _ => Nat.le_refl _
  | x :: l, h => by
    have h1 := sumT_le l fun y hy => h y (by simp [hy])
    have h2 := h x (by simp)
    rw [sumT_cons, List.length_cons, Nat.mul_add]
    omega
theorem joinT_size (l : List Tx) (b : ByteArray) : (joinT l b).size ≤ sumT l + l.length * b.size := by
  cases l with
  | nil => exact Nat.zero_le _
  | cons a r =>
    have e : (joinT (a :: r) b).size = (Go.Lib.join (bytesL (a :: r)) b.data.toList).length := by
      show (Go.Lib.join (bytesL (a :: r)) b.data.toList).toArray.size = _
      simp
    rw [e]
    unfold bytesL
    rw [List.map_cons, Go.Lib.join_length, List.length_map, List.length_cons]
    have h1 : b.data.toList.length = b.size := by
      show b.data.toList.length = b.data.size
      simp
    have h2 : sumT (a :: r) = Go.Lib.lens (a.1.data.toList :: List.map (fun x => x.1.data.toList) r) := rfl
    rw [h1, h2, Nat.add_mul, Nat.mul_comm r.length]
    omega
end Go.Proofs.YtpnjdpomoijaaaaGreatDoor
