/-
  Texts of numbers: digits, noughts ahead, the point; how long they are. No program in sight.
-/
import Derived.Test.YtpnjdpomoijaaaaGreatDoorMath
import Derived.Lib.ItoaNum
import Derived.Lib.ItoaLen
import Derived.Lib.Repeat
namespace Go.Proofs.YtpnjdpomoijaaaaGreatDoor
open Sx
set_option maxRecDepth 100000

/-! numbers -/
def numT (k : Int) : ByteArray := ⟨(Go.Lib.itoa k).toArray⟩
def dig (k : Nat) : ByteArray := ⟨#[UInt8.ofNat (48 + k)]⟩
theorem dig_size (k : Nat) : (dig k).size = 1 := rfl
theorem ba_append (l m : List UInt8) : (⟨l.toArray⟩ : ByteArray) ++ ⟨m.toArray⟩ = ⟨(l ++ m).toArray⟩ := by
  apply ByteArray.ext
  rw [ByteArray.data_append]
  simp
theorem numT_small {k : Int} (h0 : 0 ≤ k) (h : k < 10) : numT k = dig k.toNat := by
  unfold numT Go.Lib.itoa
  rw [if_neg (by omega), Go.Lib.decDigits, dif_pos (by omega)]
  rfl
theorem numT_big {k : Int} (h : 9 < k) : numT k = numT (k / 10) ++ dig (k % 10).toNat := by
  unfold numT Go.Lib.itoa
  rw [if_neg (by omega), if_neg (by omega), Go.Lib.decDigits, dif_neg (by omega)]
  have e1 : k.toNat / 10 = (k / 10).toNat := by omega
  have e2 : k.toNat % 10 = (k % 10).toNat := by omega
  rw [e1, e2, ← ba_append]
  rfl
theorem numT_len (k : Int) (h0 : -9223372036854775808 ≤ k) (h1 : k ≤ 9223372036854775807) : (numT k).size ≤ 21 := by
  have := Go.Lib.itoa_length_le k h0 h1
  show (Go.Lib.itoa k).toArray.size ≤ 21
  simpa using this

/-! noughts ahead -/
def zeros (k : Nat) : ByteArray := ⟨(List.replicate k 48).toArray⟩
theorem zeros_size (k : Nat) : (zeros k).size = k := by
  show (List.replicate k (48 : UInt8)).toArray.size = k
  simp
theorem zeros_succ (k : Nat) : zeros (k + 1) = zeros k ++ ⟨#[48]⟩ := by
  unfold zeros
  rw [List.replicate_succ', ← ba_append]
theorem repeat_zeros : ∀ k : Nat, Go.Lib.repeatL [48] k = List.replicate k 48
  | 0 => rfl
  | k + 1 => by rw [Go.Lib.repeatL, repeat_zeros k, List.replicate_succ]; rfl
def padB (s : ByteArray) (n : Int) : ByteArray := if n > 2000 then s else zeros (n - (s.size : Int)).toNat ++ s
theorem ba_empty_append (s : ByteArray) : (⟨#[]⟩ : ByteArray) ++ s = s := by
  apply ByteArray.ext
  rw [ByteArray.data_append]
  simp
theorem padB_long {s : ByteArray} {n : Int} (h : n ≤ s.size) : padB s n = s := by
  unfold padB
  by_cases hn : n > 2000
  · rw [if_pos hn]
  · rw [if_neg hn]
    have e : (n - (s.size : Int)).toNat = 0 := by omega
    rw [e]
    exact ba_empty_append s
theorem padB_step {s : ByteArray} {n : Int} (hn : ¬ n > 2000) (h : (s.size : Int) < n) : padB s n = padB ((⟨#[48]⟩ : ByteArray) ++ s) n := by
  unfold padB
  rw [if_neg hn, if_neg hn, ByteArray.size_append]
  have e : (n - (s.size : Int)).toNat = (n - ((1 + s.size : Nat) : Int)).toNat + 1 := by omega
  rw [e, zeros_succ, ByteArray.append_assoc]
  rfl
theorem padB_size (s : ByteArray) (n : Int) : (padB s n).size ≤ s.size + 2000 ∧ (¬ n > 2000 → n ≤ (padB s n).size) ∧ ((padB s n).size : Int) ≤ max (s.size : Int) n ∧ s.size ≤ (padB s n).size := by
  unfold padB
  by_cases hn : n > 2000
  · rw [if_pos hn]
    exact ⟨by omega, fun h => absurd hn h, by omega, by omega⟩
  · rw [if_neg hn, ByteArray.size_append, zeros_size]
    exact ⟨by omega, fun _ => by omega, by omega, by omega⟩

/-! naturals -/
def natGo (l : List Lim) : Nat → ByteArray → ByteArray
  | 0, s => s
  | i + 1, s => natGo l i (s ++ padB (numT (limb l i)) 9)
def natT (l : List Lim) : ByteArray := if l.length = 0 then ⟨#[48]⟩ else natGo l (l.length - 1) (numT (limb l (l.length - 1)))
theorem limb_num {l : List Lim} (hl : Lims l) (i : Nat) : (numT (limb l i)).size ≤ 21 := by
  have := hl i
  exact numT_len _ (by omega) (by omega)
theorem part_size {l : List Lim} (hl : Lims l) (i : Nat) : (padB (numT (limb l i)) 9).size ≤ 21 := by
  have h1 := limb_num hl i
  have h2 := (padB_size (numT (limb l i)) 9).2.2.1
  omega
theorem natGo_size {l : List Lim} (hl : Lims l) : ∀ (i : Nat) (s : ByteArray), (natGo l i s).size ≤ s.size + 21 * i
  | 0, s => by simp [natGo]
  | i + 1, s => by
    have ih := natGo_size hl i (s ++ padB (numT (limb l i)) 9)
    have hp := part_size hl i
    rw [natGo]
    rw [ByteArray.size_append] at ih
    omega
theorem natT_size {l : List Lim} (hl : Lims l) : (natT l).size ≤ 21 * l.length + 1 := by
  unfold natT
  by_cases h : l.length = 0
  · rw [if_pos h]
    show 1 ≤ _
    omega
  · rw [if_neg h]
    have h1 := natGo_size hl (l.length - 1) (numT (limb l (l.length - 1)))
    have h2 := limb_num hl (l.length - 1)
    omega

/-! integers, fractions, decimals -/
def intT (neg : Bool) (l : List Lim) : ByteArray := if neg = true then (⟨#[45]⟩ : ByteArray) ++ natT l else natT l
theorem intT_size {neg : Bool} {l : List Lim} (hl : Lims l) : (intT neg l).size ≤ 21 * l.length + 2 := by
  have := natT_size hl
  unfold intT
  split
  · rw [ByteArray.size_append]
    show 1 + _ ≤ _
    omega
  · omega
def pointT (s : ByteArray) (sc : Int) : ByteArray := if sc > 0 then (s.extract 0 (s.size - sc.toNat) ++ (⟨#[46]⟩ : ByteArray)) ++ s.extract (s.size - sc.toNat) s.size else s
def decT (neg : Bool) (l : List Lim) (sc : Int) : ByteArray := if neg = true then (⟨#[45]⟩ : ByteArray) ++ pointT (padB (natT l) (sc + 1)) sc else pointT (padB (natT l) (sc + 1)) sc
theorem pointT_size (s : ByteArray) (sc : Int) : (pointT s sc).size ≤ s.size + 1 := by
  unfold pointT
  split
  · rw [ByteArray.size_append, ByteArray.size_append, ByteArray.size_extract, ByteArray.size_extract]
    show _ + 1 + _ ≤ _
    omega
  · omega
theorem decT_size {neg : Bool} {l : List Lim} {sc : Int} (hl : Lims l) : (decT neg l sc).size ≤ 21 * l.length + 2003 := by
  have h1 := natT_size hl
  have h2 := (padB_size (natT l) (sc + 1)).1
  have h3 := pointT_size (padB (natT l) (sc + 1)) sc
  unfold decT
  split
  · rw [ByteArray.size_append]
    show 1 + _ ≤ _
    omega
  · omega
end Go.Proofs.YtpnjdpomoijaaaaGreatDoor
