/-
  Mathematics of decimals: another scale, the least scale, texts that tell the scale. No program in sight.
-/
import Derived.Test.YtpnjdpomoijaaaaGreatDoorDivM
import Derived.Test.YtpnjdpomoijaaaaGreatDoorTxt
namespace Go.Proofs.YtpnjdpomoijaaaaGreatDoor
open Sx
set_option maxRecDepth 100000

/-! powers of ten -/
def ten (k : Nat) : Int := 10 ^ k
theorem ten_zero : ten 0 = 1 := rfl
theorem ten_succ (k : Nat) : ten (k + 1) = ten k * 10 := Int.pow_succ ..
theorem ten_add (i j : Nat) : ten (i + j) = ten i * ten j := by
  induction j with
  | zero => simp [ten]
  | succ j ih => rw [← Nat.add_assoc, ten_succ, ih, ten_succ, Int.mul_assoc]
theorem ten_pos : ∀ k : Nat, 0 < ten k
  | 0 => by decide
  | k + 1 => by
    have := ten_pos k
    rw [ten_succ]; omega
theorem ten_nine : ∀ q : Nat, ten (9 * q) = 1000000000 ^ q
  | 0 => rfl
  | q + 1 => by
    rw [show 9 * (q + 1) = 9 * q + 9 by omega, ten_add, ten_nine q, Int.pow_succ]
    rfl
theorem ten_mono {i j : Nat} (h : i ≤ j) : ten i ≤ ten j := by
  obtain ⟨d, rfl⟩ := Nat.le.dest h
  rw [ten_add]
  have h1 := ten_pos i
  have h2 := ten_pos d
  have : ten i * 1 ≤ ten i * ten d := Int.mul_le_mul_of_nonneg_left (by omega) (by omega)
  omega
theorem ten_lt9 {k : Nat} (h : k < 9) : 1 ≤ ten k ∧ ten k ≤ 100000000 := by
  have h1 := ten_mono (show k ≤ 8 by omega)
  have h2 := ten_pos k
  have : ten 8 = 100000000 := rfl
  omega
/-- the limbs of a power of ten -/
def tenL (k : Nat) : List Lim := zer (k / 9) ++ [(ten (k % 9), ())]
theorem tenL_len (k : Nat) : (tenL k).length = k / 9 + 1 := by simp [tenL, len_zer]
theorem tenL_val (k : Nat) : valN (tenL k) = ten k := by
  unfold tenL
  rw [valN_app, valN_zer, valN_one, len_zer, ← ten_nine, Int.mul_comm, ← ten_add, Int.zero_add]
  congr 1
  omega
theorem tenL_can (k : Nat) : Can (tenL k) := by
  have h := ten_lt9 (show k % 9 < 9 by omega)
  refine ⟨lims_app (lims_zer _) (lims_one (by omega)), .inr ?_⟩
  rw [tenL_len]
  show limb (zer (k / 9) ++ [(ten (k % 9), ())]) (k / 9 + 1 - 1) ≠ 0
  rw [limb_app_ge (by rw [len_zer]; omega), len_zer, show k / 9 + 1 - 1 - k / 9 = 0 by omega]
  show (ten (k % 9)) ≠ 0
  omega

/-! decimals -/
abbrev DecD : Type := Bool × List Lim × Int × Unit
/-- the same number with another number of places -/
structure Same10 (m : List Lim) (s : Int) (m' : List Lim) (s' : Int) : Prop where
  eq : valN m' * ten s.toNat = valN m * ten s'.toNat
theorem same10_inj {m m' m'' : List Lim} {s s' : Int} (h : Same10 m s m' s') (k : Same10 m s m'' s') (c : Can m') (c' : Can m'') : m' = m'' := by
  refine can_inj c c' ?_
  have e := h.1.trans k.1.symm
  exact Int.eq_of_mul_eq_mul_right (by have := ten_pos s.toNat; omega) e

/-! texts tell the scale -/
def bl (s : ByteArray) : List UInt8 := s.data.toList
theorem bl_app (a b : ByteArray) : bl (a ++ b) = bl a ++ bl b := by
  unfold bl
  rw [ByteArray.data_append]
  simp
theorem bl_extract (a : ByteArray) (i j : Nat) : bl (a.extract i j) = ((bl a).take j).drop i := by
  unfold bl
  rw [ByteArray.data_extract]
  simp [List.extract_eq_take_drop, List.drop_take]
theorem bl_len (a : ByteArray) : (bl a).length = a.size := by
  show a.data.toList.length = a.data.size
  simp
def Digs (l : List UInt8) : Prop := ∀ x ∈ l, x ≠ 46
theorem digs_app {l m : List UInt8} (h : Digs l) (k : Digs m) : Digs (l ++ m) := by
  intro x hx
  rcases List.mem_append.1 hx with h1 | h1
  · exact h x h1
  · exact k x h1
theorem dig_ne (k : Nat) (h : k < 10) : UInt8.ofNat (48 + k) ≠ 46 := by
  revert k
  decide
theorem decDigits_digs (n : Nat) : Digs (Go.Lib.decDigits n) := by
  induction n using Nat.strongRecOn with
  | _ n ih =>
    rw [Go.Lib.decDigits]
    split
    · rename_i h
      intro x hx
      rw [List.mem_singleton] at hx
      subst hx
      exact dig_ne n h
    · rename_i h
      refine digs_app (ih _ (by omega)) ?_
      intro x hx
      rw [List.mem_singleton] at hx
      subst hx
      exact dig_ne _ (by omega)
theorem numT_digs {k : Int} (h : 0 ≤ k) : Digs (bl (numT k)) := by
  unfold numT Go.Lib.itoa bl
  rw [if_neg (by omega)]
  exact decDigits_digs _
theorem padB_digs {s : ByteArray} (h : Digs (bl s)) (n : Int) : Digs (bl (padB s n)) := by
  unfold padB
  split
  · exact h
  · rw [bl_app]
    refine digs_app ?_ h
    intro x hx
    have : x = 48 := by
      unfold zeros bl at hx
      simp at hx
      exact hx.2
    subst this
    decide
theorem natGo_digs {l : List Lim} (hl : Lims l) : ∀ (i : Nat) (s : ByteArray), Digs (bl s) → Digs (bl (natGo l i s))
  | 0, _, h => h
  | i + 1, s, h => by
    rw [natGo]
    refine natGo_digs hl i _ ?_
    rw [bl_app]
    exact digs_app h (padB_digs (numT_digs (hl i).1) 9)
theorem natT_digs {l : List Lim} (hl : Lims l) : Digs (bl (natT l)) := by
  unfold natT
  split
  · intro x hx
    have h : x = 48 := by simpa [bl] using hx
    subst h
    decide
  · exact natGo_digs hl _ _ (numT_digs (hl _).1)

theorem tw_mid {A B : List UInt8} (h : Digs A) : (A ++ 46 :: B).takeWhile (· != 46) = A := by
  induction A with
  | nil => simp
  | cons a A ih =>
    have ha : a ≠ 46 := h a (by simp)
    rw [List.cons_append, List.takeWhile_cons, if_pos (by simpa using ha), ih fun x hx => h x (by simp [hx])]
theorem decT_bl {neg : Bool} {l : List Lim} {sc : Int} (hl : Lims l) (h0 : 0 ≤ sc) (h1 : sc ≤ 30) :
    (sc = 0 → Digs (bl (decT neg l sc))) ∧ (0 < sc → (46 : UInt8) ∈ bl (decT neg l sc) ∧ ((bl (decT neg l sc)).reverse.takeWhile (· != 46)).length = sc.toNat) := by
  have hd : Digs (bl (padB (natT l) (sc + 1))) := padB_digs (natT_digs hl) _
  have hs := (padB_size (natT l) (sc + 1)).2.1 (by omega)
  have h45 : Digs (bl (⟨#[45]⟩ : ByteArray)) := by
    intro x hx
    have h : x = 45 := by simpa [bl] using hx
    subst h
    decide
  refine ⟨fun h => ?_, fun h => ?_⟩
  · have : pointT (padB (natT l) (sc + 1)) sc = padB (natT l) (sc + 1) := by
      unfold pointT
      rw [if_neg (by omega)]
    unfold decT
    rw [this]
    split
    · rw [bl_app]
      exact digs_app h45 hd
    · exact hd
  · generalize hp : padB (natT l) (sc + 1) = p at hd hs
    have key : ∃ A B, bl (decT neg l sc) = A ++ 46 :: B ∧ Digs B ∧ B.length = sc.toNat := by
      have hb : bl (pointT p sc) = (bl p).take (p.size - sc.toNat) ++ 46 :: (bl p).drop (p.size - sc.toNat) := by
        unfold pointT
        rw [if_pos (by omega), bl_app, bl_app, bl_extract, bl_extract, List.drop_zero, ← bl_len p, List.take_length]
        show (_ ++ [46]) ++ _ = _
        rw [List.append_assoc]
        rfl
      have hB : Digs ((bl p).drop (p.size - sc.toNat)) := fun x hx => hd x (List.mem_of_mem_drop hx)
      have hn : ((bl p).drop (p.size - sc.toNat)).length = sc.toNat := by
        rw [List.length_drop, bl_len]
        omega
      unfold decT
      rw [hp]
      split
      · rw [bl_app, hb]
        exact ⟨bl (⟨#[45]⟩ : ByteArray) ++ (bl p).take (p.size - sc.toNat), _, (by rw [List.append_assoc]), hB, hn⟩
      · rw [hb]
        exact ⟨_, _, rfl, hB, hn⟩
    obtain ⟨A, B, e, hB, hn⟩ := key
    rw [e]
    refine ⟨by simp, ?_⟩
    rw [List.reverse_append, List.reverse_cons, List.append_assoc]
    show ((B.reverse ++ 46 :: A.reverse).takeWhile (· != 46)).length = _
    rw [tw_mid fun x hx => hB x (List.mem_reverse.1 hx), List.length_reverse, hn]
theorem decT_scale {n n' : Bool} {l l' : List Lim} {s s' : Int} (hl : Lims l) (hl' : Lims l') (h0 : 0 ≤ s) (h1 : s ≤ 30) (h0' : 0 ≤ s') (h1' : s' ≤ 30) (h : decT n l s = decT n' l' s') : s = s' := by
  obtain ⟨a, b⟩ := decT_bl (neg := n) hl h0 h1
  obtain ⟨a', b'⟩ := decT_bl (neg := n') hl' h0' h1'
  rw [h] at a b
  by_cases hs : s = 0
  · by_cases hs' : s' = 0
    · omega
    · exact absurd rfl (a hs 46 (b' (by omega)).1)
  · by_cases hs' : s' = 0
    · exact absurd rfl (a' hs' 46 (b (by omega)).1)
    · have h2 := (b (by omega)).2
      rw [(b' (by omega)).2] at h2
      omega
end Go.Proofs.YtpnjdpomoijaaaaGreatDoor
