/-
  The laws on Highest and Lowest return true: their walks.
-/
import Derived.Test.YtagimdcegmpbmaaDoorMark
namespace Go.Proofs.YtagimdcegmpbmaaDoor
open Sx
set_option maxRecDepth 100000

theorem bestF_mem {sign : Int} {l0 : DMoney} : ∀ {r : List DMoney} {out x : DMoney}, bestF sign l0 r out = some x → x = out ∨ x ∈ r
  | [], out, x, h => by
    rw [bestF] at h
    simp only [Option.some.injEq] at h
    exact .inl h.symm
  | m :: r, out, x, h => by
    by_cases ha : AlikeP m l0
    · rw [bestF_yes ha] at h
      rcases bestF_mem h with h1 | h1
      · unfold pick at h1
        split at h1
        · exact .inr (by simp [h1])
        · exact .inl h1
      · exact .inr (by simp [h1])
    · rw [bestF_no ha] at h; cases h
theorem bestOf_len {sign : Int} {l : List DMoney} : (bestOf sign l).2.2.2.1.length ≤ totE rMoney l := by
  have key : ∀ x : DMoney, x ∈ l → x.2.2.1.length ≤ totE rMoney l := by
    intro x hx
    obtain ⟨i, hi, rfl⟩ := List.getElem_of_mem hx
    have h1 := totE_mem rMoney hi
    have e : rMoney.tot l[i] = l[i].1.size + (l[i].2.2.1.length + totE rI l[i].2.2.1 + 0) := rfl
    omega
  unfold bestOf
  split
  · exact Nat.zero_le _
  · rename_i l0 r
    split
    · rename_i x hx
      rcases bestF_mem hx with h | h
      · subst h; exact key _ (by simp)
      · exact key _ h
    · exact Nat.zero_le _

theorem law_Highest {V : Know} (hV : hasCur V) {s : SlV} {l : List DMoney} {f : List Nat} (h : LR rMoney V s l f) :
    CallX Tryd.prog V gL_FnExactHighest [Sc.val .l s] (fun V' r => V.le V' ∧ r = .bool true) := by
  refine CallX.of_fits Tryd.mix (fL_FnExactHighest _) fun _ => ?_
  simp only [tL_FnExactHighest, T.wp]
  refine (cL_szMoneyS V s l f 1048576 h (by omega) (by omega)).mono ?_
  rintro V0 r ⟨rfl, rfl⟩
  refine ⟨nofun, _, rfl, fun _ => ⟨Know.le.refl _, rfl⟩, fun h1 => ?_⟩
  have hp1 : ((l.length + totE rMoney l : Nat) : Int) ≤ 1048576 := Decidable.not_not.1 fun k => (of_decide_eq_false h1) (szr_lt.2 k)
  have ht : l.length + totE rMoney l ≤ 1048576 := by omega
  have hcost := cost_le l
  have hlen := bestOf_len (sign := (1)) (l := l)
  refine (cL_toMoneyS V0 s l f h ht).mono ?_
  rintro V1 r ⟨le1, s2, f2, rfl, L2, _⟩
  refine ⟨nofun, s2, rfl, (cS_Highest s2 l f2 L2).mono ?_⟩
  rintro V2 r ⟨le2, c3, f3, rfl, R3, _⟩
  have l2 := le1.trans le2
  refine ⟨nofun, (c3, (bestOf (1) l).1, ()), rfl, (cL_toMoneyS V2 s l f (h.le l2) ht).mono ?_⟩
  rintro V3 r ⟨le3, s4, f4, rfl, L4, O4⟩
  have l3 := l2.trans le3
  refine ⟨nofun, s4, rfl, (cI_Highest (hV.le l3) s4 l f4 L4).mono ?_⟩
  rintro V4 r ⟨le4, c5, f5, rfl, R5, O5⟩
  have l4 := l3.trans le4
  have R34 := rMoney.le R3 (le3.trans le4)
  refine ⟨nofun, (c5, (bestOf (1) l).1, ()), rfl, (cL_eqMoney V4 c5 c3 _ _ f5 f3 R5 R34).mono ?_⟩
  rintro Vx r ⟨rfl, b6, rfl, hb6⟩
  refine ⟨nofun, b6, rfl, (fun h => by simp [hb6.2 rfl] at h), (fun _ => ⟨(fun h => by simp at h), (fun _ => ?_)⟩)⟩
  refine (cL_toMoneyS _ s l f (h.le l4) ht).mono ?_
  rintro V5 r ⟨le5, s7, f7, rfl, L7, _⟩
  have l5 := l4.trans le5
  refine ⟨nofun, s7, rfl, (cL_eqMoneyS V5 s4 s7 l l f4 f7 (L4.le (le4.trans le5)) L7).mono ?_⟩
  rintro Vx r ⟨rfl, b8, rfl, hb8⟩
  refine ⟨nofun, b8, rfl, (fun h => by simp [hb8.2 rfl] at h), (fun _ => ?_)⟩
  refine (cL_markMoneyS Vx s4 l f4 1 (L4.le (le4.trans le5)) O4.1 (O4.2.2.le (le4.trans le5)) (by omega) (by omega)).mono ?_
  rintro V6 r ⟨B6, k9, rfl, hk9⟩
  refine ⟨nofun, k9, rfl, (fun h => absurd (of_decide_eq_true h) (Int.not_lt.2 hk9)), (fun _ => ?_)⟩
  have d54 : ∀ b ∈ f5, b ∉ f4 := fun b hb hb4 => by
    obtain ⟨y, hy⟩ := L4.kn b hb4
    rw [O5.2.1 b hb] at hy; cases hy
  have d34 : ∀ b ∈ f3, b ∉ f4 := fun b hb hb4 => by
    obtain ⟨y, hy⟩ := rMoney.kn R3 b hb
    rw [O4.2.1 b hb4] at hy; cases hy
  have R5' := rMoney.but (rMoney.le R5 le5) d54 B6
  have R3' := rMoney.but (rMoney.le R34 le5) d34 B6
  have W5' : Wr V6 f5 := fun b hb => by
    obtain ⟨q1, q2, q3⟩ := O5.2.2 b hb
    exact ⟨q1, q2, B6 b _ (d54 b hb) (le5 b _ q3)⟩
  have l6 := le_but l5 (fun b hb => none_of_le l2 (O4.2.1 b hb)) B6
  refine (cL_eqMoney V6 c5 c3 _ _ f5 f3 R5' R3').mono ?_
  rintro Vx r ⟨rfl, b10, rfl, hb10⟩
  refine ⟨nofun, b10, rfl, (fun h => by simp [hb10.2 rfl] at h), (fun _ => ⟨(fun h => by simp at h), (fun _ => ?_)⟩)⟩
  have d35 : ∀ b ∈ f3, b ∉ f5 := fun b hb hb5 => by
    obtain ⟨y, hy⟩ := rMoney.kn (rMoney.le R3 le3) b hb
    rw [O5.2.1 b hb5] at hy; cases hy
  have n5 : ∀ b ∈ f5, V0 b = none := fun b hb => none_of_le l3 (O5.2.1 b hb)
  have nd5 := O5.1
  have Rres := R5'
  clear R5 O5 R34 R5' hb6 hb10 hb8
  generalize hres : (bestOf (1) l).2 = res at *
  obtain ⟨q0, q1, q2, qu⟩ := c5
  obtain ⟨x0, x1, x2, xu⟩ := res
  obtain ⟨⟨eq0, zq0⟩, Rres⟩ := Rres
  replace eq0 : q0 = x0 := eq0
  subst eq0
  replace zq0 : q0.size ≤ 9223372036854775807 := zq0
  obtain ⟨eq1, Rres⟩ := Rres
  replace eq1 : q1 = x1 := eq1
  subst eq1
  obtain ⟨w2, wr2, eq2, sq2, Rres⟩ := Rres
  subst eq2
  replace sq2 : LR rI _ q2 x2 w2 := sq2
  replace Rres : _ = [] := Rres
  subst Rres
  simp only [List.append_nil] at *
  have hx2 : x2.length ≤ 1048576 := by
    have : x2.length ≤ totE rMoney l := hlen
    omega
  refine (cL_markMoney _ q0 q1 q2 x2 w2 1 sq2 W5' (by omega) (by omega)).mono ?_
  rintro V7 r ⟨B7, W7, rfl, l', L', hl', hm'⟩
  refine ⟨nofun, 1 + (x2.length : Int), rfl, ?_⟩
  have held : ∀ V9 : Know, LR rI V9 q2 l' w2 → CallX Tryd.prog V9 gL_heldMoney [Sh1.val (.g [.s, .b, .l]) (q0, q1, q2, qu), .int .i64 1] (fun V' r => V' = V9 ∧ r = .int .i64 (1 + (x2.length : Int))) := by
    intro V9 hL
    have := cL_heldMoney V9 q0 q1 q2 l' w2 1 hL (by omega) (by omega) (fun j hj => hm' j (by omega))
    rw [hl'] at this
    exact this
  have hnn : ¬ 1 + (x2.length : Int) < 0 := by omega
  refine (held V7 L').mono ?_
  rintro Vx r ⟨rfl, rfl⟩
  refine ⟨nofun, 1 + (x2.length : Int), rfl, (fun h => absurd (of_decide_eq_true h) hnn), (fun _ => ⟨(fun h => by simp at h), (fun _ => ?_)⟩)⟩
  have l7 := le_but l6 n5 B7
  have R3'' := rMoney.but R3' d35 B7
  refine (cL_toMoneyS Vx s l f (h.le l7) ht).mono ?_
  rintro V8 r ⟨le8, s13, f13, rfl, L13, _⟩
  have l8 := l7.trans le8
  refine ⟨nofun, s13, rfl, (cI_Highest (hV.le l8) s13 l f13 L13).mono ?_⟩
  rintro V9 r ⟨le9, c14, f14, rfl, R14, _⟩
  rw [hres] at R14
  refine ⟨nofun, (c14, _, ()), rfl, (cL_eqMoney V9 c14 c3 _ _ f14 f3 R14 (rMoney.le R3'' (le8.trans le9))).mono ?_⟩
  rintro Vy r ⟨rfl, b15, rfl, hb15⟩
  refine ⟨nofun, b15, rfl, (fun h => by simp [hb15.2 rfl] at h), (fun _ => ⟨(fun h => by simp at h), (fun _ => ?_)⟩)⟩
  refine (held Vy (L'.le (le8.trans le9))).mono ?_
  rintro Vz r ⟨rfl, rfl⟩
  exact ⟨nofun, 1 + (x2.length : Int), rfl, (fun h => absurd (of_decide_eq_true h) hnn), (fun _ => ⟨(fun h => by simp at h), (fun _ => ⟨l8.trans le9, rfl⟩)⟩)⟩

theorem law_Lowest {V : Know} (hV : hasCur V) {s : SlV} {l : List DMoney} {f : List Nat} (h : LR rMoney V s l f) :
    CallX Tryd.prog V gL_FnExactLowest [Sc.val .l s] (fun V' r => V.le V' ∧ r = .bool true) := by
  refine CallX.of_fits Tryd.mix (fL_FnExactLowest _) fun _ => ?_
  simp only [tL_FnExactLowest, T.wp]
  refine (cL_szMoneyS V s l f 1048576 h (by omega) (by omega)).mono ?_
  rintro V0 r ⟨rfl, rfl⟩
  refine ⟨nofun, _, rfl, fun _ => ⟨Know.le.refl _, rfl⟩, fun h1 => ?_⟩
  have hp1 : ((l.length + totE rMoney l : Nat) : Int) ≤ 1048576 := Decidable.not_not.1 fun k => (of_decide_eq_false h1) (szr_lt.2 k)
  have ht : l.length + totE rMoney l ≤ 1048576 := by omega
  have hcost := cost_le l
  have hlen := bestOf_len (sign := (-1)) (l := l)
  refine (cL_toMoneyS V0 s l f h ht).mono ?_
  rintro V1 r ⟨le1, s2, f2, rfl, L2, _⟩
  refine ⟨nofun, s2, rfl, (cS_Lowest s2 l f2 L2).mono ?_⟩
  rintro V2 r ⟨le2, c3, f3, rfl, R3, _⟩
  have l2 := le1.trans le2
  refine ⟨nofun, (c3, (bestOf (-1) l).1, ()), rfl, (cL_toMoneyS V2 s l f (h.le l2) ht).mono ?_⟩
  rintro V3 r ⟨le3, s4, f4, rfl, L4, O4⟩
  have l3 := l2.trans le3
  refine ⟨nofun, s4, rfl, (cI_Lowest (hV.le l3) s4 l f4 L4).mono ?_⟩
  rintro V4 r ⟨le4, c5, f5, rfl, R5, O5⟩
  have l4 := l3.trans le4
  have R34 := rMoney.le R3 (le3.trans le4)
  refine ⟨nofun, (c5, (bestOf (-1) l).1, ()), rfl, (cL_eqMoney V4 c5 c3 _ _ f5 f3 R5 R34).mono ?_⟩
  rintro Vx r ⟨rfl, b6, rfl, hb6⟩
  refine ⟨nofun, b6, rfl, (fun h => by simp [hb6.2 rfl] at h), (fun _ => ⟨(fun h => by simp at h), (fun _ => ?_)⟩)⟩
  refine (cL_toMoneyS _ s l f (h.le l4) ht).mono ?_
  rintro V5 r ⟨le5, s7, f7, rfl, L7, _⟩
  have l5 := l4.trans le5
  refine ⟨nofun, s7, rfl, (cL_eqMoneyS V5 s4 s7 l l f4 f7 (L4.le (le4.trans le5)) L7).mono ?_⟩
  rintro Vx r ⟨rfl, b8, rfl, hb8⟩
  refine ⟨nofun, b8, rfl, (fun h => by simp [hb8.2 rfl] at h), (fun _ => ?_)⟩
  refine (cL_markMoneyS Vx s4 l f4 1 (L4.le (le4.trans le5)) O4.1 (O4.2.2.le (le4.trans le5)) (by omega) (by omega)).mono ?_
  rintro V6 r ⟨B6, k9, rfl, hk9⟩
  refine ⟨nofun, k9, rfl, (fun h => absurd (of_decide_eq_true h) (Int.not_lt.2 hk9)), (fun _ => ?_)⟩
  have d54 : ∀ b ∈ f5, b ∉ f4 := fun b hb hb4 => by
    obtain ⟨y, hy⟩ := L4.kn b hb4
    rw [O5.2.1 b hb] at hy; cases hy
  have d34 : ∀ b ∈ f3, b ∉ f4 := fun b hb hb4 => by
    obtain ⟨y, hy⟩ := rMoney.kn R3 b hb
    rw [O4.2.1 b hb4] at hy; cases hy
  have R5' := rMoney.but (rMoney.le R5 le5) d54 B6
  have R3' := rMoney.but (rMoney.le R34 le5) d34 B6
  have W5' : Wr V6 f5 := fun b hb => by
    obtain ⟨q1, q2, q3⟩ := O5.2.2 b hb
    exact ⟨q1, q2, B6 b _ (d54 b hb) (le5 b _ q3)⟩
  have l6 := le_but l5 (fun b hb => none_of_le l2 (O4.2.1 b hb)) B6
  refine (cL_eqMoney V6 c5 c3 _ _ f5 f3 R5' R3').mono ?_
  rintro Vx r ⟨rfl, b10, rfl, hb10⟩
  refine ⟨nofun, b10, rfl, (fun h => by simp [hb10.2 rfl] at h), (fun _ => ⟨(fun h => by simp at h), (fun _ => ?_)⟩)⟩
  have d35 : ∀ b ∈ f3, b ∉ f5 := fun b hb hb5 => by
    obtain ⟨y, hy⟩ := rMoney.kn (rMoney.le R3 le3) b hb
    rw [O5.2.1 b hb5] at hy; cases hy
  have n5 : ∀ b ∈ f5, V0 b = none := fun b hb => none_of_le l3 (O5.2.1 b hb)
  have nd5 := O5.1
  have Rres := R5'
  clear R5 O5 R34 R5' hb6 hb10 hb8
  generalize hres : (bestOf (-1) l).2 = res at *
  obtain ⟨q0, q1, q2, qu⟩ := c5
  obtain ⟨x0, x1, x2, xu⟩ := res
  obtain ⟨⟨eq0, zq0⟩, Rres⟩ := Rres
  replace eq0 : q0 = x0 := eq0
  subst eq0
  replace zq0 : q0.size ≤ 9223372036854775807 := zq0
  obtain ⟨eq1, Rres⟩ := Rres
  replace eq1 : q1 = x1 := eq1
  subst eq1
  obtain ⟨w2, wr2, eq2, sq2, Rres⟩ := Rres
  subst eq2
  replace sq2 : LR rI _ q2 x2 w2 := sq2
  replace Rres : _ = [] := Rres
  subst Rres
  simp only [List.append_nil] at *
  have hx2 : x2.length ≤ 1048576 := by
    have : x2.length ≤ totE rMoney l := hlen
    omega
  refine (cL_markMoney _ q0 q1 q2 x2 w2 1 sq2 W5' (by omega) (by omega)).mono ?_
  rintro V7 r ⟨B7, W7, rfl, l', L', hl', hm'⟩
  refine ⟨nofun, 1 + (x2.length : Int), rfl, ?_⟩
  have held : ∀ V9 : Know, LR rI V9 q2 l' w2 → CallX Tryd.prog V9 gL_heldMoney [Sh1.val (.g [.s, .b, .l]) (q0, q1, q2, qu), .int .i64 1] (fun V' r => V' = V9 ∧ r = .int .i64 (1 + (x2.length : Int))) := by
    intro V9 hL
    have := cL_heldMoney V9 q0 q1 q2 l' w2 1 hL (by omega) (by omega) (fun j hj => hm' j (by omega))
    rw [hl'] at this
    exact this
  have hnn : ¬ 1 + (x2.length : Int) < 0 := by omega
  refine (held V7 L').mono ?_
  rintro Vx r ⟨rfl, rfl⟩
  refine ⟨nofun, 1 + (x2.length : Int), rfl, (fun h => absurd (of_decide_eq_true h) hnn), (fun _ => ⟨(fun h => by simp at h), (fun _ => ?_)⟩)⟩
  have l7 := le_but l6 n5 B7
  have R3'' := rMoney.but R3' d35 B7
  refine (cL_toMoneyS Vx s l f (h.le l7) ht).mono ?_
  rintro V8 r ⟨le8, s13, f13, rfl, L13, _⟩
  have l8 := l7.trans le8
  refine ⟨nofun, s13, rfl, (cI_Lowest (hV.le l8) s13 l f13 L13).mono ?_⟩
  rintro V9 r ⟨le9, c14, f14, rfl, R14, _⟩
  rw [hres] at R14
  refine ⟨nofun, (c14, _, ()), rfl, (cL_eqMoney V9 c14 c3 _ _ f14 f3 R14 (rMoney.le R3'' (le8.trans le9))).mono ?_⟩
  rintro Vy r ⟨rfl, b15, rfl, hb15⟩
  refine ⟨nofun, b15, rfl, (fun h => by simp [hb15.2 rfl] at h), (fun _ => ⟨(fun h => by simp at h), (fun _ => ?_)⟩)⟩
  refine (held Vy (L'.le (le8.trans le9))).mono ?_
  rintro Vz r ⟨rfl, rfl⟩
  exact ⟨nofun, 1 + (x2.length : Int), rfl, (fun h => absurd (of_decide_eq_true h) hnn), (fun _ => ⟨(fun h => by simp at h), (fun _ => ⟨l8.trans le9, rfl⟩)⟩)⟩

end Go.Proofs.YtagimdcegmpbmaaDoor
