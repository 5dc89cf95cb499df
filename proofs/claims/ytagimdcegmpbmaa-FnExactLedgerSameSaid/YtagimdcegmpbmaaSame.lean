/-
  What the program's LedgerSame and the reference's decide: whether the two ledgers are equal.
-/
import Derived.Test.YtagimdcegmpbmaaStr
namespace Go.Proofs.Ytagimdcegmpbmaa
open Sx
set_option maxRecDepth 100000

/-! two lists of limbs, from the top -/
def cmpAt (l l' : List (Int × Unit)) : Nat → Int
  | 0 => 0
  | n + 1 => if (l.getD n (0, ())).1 < (l'.getD n (0, ())).1 then -1 else if (l.getD n (0, ())).1 > (l'.getD n (0, ())).1 then 1 else cmpAt l l' n
def cmpL (l l' : List (Int × Unit)) : Int := if l.length ≠ l'.length then (if l.length < l'.length then -1 else 1) else cmpAt l l' l.length
theorem cmpAt_zero {l l' : List (Int × Unit)} (hl : l.length = l'.length) : ∀ {n : Nat}, n ≤ l.length → (cmpAt l l' n = 0 ↔ l.take n = l'.take n)
  | 0, _ => by simp [cmpAt]
  | n + 1, h => by
    have ih := cmpAt_zero hl (n := n) (by omega)
    have h1 : n < l.length := h
    have h2 : n < l'.length := by omega
    have e1 : l.getD n (0, ()) = l[n] := by simp [h1]
    have e2 : l'.getD n (0, ()) = l'[n] := by simp [h2]
    rw [List.take_succ_eq_append_getElem h1, List.take_succ_eq_append_getElem h2]
    unfold cmpAt
    rw [e1, e2]
    have key : (l.take n ++ [l[n]] = l'.take n ++ [l'[n]]) ↔ l.take n = l'.take n ∧ l[n] = l'[n] := by
      refine ⟨fun h => ?_, fun ⟨h, k⟩ => by rw [h, k]⟩
      have := List.append_inj h (by simp; omega)
      exact ⟨this.1, by simpa using this.2⟩
    rw [key, ← ih]
    by_cases c1 : l[n].1 < l'[n].1
    · rw [if_pos c1]
      refine ⟨(fun h => by cases h), (fun h => ?_)⟩
      rw [h.2] at c1; omega
    · rw [if_neg c1]
      by_cases c2 : l[n].1 > l'[n].1
      · rw [if_pos c2]
        refine ⟨(fun h => by cases h), (fun h => ?_)⟩
        rw [h.2] at c2; omega
      · rw [if_neg c2]
        have : l[n] = l'[n] := Prod.ext (by omega) rfl
        simp [this]
theorem cmpL_zero {l l' : List (Int × Unit)} : cmpL l l' = 0 ↔ l = l' := by
  unfold cmpL
  by_cases h : l.length = l'.length
  · rw [if_neg (by simpa using h), cmpAt_zero h (Nat.le_refl _), List.take_length, h, List.take_length]
  · rw [if_pos h]
    refine ⟨fun k => ?_, fun k => (h (by rw [k])).elim⟩
    split at k <;> cases k

theorem prv {m n : Nat} (h : m < n) (hn : n ≤ 9223372036854775807) : IntKind.i64.wrap ((m : Int) - 1) = (m : Int) - 1 := wrap_i64 (by omega)

theorem cS_l02Cmp (V : Know) (s s' : SlV) (l l' : List (Int × Unit)) (f f' : List Nat) (h : LR rI V s l f) (h' : LR rI V s' l' f') :
    CallX Try.prog V gS_l02Cmp [Sc.val .l s, Sc.val .l s'] (fun V' r => V' = V ∧ r = .int .i64 (cmpL l l')) := by
  refine CallX.of_fits Try.mix (fS_l02Cmp _ _) fun _ => ?_
  simp only [tS_l02Cmp, T.wp]
  have hn := h.1
  have hn' := h'.1
  have hb := h.2.2.1
  refine ⟨fun hne => ?_, fun heq => ?_⟩
  · have hne' : l.length ≠ l'.length := by
      have : ((s.n : Nat) : Int) ≠ ((s'.n : Nat) : Int) := by simpa using hne
      omega
    refine ⟨fun hlt => ⟨by trivial, ?_⟩, fun hge => ⟨by trivial, ?_⟩⟩
    · have : (s.n : Int) < (s'.n : Int) := of_decide_eq_true hlt
      rw [cmpL, if_pos hne', if_pos (by omega)]; rfl
    · have : ¬ (s.n : Int) < (s'.n : Int) := of_decide_eq_false hge
      rw [cmpL, if_pos hne', if_neg (by omega)]; rfl
  have hl : l.length = l'.length := by
    have : ((s.n : Nat) : Int) = ((s'.n : Nat) : Int) := by simpa using heq
    omega
  have hc : cmpL l l' = cmpAt l l' l.length := by rw [cmpL, if_neg (by simpa using hl)]
  rw [hc]
  have hw : IntKind.i64.wrap ((s.n : Int) - 1) = (s.n : Int) - 1 := wrap_i64 (by omega)
  refine ⟨fun y V' => V' = V ∧ ∃ n : Nat, y.1 = (n : Int) - 1 ∧ n ≤ l.length ∧ cmpAt l l' n = cmpAt l l' l.length, fun y => ((y.1 : Int) + 1).toNat,
    ⟨((s.n : Int) - 1, ()), by rw [hw]; rfl, rfl, l.length, by rw [hn], Nat.le_refl _, rfl⟩, ?_⟩
  rintro ⟨(i : Int), u⟩ V' ⟨rfl, n, hi, hle, hcm⟩
  replace hi : i = (n : Int) - 1 := hi
  refine ⟨fun hge => ?_, fun hlt => ?_⟩
  · have hge' : i ≥ 0 := of_decide_eq_true hge
    obtain ⟨m, rfl⟩ : ∃ m, n = m + 1 := ⟨n - 1, by omega⟩
    have hi : i = (m : Int) := by omega
    subst hi
    have h1 : m < l.length := hle
    have h2 : m < l'.length := by omega
    obtain ⟨b1, o1, a1, l1⟩ := h.int h1
    obtain ⟨b2, o2, a2, l2⟩ := h'.int h2
    have e1 : l.getD m (0, ()) = l[m] := by simp [h1]
    have e2 : l'.getD m (0, ()) = l'[m] := by simp [h2]
    rw [cmpAt, e1, e2] at hcm
    refine ⟨_, a1, by omega, (by omega : (m : Int) < (s.n : Int)), l[m].1, l1, _, a2, by omega, (by omega : (m : Int) < (s'.n : Int)), l'[m].1, l2, fun hlt => ⟨rfl, ?_⟩, fun hge1 => ?_⟩
    · rw [if_pos (of_decide_eq_true hlt)] at hcm
      rw [← hcm]; rfl
    rw [if_neg (of_decide_eq_false hge1)] at hcm
    refine ⟨_, a1, by omega, (by omega : (m : Int) < (s.n : Int)), l[m].1, l1, _, a2, by omega, (by omega : (m : Int) < (s'.n : Int)), l'[m].1, l2, fun hgt => ⟨rfl, ?_⟩, fun hle1 => ?_⟩
    · rw [if_pos (of_decide_eq_true hgt)] at hcm
      rw [← hcm]; rfl
    rw [if_neg (of_decide_eq_false hle1)] at hcm
    refine ⟨_, rfl, ((m : Int) - 1, ()), by rw [prv h1 (by omega)]; rfl, ⟨rfl, m, rfl, by omega, hcm⟩, ?_⟩
    show ((m : Int) - 1 + 1).toNat < ((m : Int) + 1).toNat
    omega
  · have : ¬ i ≥ 0 := of_decide_eq_false hlt
    have hz : n = 0 := by omega
    subst hz
    refine ⟨rfl, ?_⟩
    rw [← hcm]; rfl
theorem cS_l09Same : EqC Try.prog gS_l09Same rSigned := by
  rintro V ⟨c0, c1, cu⟩ ⟨d0, d1, du⟩ ⟨x0, x1, xu⟩ ⟨y0, y1, yu⟩ f f' hx hy
  obtain ⟨ec0, hx⟩ := hx
  replace ec0 : c0 = x0 := ec0
  subst ec0
  obtain ⟨f1, fr1, ec1, sc1, hx⟩ := hx
  subst ec1
  replace sc1 : LR rI _ c1 x1 f1 := sc1
  replace hx : _ = [] := hx
  subst hx
  obtain ⟨ed0, hy⟩ := hy
  replace ed0 : d0 = y0 := ed0
  subst ed0
  obtain ⟨g1, gr1, ed1, sd1, hy⟩ := hy
  subst ed1
  replace sd1 : LR rI _ d1 y1 g1 := sd1
  replace hy : _ = [] := hy
  subst hy
  refine CallX.of_fits Try.mix (fS_l09Same _ _) fun _ => ?_
  simp only [tS_l09Same, T.wp]
  refine ⟨fun h0 => ?_, fun h => ⟨by trivial, false, rfl, ⟨(fun h => by cases h), (fun e => by cases e; simp at h)⟩⟩⟩
  refine (cS_l02Cmp _ _ _ _ _ _ _ sc1 sd1).mono ?_
  rintro V1 r ⟨rfl, rfl⟩
  refine ⟨nofun, cmpL x1 y1, rfl, by trivial, _, rfl, ⟨fun h1 => ?_, fun e => by cases e; exact beq_iff_eq.2 (cmpL_zero.2 rfl)⟩⟩
  have q0 : c0 = d0 := by simpa using h0
  subst q0
  have q1 : x1 = y1 := cmpL_zero.1 (beq_iff_eq.1 h1)
  cases q1
  rfl
theorem cI_sameInts : EqSC Try.prog gI_sameInts rI := fun _ s s' _ _ _ _ h h' => CallX.of_fits Try.mix (fI_sameInts s s') fun _ => tEqI_wp h h'
theorem cI_intSame : EqC Try.prog gI_intSame rSigned := by
  rintro V ⟨c0, c1, cu⟩ ⟨d0, d1, du⟩ ⟨x0, x1, xu⟩ ⟨y0, y1, yu⟩ f f' hx hy
  obtain ⟨ec0, hx⟩ := hx
  replace ec0 : c0 = x0 := ec0
  subst ec0
  obtain ⟨f1, fr1, ec1, sc1, hx⟩ := hx
  subst ec1
  replace sc1 : LR rI _ c1 x1 f1 := sc1
  replace hx : _ = [] := hx
  subst hx
  obtain ⟨ed0, hy⟩ := hy
  replace ed0 : d0 = y0 := ed0
  subst ed0
  obtain ⟨g1, gr1, ed1, sd1, hy⟩ := hy
  subst ed1
  replace sd1 : LR rI _ d1 y1 g1 := sd1
  replace hy : _ = [] := hy
  subst hy
  refine CallX.of_fits Try.mix (fI_intSame _ _) fun _ => ?_
  simp only [tI_intSame, T.wp]
  refine ⟨fun h0 => ?_, fun h => ⟨by trivial, false, rfl, ⟨(fun h => by cases h), (fun e => by cases e; simp at h)⟩⟩⟩
  refine (cI_sameInts _ _ _ _ _ _ _ sc1 sd1).mono ?_
  rintro V1 r ⟨rfl, b1, rfl, hb1⟩
  refine ⟨nofun, b1, rfl, by trivial, b1, rfl, ⟨fun h1 => ?_, fun e => by cases e; exact hb1.2 rfl⟩⟩
  have q0 : c0 = d0 := by simpa using h0
  subst q0
  have q1 : x1 = y1 := hb1.1 h1
  cases q1
  rfl
theorem cI_MoneySame : EqC Try.prog gI_MoneySame rMoney := by
  rintro V ⟨c0, c1, c2, cu⟩ ⟨d0, d1, d2, du⟩ ⟨x0, x1, x2, xu⟩ ⟨y0, y1, y2, yu⟩ f f' hx hy
  obtain ⟨⟨ec0, zc0⟩, hx⟩ := hx
  replace ec0 : c0 = x0 := ec0
  subst ec0
  replace zc0 : c0.size ≤ 9223372036854775807 := zc0
  obtain ⟨ec1, hx⟩ := hx
  replace ec1 : c1 = x1 := ec1
  subst ec1
  obtain ⟨f2, fr2, ec2, sc2, hx⟩ := hx
  subst ec2
  replace sc2 : LR rI _ c2 x2 f2 := sc2
  replace hx : _ = [] := hx
  subst hx
  obtain ⟨⟨ed0, zd0⟩, hy⟩ := hy
  replace ed0 : d0 = y0 := ed0
  subst ed0
  replace zd0 : d0.size ≤ 9223372036854775807 := zd0
  obtain ⟨ed1, hy⟩ := hy
  replace ed1 : d1 = y1 := ed1
  subst ed1
  obtain ⟨g2, gr2, ed2, sd2, hy⟩ := hy
  subst ed2
  replace sd2 : LR rI _ d2 y2 g2 := sd2
  replace hy : _ = [] := hy
  subst hy
  refine CallX.of_fits Try.mix (fI_MoneySame _ _) fun _ => ?_
  simp only [tI_MoneySame, T.wp]
  refine ⟨fun h0 => ?_, fun h => ⟨by trivial, false, rfl, ⟨(fun h => by cases h), (fun e => by cases e; simp at h)⟩⟩⟩
  refine (cI_intSame _ _ _ _ _ _ _ (rBool.mk (rSl.mk sc2 rNil.mk)) (rBool.mk (rSl.mk sd2 rNil.mk))).mono ?_
  rintro V1 r ⟨rfl, b1, rfl, hb1⟩
  refine ⟨nofun, b1, rfl, by trivial, b1, rfl, ⟨fun h1 => ?_, fun e => by cases e; exact hb1.2 rfl⟩⟩
  have q0 : c0 = d0 := text_eq.1 h0
  subst q0
  have q1 : (c1, x2, ()) = (d1, y2, ()) := hb1.1 h1
  cases q1
  rfl
theorem cS_MoneySame : EqC Try.prog gS_MoneySame rMoney := by
  rintro V ⟨c0, c1, c2, cu⟩ ⟨d0, d1, d2, du⟩ ⟨x0, x1, x2, xu⟩ ⟨y0, y1, y2, yu⟩ f f' hx hy
  obtain ⟨⟨ec0, zc0⟩, hx⟩ := hx
  replace ec0 : c0 = x0 := ec0
  subst ec0
  replace zc0 : c0.size ≤ 9223372036854775807 := zc0
  obtain ⟨ec1, hx⟩ := hx
  replace ec1 : c1 = x1 := ec1
  subst ec1
  obtain ⟨f2, fr2, ec2, sc2, hx⟩ := hx
  subst ec2
  replace sc2 : LR rI _ c2 x2 f2 := sc2
  replace hx : _ = [] := hx
  subst hx
  obtain ⟨⟨ed0, zd0⟩, hy⟩ := hy
  replace ed0 : d0 = y0 := ed0
  subst ed0
  replace zd0 : d0.size ≤ 9223372036854775807 := zd0
  obtain ⟨ed1, hy⟩ := hy
  replace ed1 : d1 = y1 := ed1
  subst ed1
  obtain ⟨g2, gr2, ed2, sd2, hy⟩ := hy
  subst ed2
  replace sd2 : LR rI _ d2 y2 g2 := sd2
  replace hy : _ = [] := hy
  subst hy
  refine CallX.of_fits Try.mix (fS_MoneySame _ _) fun _ => ?_
  simp only [tS_MoneySame, T.wp]
  refine ⟨fun h0 => ?_, fun h => ⟨by trivial, false, rfl, ⟨(fun h => by cases h), (fun e => by cases e; simp at h)⟩⟩⟩
  refine (cS_l09Same _ _ _ _ _ _ _ (rBool.mk (rSl.mk sc2 rNil.mk)) (rBool.mk (rSl.mk sd2 rNil.mk))).mono ?_
  rintro V1 r ⟨rfl, b1, rfl, hb1⟩
  refine ⟨nofun, b1, rfl, by trivial, b1, rfl, ⟨fun h1 => ?_, fun e => by cases e; exact hb1.2 rfl⟩⟩
  have q0 : c0 = d0 := text_eq.1 h0
  subst q0
  have q1 : (c1, x2, ()) = (d1, y2, ()) := hb1.1 h1
  cases q1
  rfl
theorem cI_BookSame_1 : EqC Try.prog gI_BookSame_1 rAcct := by
  rintro V ⟨c0, c1, c2, c3, cu⟩ ⟨d0, d1, d2, d3, du⟩ ⟨x0, x1, x2, x3, xu⟩ ⟨y0, y1, y2, y3, yu⟩ f f' hx hy
  obtain ⟨⟨ec0, zc0⟩, hx⟩ := hx
  replace ec0 : c0 = x0 := ec0
  subst ec0
  replace zc0 : c0.size ≤ 9223372036854775807 := zc0
  obtain ⟨⟨ec1, zc1⟩, hx⟩ := hx
  replace ec1 : c1 = x1 := ec1
  subst ec1
  replace zc1 : c1.size ≤ 9223372036854775807 := zc1
  obtain ⟨ec2, hx⟩ := hx
  replace ec2 : c2 = x2 := ec2
  subst ec2
  obtain ⟨f3, fr3, ec3, sc3, hx⟩ := hx
  subst ec3
  replace sc3 : LR rI _ c3 x3 f3 := sc3
  replace hx : _ = [] := hx
  subst hx
  obtain ⟨⟨ed0, zd0⟩, hy⟩ := hy
  replace ed0 : d0 = y0 := ed0
  subst ed0
  replace zd0 : d0.size ≤ 9223372036854775807 := zd0
  obtain ⟨⟨ed1, zd1⟩, hy⟩ := hy
  replace ed1 : d1 = y1 := ed1
  subst ed1
  replace zd1 : d1.size ≤ 9223372036854775807 := zd1
  obtain ⟨ed2, hy⟩ := hy
  replace ed2 : d2 = y2 := ed2
  subst ed2
  obtain ⟨g3, gr3, ed3, sd3, hy⟩ := hy
  subst ed3
  replace sd3 : LR rI _ d3 y3 g3 := sd3
  replace hy : _ = [] := hy
  subst hy
  refine CallX.of_fits Try.mix (fI_BookSame_1 _ _) fun _ => ?_
  simp only [tI_BookSame_1, T.wp]
  refine ⟨fun h0 => ?_, fun h => ⟨by trivial, false, rfl, ⟨(fun h => by cases h), (fun e => by cases e; simp at h)⟩⟩⟩
  refine (cI_MoneySame _ _ _ _ _ _ _ (rStr.mk zc1 (rBool.mk (rSl.mk sc3 rNil.mk))) (rStr.mk zd1 (rBool.mk (rSl.mk sd3 rNil.mk)))).mono ?_
  rintro V1 r ⟨rfl, b1, rfl, hb1⟩
  refine ⟨nofun, b1, rfl, by trivial, b1, rfl, ⟨fun h1 => ?_, fun e => by cases e; exact hb1.2 rfl⟩⟩
  have q0 : c0 = d0 := text_eq.1 h0
  subst q0
  have q1 : (c1, c2, x3, ()) = (d1, d2, y3, ()) := hb1.1 h1
  cases q1
  rfl
theorem cI_ratSame : EqC Try.prog gI_ratSame rRat := by
  rintro V ⟨c0, c1, c2, cu⟩ ⟨d0, d1, d2, du⟩ ⟨x0, x1, x2, xu⟩ ⟨y0, y1, y2, yu⟩ f f' hx hy
  obtain ⟨ec0, hx⟩ := hx
  replace ec0 : c0 = x0 := ec0
  subst ec0
  obtain ⟨f1, fr1, ec1, sc1, hx⟩ := hx
  subst ec1
  replace sc1 : LR rI _ c1 x1 f1 := sc1
  obtain ⟨f2, fr2, ec2, sc2, hx⟩ := hx
  subst ec2
  replace sc2 : LR rI _ c2 x2 f2 := sc2
  replace hx : _ = [] := hx
  subst hx
  obtain ⟨ed0, hy⟩ := hy
  replace ed0 : d0 = y0 := ed0
  subst ed0
  obtain ⟨g1, gr1, ed1, sd1, hy⟩ := hy
  subst ed1
  replace sd1 : LR rI _ d1 y1 g1 := sd1
  obtain ⟨g2, gr2, ed2, sd2, hy⟩ := hy
  subst ed2
  replace sd2 : LR rI _ d2 y2 g2 := sd2
  replace hy : _ = [] := hy
  subst hy
  refine CallX.of_fits Try.mix (fI_ratSame _ _) fun _ => ?_
  simp only [tI_ratSame, T.wp]
  refine (cI_intSame _ _ _ _ _ _ _ (rBool.mk (rSl.mk sc1 rNil.mk)) (rBool.mk (rSl.mk sd1 rNil.mk))).mono ?_
  rintro V0 r ⟨rfl, b0, rfl, hb0⟩
  refine ⟨nofun, b0, rfl, fun h0 => ?_, fun h => ⟨by trivial, false, rfl, ⟨(fun h => by cases h), (fun e => by cases e; simp [hb0.2 rfl] at h)⟩⟩⟩
  refine (cI_sameInts _ _ _ _ _ _ _ sc2 sd2).mono ?_
  rintro V2 r ⟨rfl, b2, rfl, hb2⟩
  refine ⟨nofun, b2, rfl, by trivial, b2, rfl, ⟨fun h2 => ?_, fun e => by cases e; exact hb2.2 rfl⟩⟩
  have q0 : (c0, x1, ()) = (d0, y1, ()) := hb0.1 h0
  cases q0
  have q2 : x2 = y2 := hb2.1 h2
  cases q2
  rfl
theorem cI_RestsSame_1 : EqC Try.prog gI_RestsSame_1 rRest := by
  rintro V ⟨c0, c1, c2, c3, cu⟩ ⟨d0, d1, d2, d3, du⟩ ⟨x0, x1, x2, x3, xu⟩ ⟨y0, y1, y2, y3, yu⟩ f f' hx hy
  obtain ⟨⟨ec0, zc0⟩, hx⟩ := hx
  replace ec0 : c0 = x0 := ec0
  subst ec0
  replace zc0 : c0.size ≤ 9223372036854775807 := zc0
  obtain ⟨ec1, hx⟩ := hx
  replace ec1 : c1 = x1 := ec1
  subst ec1
  obtain ⟨f2, fr2, ec2, sc2, hx⟩ := hx
  subst ec2
  replace sc2 : LR rI _ c2 x2 f2 := sc2
  obtain ⟨f3, fr3, ec3, sc3, hx⟩ := hx
  subst ec3
  replace sc3 : LR rI _ c3 x3 f3 := sc3
  replace hx : _ = [] := hx
  subst hx
  obtain ⟨⟨ed0, zd0⟩, hy⟩ := hy
  replace ed0 : d0 = y0 := ed0
  subst ed0
  replace zd0 : d0.size ≤ 9223372036854775807 := zd0
  obtain ⟨ed1, hy⟩ := hy
  replace ed1 : d1 = y1 := ed1
  subst ed1
  obtain ⟨g2, gr2, ed2, sd2, hy⟩ := hy
  subst ed2
  replace sd2 : LR rI _ d2 y2 g2 := sd2
  obtain ⟨g3, gr3, ed3, sd3, hy⟩ := hy
  subst ed3
  replace sd3 : LR rI _ d3 y3 g3 := sd3
  replace hy : _ = [] := hy
  subst hy
  refine CallX.of_fits Try.mix (fI_RestsSame_1 _ _) fun _ => ?_
  simp only [tI_RestsSame_1, T.wp]
  refine ⟨fun h0 => ?_, fun h => ⟨by trivial, false, rfl, ⟨(fun h => by cases h), (fun e => by cases e; simp at h)⟩⟩⟩
  refine (cI_ratSame _ _ _ _ _ _ _ (rBool.mk (rSl.mk sc2 (rSl.mk sc3 rNil.mk))) (rBool.mk (rSl.mk sd2 (rSl.mk sd3 rNil.mk)))).mono ?_
  rintro V1 r ⟨rfl, b1, rfl, hb1⟩
  refine ⟨nofun, b1, rfl, by trivial, b1, rfl, ⟨fun h1 => ?_, fun e => by cases e; exact hb1.2 rfl⟩⟩
  have q0 : c0 = d0 := text_eq.1 h0
  subst q0
  have q1 : (c1, x2, x3, ()) = (d1, y2, y3, ()) := hb1.1 h1
  cases q1
  rfl
theorem cI_decSame : EqC Try.prog gI_decSame rDec := by
  rintro V ⟨c0, c1, c2, cu⟩ ⟨d0, d1, d2, du⟩ ⟨x0, x1, x2, xu⟩ ⟨y0, y1, y2, yu⟩ f f' hx hy
  obtain ⟨ec0, hx⟩ := hx
  replace ec0 : c0 = x0 := ec0
  subst ec0
  obtain ⟨f1, fr1, ec1, sc1, hx⟩ := hx
  subst ec1
  replace sc1 : LR rI _ c1 x1 f1 := sc1
  obtain ⟨ec2, hx⟩ := hx
  replace ec2 : c2 = x2 := ec2
  subst ec2
  replace hx : _ = [] := hx
  subst hx
  obtain ⟨ed0, hy⟩ := hy
  replace ed0 : d0 = y0 := ed0
  subst ed0
  obtain ⟨g1, gr1, ed1, sd1, hy⟩ := hy
  subst ed1
  replace sd1 : LR rI _ d1 y1 g1 := sd1
  obtain ⟨ed2, hy⟩ := hy
  replace ed2 : d2 = y2 := ed2
  subst ed2
  replace hy : _ = [] := hy
  subst hy
  refine CallX.of_fits Try.mix (fI_decSame _ _) fun _ => ?_
  simp only [tI_decSame, T.wp]
  refine (cI_intSame _ _ _ _ _ _ _ (rBool.mk (rSl.mk sc1 rNil.mk)) (rBool.mk (rSl.mk sd1 rNil.mk))).mono ?_
  rintro V0 r ⟨rfl, b0, rfl, hb0⟩
  refine ⟨nofun, b0, rfl, fun h0 => ?_, fun h => ⟨by trivial, false, rfl, ⟨(fun h => by cases h), (fun e => by cases e; simp [hb0.2 rfl] at h)⟩⟩⟩
  refine ⟨by trivial, _, rfl, ⟨fun h2 => ?_, fun e => by cases e; simp⟩⟩
  have q0 : (c0, x1, ()) = (d0, y1, ()) := hb0.1 h0
  cases q0
  have q2 : c2 = d2 := by simpa using h2
  subst q2
  rfl
theorem cI_rateSame : EqC Try.prog gI_rateSame rRate := by
  rintro V ⟨c0, c1, c2, c3, c4, cu⟩ ⟨d0, d1, d2, d3, d4, du⟩ ⟨x0, x1, x2, x3, x4, xu⟩ ⟨y0, y1, y2, y3, y4, yu⟩ f f' hx hy
  obtain ⟨⟨ec0, zc0⟩, hx⟩ := hx
  replace ec0 : c0 = x0 := ec0
  subst ec0
  replace zc0 : c0.size ≤ 9223372036854775807 := zc0
  obtain ⟨⟨ec1, zc1⟩, hx⟩ := hx
  replace ec1 : c1 = x1 := ec1
  subst ec1
  replace zc1 : c1.size ≤ 9223372036854775807 := zc1
  obtain ⟨ec2, hx⟩ := hx
  replace ec2 : c2 = x2 := ec2
  subst ec2
  obtain ⟨f3, fr3, ec3, sc3, hx⟩ := hx
  subst ec3
  replace sc3 : LR rI _ c3 x3 f3 := sc3
  obtain ⟨ec4, hx⟩ := hx
  replace ec4 : c4 = x4 := ec4
  subst ec4
  replace hx : _ = [] := hx
  subst hx
  obtain ⟨⟨ed0, zd0⟩, hy⟩ := hy
  replace ed0 : d0 = y0 := ed0
  subst ed0
  replace zd0 : d0.size ≤ 9223372036854775807 := zd0
  obtain ⟨⟨ed1, zd1⟩, hy⟩ := hy
  replace ed1 : d1 = y1 := ed1
  subst ed1
  replace zd1 : d1.size ≤ 9223372036854775807 := zd1
  obtain ⟨ed2, hy⟩ := hy
  replace ed2 : d2 = y2 := ed2
  subst ed2
  obtain ⟨g3, gr3, ed3, sd3, hy⟩ := hy
  subst ed3
  replace sd3 : LR rI _ d3 y3 g3 := sd3
  obtain ⟨ed4, hy⟩ := hy
  replace ed4 : d4 = y4 := ed4
  subst ed4
  replace hy : _ = [] := hy
  subst hy
  refine CallX.of_fits Try.mix (fI_rateSame _ _) fun _ => ?_
  simp only [tI_rateSame, T.wp]
  refine ⟨fun h0 => ?_, fun h => ⟨by trivial, false, rfl, ⟨(fun h => by cases h), (fun e => by cases e; simp at h)⟩⟩⟩
  refine ⟨fun h1 => ?_, fun h => ⟨by trivial, false, rfl, ⟨(fun h => by cases h), (fun e => by cases e; simp at h)⟩⟩⟩
  refine (cI_decSame _ _ _ _ _ _ _ (rBool.mk (rSl.mk sc3 (rInt.mk rNil.mk))) (rBool.mk (rSl.mk sd3 (rInt.mk rNil.mk)))).mono ?_
  rintro V2 r ⟨rfl, b2, rfl, hb2⟩
  refine ⟨nofun, b2, rfl, by trivial, b2, rfl, ⟨fun h2 => ?_, fun e => by cases e; exact hb2.2 rfl⟩⟩
  have q0 : c0 = d0 := text_eq.1 h0
  subst q0
  have q1 : c1 = d1 := text_eq.1 h1
  subst q1
  have q2 : (c2, x3, c4, ()) = (d2, y3, d4, ()) := hb2.1 h2
  cases q2
  rfl
theorem cX_EqualFunc_Acct : EqSC Try.prog gX_EqualFunc_Acct rAcct [.func (.func gI_BookSame_1) #[] #[]] := fun _ s s' _ _ _ _ h h' => CallX.of_fits Try.mix (fX_EqualFunc_Acct s s') fun _ => tEqF_wp (g := gI_BookSame_1) rfl cI_BookSame_1 h h'
theorem cX_EqualFunc_Rest : EqSC Try.prog gX_EqualFunc_Rest rRest [.func (.func gI_RestsSame_1) #[] #[]] := fun _ s s' _ _ _ _ h h' => CallX.of_fits Try.mix (fX_EqualFunc_Rest s s') fun _ => tEqF_wp (g := gI_RestsSame_1) rfl cI_RestsSame_1 h h'
theorem cX_EqualFunc_Rate : EqSC Try.prog gX_EqualFunc_Rate rRate [.func (.func gI_rateSame) #[] #[]] := fun _ s s' _ _ _ _ h h' => CallX.of_fits Try.mix (fX_EqualFunc_Rate s s') fun _ => tEqF_wp (g := gI_rateSame) rfl cI_rateSame h h'
theorem cI_BookSame : EqC Try.prog gI_BookSame rBook := by
  rintro V ⟨c0, cu⟩ ⟨d0, du⟩ ⟨x0, xu⟩ ⟨y0, yu⟩ f f' hx hy
  obtain ⟨f0, fr0, ec0, sc0, hx⟩ := hx
  subst ec0
  replace sc0 : LR rAcct _ c0 x0 f0 := sc0
  replace hx : _ = [] := hx
  subst hx
  obtain ⟨g0, gr0, ed0, sd0, hy⟩ := hy
  subst ed0
  replace sd0 : LR rAcct _ d0 y0 g0 := sd0
  replace hy : _ = [] := hy
  subst hy
  refine CallX.of_fits Try.mix (fI_BookSame _ _) fun _ => ?_
  simp only [tI_BookSame, T.wp]
  refine (cX_EqualFunc_Acct _ _ _ _ _ _ _ sc0 sd0).mono ?_
  rintro V0 r ⟨rfl, b0, rfl, hb0⟩
  refine ⟨nofun, b0, rfl, by trivial, b0, rfl, ⟨fun h0 => ?_, fun e => by cases e; exact hb0.2 rfl⟩⟩
  have q0 : x0 = y0 := hb0.1 h0
  cases q0
  rfl
theorem cI_RestsSame : EqSC Try.prog gI_RestsSame rRest := by
  intro V s s' l l' f f' h h'
  refine CallX.of_fits Try.mix (fI_RestsSame _ _) fun _ => ?_
  simp only [tI_RestsSame, T.wp]
  refine (cX_EqualFunc_Rest V s s' l l' f f' h h').mono ?_
  rintro V' r ⟨rfl, b, rfl, hb⟩
  exact ⟨nofun, b, rfl, rfl, b, rfl, hb⟩
theorem cI_LedgerSame : EqC Try.prog gI_LedgerSame rLedger := by
  rintro V ⟨c0, c1, c2, c3, cu⟩ ⟨d0, d1, d2, d3, du⟩ ⟨x0, x1, x2, x3, xu⟩ ⟨y0, y1, y2, y3, yu⟩ f f' hx hy
  obtain ⟨f0, fr0, ec0, sc0, hx⟩ := hx
  subst ec0
  replace sc0 : LR rAcct _ c0 x0 f0 := sc0
  obtain ⟨f1, fr1, ec1, sc1, hx⟩ := hx
  subst ec1
  replace sc1 : LR rRest _ c1 x1 f1 := sc1
  obtain ⟨⟨ec2, zc2⟩, hx⟩ := hx
  replace ec2 : c2 = x2 := ec2
  subst ec2
  replace zc2 : c2.size ≤ 9223372036854775807 := zc2
  obtain ⟨f3, fr3, ec3, sc3, hx⟩ := hx
  subst ec3
  replace sc3 : LR rRate _ c3 x3 f3 := sc3
  replace hx : _ = [] := hx
  subst hx
  obtain ⟨g0, gr0, ed0, sd0, hy⟩ := hy
  subst ed0
  replace sd0 : LR rAcct _ d0 y0 g0 := sd0
  obtain ⟨g1, gr1, ed1, sd1, hy⟩ := hy
  subst ed1
  replace sd1 : LR rRest _ d1 y1 g1 := sd1
  obtain ⟨⟨ed2, zd2⟩, hy⟩ := hy
  replace ed2 : d2 = y2 := ed2
  subst ed2
  replace zd2 : d2.size ≤ 9223372036854775807 := zd2
  obtain ⟨g3, gr3, ed3, sd3, hy⟩ := hy
  subst ed3
  replace sd3 : LR rRate _ d3 y3 g3 := sd3
  replace hy : _ = [] := hy
  subst hy
  refine CallX.of_fits Try.mix (fI_LedgerSame _ _) fun _ => ?_
  simp only [tI_LedgerSame, T.wp]
  refine (cI_BookSame _ _ _ _ _ _ _ (rSl.mk sc0 rNil.mk) (rSl.mk sd0 rNil.mk)).mono ?_
  rintro V0 r ⟨rfl, b0, rfl, hb0⟩
  refine ⟨nofun, b0, rfl, fun h0 => ?_, fun h => ⟨by trivial, false, rfl, ⟨(fun h => by cases h), (fun e => by cases e; simp [hb0.2 rfl] at h)⟩⟩⟩
  refine (cI_RestsSame _ _ _ _ _ _ _ sc1 sd1).mono ?_
  rintro V1 r ⟨rfl, b1, rfl, hb1⟩
  refine ⟨nofun, b1, rfl, fun h1 => ?_, fun h => ⟨by trivial, false, rfl, ⟨(fun h => by cases h), (fun e => by cases e; simp [hb1.2 rfl] at h)⟩⟩⟩
  refine ⟨fun h2 => ?_, fun h => ⟨by trivial, false, rfl, ⟨(fun h => by cases h), (fun e => by cases e; simp at h)⟩⟩⟩
  refine (cX_EqualFunc_Rate _ _ _ _ _ _ _ sc3 sd3).mono ?_
  rintro V3 r ⟨rfl, b3, rfl, hb3⟩
  refine ⟨nofun, b3, rfl, by trivial, b3, rfl, ⟨fun h3 => ?_, fun e => by cases e; exact hb3.2 rfl⟩⟩
  have q0 : (x0, ()) = (y0, ()) := hb0.1 h0
  cases q0
  have q1 : x1 = y1 := hb1.1 h1
  cases q1
  have q2 : c2 = d2 := text_eq.1 h2
  subst q2
  have q3 : x3 = y3 := hb3.1 h3
  cases q3
  rfl

theorem cS_BookSame : EqC Try.prog gS_BookSame rBook := by
  rintro V ⟨c0, cu⟩ ⟨d0, du⟩ ⟨x0, xu⟩ ⟨y0, yu⟩ f f' hx hy
  obtain ⟨f0, fr0, ec0, sc0, hx⟩ := hx
  subst ec0
  replace sc0 : LR rAcct _ c0 x0 f0 := sc0
  replace hx : _ = [] := hx
  subst hx
  obtain ⟨g0, gr0, ed0, sd0, hy⟩ := hy
  subst ed0
  replace sd0 : LR rAcct _ d0 y0 g0 := sd0
  replace hy : _ = [] := hy
  subst hy
  have hp : ((x0, xu) : DBook) = (y0, yu) ↔ x0 = y0 := by simp
  rw [hp]
  refine CallX.of_fits Try.mix (fS_BookSame _ _) fun _ => ?_
  refine tEq_wp sc0.1 sd0.1 sc0.2.2.1 fun i hi hi' K N hK hN => ?_
  obtain ⟨b1, o1, p1, k1, a1, l1, r1, _⟩ := sc0.at hi
  obtain ⟨b2, o2, p2, k2, a2, l2, r2, _⟩ := sd0.part hi'
  have hn1 := sc0.1
  have hn2 := sd0.1
  generalize hX : x0[i] = X at hK hN r1
  generalize hY : y0[i] = Y at hK hN r2
  obtain ⟨q0, q1, q2, q3, qu⟩ := p1
  obtain ⟨w0, w1, w2, w3, wu⟩ := p2
  obtain ⟨X0, X1, X2, X3, Xu⟩ := X
  obtain ⟨Y0, Y1, Y2, Y3, Yu⟩ := Y
  have l20 := l2 0 1 [.string w0] rfl
  have l21 := l2 1 3 [.string w1, .bool w2, .slice w3.a w3.n w3.c] rfl
  obtain ⟨⟨eq0, zq0⟩, r1⟩ := r1
  replace eq0 : q0 = X0 := eq0
  subst eq0
  replace zq0 : q0.size ≤ 9223372036854775807 := zq0
  obtain ⟨⟨eq1, zq1⟩, r1⟩ := r1
  replace eq1 : q1 = X1 := eq1
  subst eq1
  replace zq1 : q1.size ≤ 9223372036854775807 := zq1
  obtain ⟨eq2, r1⟩ := r1
  replace eq2 : q2 = X2 := eq2
  subst eq2
  obtain ⟨k3, kr3, eq3, sq3, r1⟩ := r1
  subst eq3
  replace sq3 : LR rI _ q3 X3 k3 := sq3
  replace r1 : _ = [] := r1
  subst r1
  obtain ⟨⟨ew0, zw0⟩, r2⟩ := r2
  replace ew0 : w0 = Y0 := ew0
  subst ew0
  replace zw0 : w0.size ≤ 9223372036854775807 := zw0
  obtain ⟨⟨ew1, zw1⟩, r2⟩ := r2
  replace ew1 : w1 = Y1 := ew1
  subst ew1
  replace zw1 : w1.size ≤ 9223372036854775807 := zw1
  obtain ⟨ew2, r2⟩ := r2
  replace ew2 : w2 = Y2 := ew2
  subst ew2
  obtain ⟨m3, mr3, ew3, sw3, r2⟩ := r2
  subst ew3
  replace sw3 : LR rI _ w3 Y3 m3 := sw3
  replace r2 : _ = [] := r2
  subst r2
  refine ⟨_, a1, by omega, (by omega : (i : Int) < (c0.n : Int)), _, l1, _, a2, by omega, (by omega : (i : Int) < (d0.n : Int)), w0, l20, fun h => hK fun e => ?_, fun h0 => ?_⟩
  · cases e; simp at h
  refine ⟨_, a2, by omega, (by omega : (i : Int) < (d0.n : Int)), (w1, w2, w3, ()), l21, (cS_MoneySame _ _ _ _ _ _ _ (rStr.mk zq1 (rBool.mk (rSl.mk sq3 rNil.mk))) (rStr.mk zw1 (rBool.mk (rSl.mk sw3 rNil.mk)))).mono ?_⟩
  rintro V' r ⟨rfl, b, rfl, hb⟩
  refine ⟨fun _ => Know.le.refl _, b, rfl, fun h => hK fun e => ?_, fun h1 => ⟨_, rfl, hN ?_⟩⟩
  · cases e; simp [hb.2 rfl] at h
  have e0 : q0 = w0 := text_eq.1 (by simpa using h0)
  subst e0
  have e1 := hb.1 (by simpa using h1)
  cases e1
  rfl

theorem cS_RestsSame : EqSC Try.prog gS_RestsSame rRest := by
  intro V s s' l l' f f' h h'
  refine CallX.of_fits Try.mix (fS_RestsSame _ _) fun _ => ?_
  refine tEq_wp h.1 h'.1 h.2.2.1 fun i hi hi' K N hK hN => ?_
  obtain ⟨b1, o1, p1, k1, a1, l1, r1, _⟩ := h.at hi
  obtain ⟨b2, o2, p2, k2, a2, l2, r2, _⟩ := h'.at hi'
  have hn1 := h.1
  have hn2 := h'.1
  generalize hX : l[i] = X at hK hN r1
  generalize hY : l'[i] = Y at hK hN r2
  obtain ⟨q0, q1, q2, q3, qu⟩ := p1
  obtain ⟨w0, w1, w2, w3, wu⟩ := p2
  obtain ⟨X0, X1, X2, X3, Xu⟩ := X
  obtain ⟨Y0, Y1, Y2, Y3, Yu⟩ := Y
  obtain ⟨⟨eq0, zq0⟩, r1⟩ := r1
  replace eq0 : q0 = X0 := eq0
  subst eq0
  replace zq0 : q0.size ≤ 9223372036854775807 := zq0
  obtain ⟨eq1, r1⟩ := r1
  replace eq1 : q1 = X1 := eq1
  subst eq1
  obtain ⟨k2, kr2, eq2, sq2, r1⟩ := r1
  subst eq2
  replace sq2 : LR rI _ q2 X2 k2 := sq2
  obtain ⟨k3, kr3, eq3, sq3, r1⟩ := r1
  subst eq3
  replace sq3 : LR rI _ q3 X3 k3 := sq3
  replace r1 : _ = [] := r1
  subst r1
  obtain ⟨⟨ew0, zw0⟩, r2⟩ := r2
  replace ew0 : w0 = Y0 := ew0
  subst ew0
  replace zw0 : w0.size ≤ 9223372036854775807 := zw0
  obtain ⟨ew1, r2⟩ := r2
  replace ew1 : w1 = Y1 := ew1
  subst ew1
  obtain ⟨m2, mr2, ew2, sw2, r2⟩ := r2
  subst ew2
  replace sw2 : LR rI _ w2 Y2 m2 := sw2
  obtain ⟨m3, mr3, ew3, sw3, r2⟩ := r2
  subst ew3
  replace sw3 : LR rI _ w3 Y3 m3 := sw3
  replace r2 : _ = [] := r2
  subst r2
  refine ⟨_, a1, by omega, (by omega : (i : Int) < (s.n : Int)), _, l1, _, a2, by omega, (by omega : (i : Int) < (s'.n : Int)), _, l2, fun h => hK fun e => ?_, fun h0 => ?_⟩
  · cases e; simp at h
  refine (cS_l09Same _ _ _ _ _ _ _ (rBool.mk (rSl.mk sq2 rNil.mk)) (rBool.mk (rSl.mk sw2 rNil.mk))).mono ?_
  rintro V1 r ⟨rfl, b, rfl, hb⟩
  refine ⟨nofun, b, rfl, fun h => hK fun e => ?_, fun h1 => ?_⟩
  · cases e; simp [hb.2 rfl] at h
  refine (cS_l02Cmp _ _ _ _ _ _ _ sq3 sw3).mono ?_
  rintro V1 r ⟨rfl, rfl⟩
  refine ⟨nofun, _, rfl, fun h => hK fun e => ?_, fun h2 => ⟨_, rfl, hN ?_⟩⟩
  · cases e; simp [cmpL_zero.2 rfl] at h
  have e0 : q0 = w0 := text_eq.1 (by simpa using h0)
  subst e0
  have e1 := hb.1 (by simpa using h1)
  cases e1
  have e2 : X3 = Y3 := cmpL_zero.1 (by simpa using h2)
  cases e2
  rfl

theorem cS_LedgerSame : EqC Try.prog gS_LedgerSame rLedger := by
  rintro V ⟨c0, c1, c2, c3, cu⟩ ⟨d0, d1, d2, d3, du⟩ ⟨x0, x1, x2, x3, xu⟩ ⟨y0, y1, y2, y3, yu⟩ f f' hx hy
  obtain ⟨f0, fr0, ec0, sc0, hx⟩ := hx
  subst ec0
  replace sc0 : LR rAcct _ c0 x0 f0 := sc0
  obtain ⟨f1, fr1, ec1, sc1, hx⟩ := hx
  subst ec1
  replace sc1 : LR rRest _ c1 x1 f1 := sc1
  obtain ⟨⟨ec2, zc2⟩, hx⟩ := hx
  replace ec2 : c2 = x2 := ec2
  subst ec2
  replace zc2 : c2.size ≤ 9223372036854775807 := zc2
  obtain ⟨f3, fr3, ec3, sc3, hx⟩ := hx
  subst ec3
  replace sc3 : LR rRate _ c3 x3 f3 := sc3
  replace hx : _ = [] := hx
  subst hx
  obtain ⟨g0, gr0, ed0, sd0, hy⟩ := hy
  subst ed0
  replace sd0 : LR rAcct _ d0 y0 g0 := sd0
  obtain ⟨g1, gr1, ed1, sd1, hy⟩ := hy
  subst ed1
  replace sd1 : LR rRest _ d1 y1 g1 := sd1
  obtain ⟨⟨ed2, zd2⟩, hy⟩ := hy
  replace ed2 : d2 = y2 := ed2
  subst ed2
  replace zd2 : d2.size ≤ 9223372036854775807 := zd2
  obtain ⟨g3, gr3, ed3, sd3, hy⟩ := hy
  subst ed3
  replace sd3 : LR rRate _ d3 y3 g3 := sd3
  replace hy : _ = [] := hy
  subst hy
  refine CallX.of_fits Try.mix (fS_LedgerSame _ _) fun _ => ?_
  unfold tS_LedgerSame
  refine (cS_BookSame _ _ _ _ _ _ _ (rSl.mk sc0 rNil.mk) (rSl.mk sd0 rNil.mk)).mono ?_
  rintro V0 r ⟨rfl, b0, rfl, hb0⟩
  refine ⟨nofun, b0, rfl, fun h => ⟨rfl, false, rfl, ⟨(fun h => by cases h), (fun e => by cases e; simp [hb0.2 rfl] at h)⟩⟩, fun h0 => ?_⟩
  refine (cS_RestsSame _ _ _ _ _ _ _ sc1 sd1).mono ?_
  rintro V0 r ⟨rfl, b1, rfl, hb1⟩
  refine ⟨nofun, b1, rfl, fun h => ⟨rfl, false, rfl, ⟨(fun h => by cases h), (fun e => by cases e; simp [hb1.2 rfl] at h)⟩⟩, fun h1 => ?_⟩
  refine ⟨fun h => ⟨rfl, false, rfl, ⟨(fun h => by cases h), (fun e => by cases e; simp at h)⟩⟩, fun h2 => ?_⟩
  have q0 := hb0.1 (by simpa using h0)
  cases q0
  have q1 := hb1.1 (by simpa using h1)
  cases q1
  have q2 : c2 = d2 := text_eq.1 (by simpa using h2)
  subst q2
  have hp : ((x0, x1, c2, x3, xu) : DLedger) = (x0, x1, c2, y3, yu) ↔ x3 = y3 := by simp
  rw [hp]
  refine tEq_wp sc3.1 sd3.1 sc3.2.2.1 fun i hi hi' K N hK hN => ?_
  obtain ⟨b1, o1, p1, k1, a1, l1, r1, _⟩ := sc3.at hi
  obtain ⟨b2, o2, p2, k2, a2, l2, r2, _⟩ := sd3.at hi'
  have hn1 := sc3.1
  have hn2 := sd3.1
  generalize hX : x3[i] = X at hK hN r1
  generalize hY : y3[i] = Y at hK hN r2
  obtain ⟨q0, q1, q2, q3, q4, qu⟩ := p1
  obtain ⟨w0, w1, w2, w3, w4, wu⟩ := p2
  obtain ⟨X0, X1, X2, X3, X4, Xu⟩ := X
  obtain ⟨Y0, Y1, Y2, Y3, Y4, Yu⟩ := Y
  obtain ⟨⟨eq0, zq0⟩, r1⟩ := r1
  replace eq0 : q0 = X0 := eq0
  subst eq0
  replace zq0 : q0.size ≤ 9223372036854775807 := zq0
  obtain ⟨⟨eq1, zq1⟩, r1⟩ := r1
  replace eq1 : q1 = X1 := eq1
  subst eq1
  replace zq1 : q1.size ≤ 9223372036854775807 := zq1
  obtain ⟨eq2, r1⟩ := r1
  replace eq2 : q2 = X2 := eq2
  subst eq2
  obtain ⟨k3, kr3, eq3, sq3, r1⟩ := r1
  subst eq3
  replace sq3 : LR rI _ q3 X3 k3 := sq3
  obtain ⟨eq4, r1⟩ := r1
  replace eq4 : q4 = X4 := eq4
  subst eq4
  replace r1 : _ = [] := r1
  subst r1
  obtain ⟨⟨ew0, zw0⟩, r2⟩ := r2
  replace ew0 : w0 = Y0 := ew0
  subst ew0
  replace zw0 : w0.size ≤ 9223372036854775807 := zw0
  obtain ⟨⟨ew1, zw1⟩, r2⟩ := r2
  replace ew1 : w1 = Y1 := ew1
  subst ew1
  replace zw1 : w1.size ≤ 9223372036854775807 := zw1
  obtain ⟨ew2, r2⟩ := r2
  replace ew2 : w2 = Y2 := ew2
  subst ew2
  obtain ⟨m3, mr3, ew3, sw3, r2⟩ := r2
  subst ew3
  replace sw3 : LR rI _ w3 Y3 m3 := sw3
  obtain ⟨ew4, r2⟩ := r2
  replace ew4 : w4 = Y4 := ew4
  subst ew4
  replace r2 : _ = [] := r2
  subst r2
  refine ⟨_, a1, by omega, (by omega : (i : Int) < (c3.n : Int)), _, l1, _, a2, by omega, (by omega : (i : Int) < (d3.n : Int)), _, l2, fun h => hK fun e => ?_, fun h0 => ?_⟩
  · cases e; simp at h
  refine ⟨fun h => hK fun e => ?_, fun h1 => ?_⟩
  · cases e; simp at h
  refine ⟨fun h => hK fun e => ?_, fun h2 => ?_⟩
  · cases e; simp at h
  refine (cS_l09Same _ _ _ _ _ _ _ (rBool.mk (rSl.mk sq3 rNil.mk)) (rBool.mk (rSl.mk sw3 rNil.mk))).mono ?_
  rintro V1 r ⟨rfl, b, rfl, hb⟩
  refine ⟨nofun, b, rfl, fun h => hK fun e => ?_, fun h3 => ⟨_, rfl, hN ?_⟩⟩
  · cases e; simp [hb.2 rfl] at h
  have e0 : q0 = w0 := text_eq.1 (by simpa using h0)
  subst e0
  have e1 : q1 = w1 := text_eq.1 (by simpa using h1)
  subst e1
  have e2 : q4 = w4 := by simpa using h2
  subst e2
  have e3 := hb.1 (by simpa using h3)
  cases e3
  rfl
end Go.Proofs.Ytagimdcegmpbmaa
