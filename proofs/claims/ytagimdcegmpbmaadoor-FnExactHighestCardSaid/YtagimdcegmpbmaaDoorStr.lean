/-
  Contracts of the laws' helpers, by type: sizes, copies, comparisons.
-/
import Derived.Test.YtagimdcegmpbmaaDoorLoop
import Derived.Test.YtagimdcegmpbmaaDoorCur
namespace Go.Proofs.YtagimdcegmpbmaaDoor
open Sx
set_option maxRecDepth 100000

theorem rNil.mk {V : Know} : rNil.R V () () [] := rfl
theorem rInt.mk {sh : List Sc} {α : Type} {r : Rp sh α} {V : Know} {c : Scs sh} {x : α} {fp : List Nat} {n : Int} (h : r.R V c x fp) : (rInt r).R V (n, c) (n, x) fp := ⟨rfl, h⟩
theorem rBool.mk {sh : List Sc} {α : Type} {r : Rp sh α} {V : Know} {c : Scs sh} {x : α} {fp : List Nat} {n : Bool} (h : r.R V c x fp) : (rBool r).R V (n, c) (n, x) fp := ⟨rfl, h⟩
theorem rStr.mk {sh : List Sc} {α : Type} {r : Rp sh α} {V : Know} {c : Scs sh} {x : α} {fp : List Nat} {n : ByteArray} (z : n.size ≤ 9223372036854775807) (h : r.R V c x fp) : (rStr r).R V (n, c) (n, x) fp := ⟨⟨rfl, z⟩, h⟩
theorem rSl.mk {se sh : List Sc} {α β : Type} {e : Rp se α} {r : Rp sh β} {V : Know} {s : SlV} {l : List α} {c : Scs sh} {x : β} {f g : List Nat} (hs : LR e V s l f) (h : r.R V c x g) : (rSl e r).R V (s, c) (l, x) (f ++ g) := ⟨f, g, rfl, hs, h⟩
theorem szr_no {t : Nat} {left : Int} (h : ¬ (t : Int) ≤ left) : szr t left = -1 := if_neg h
abbrev DSigned : Type := Bool × List (Int × Unit) × Unit
abbrev rSigned : Rp [.b, .l] DSigned := rBool (rSl rI (rNil))
abbrev DMoney : Type := ByteArray × Bool × List (Int × Unit) × Unit
abbrev rMoney : Rp [.s, .b, .l] DMoney := rStr (rBool (rSl rI (rNil)))
theorem cL_eqIntS : EqSC Tryd.prog gL_eqIntS rI := fun _ s s' _ _ _ _ h h' => CallX.of_fits Tryd.mix (fL_eqIntS s s') fun _ => tEqI_wp h h'
theorem totE_rI : ∀ l : List (Int × Unit), totE rI l = 0
  | [] => rfl
  | _ :: l => by rw [totE, totE_rI l]; rfl
theorem cL_szIntS : SzSC Tryd.prog gL_szIntS rI := by
  intro V s l f left h h0 h1
  refine CallX.of_fits Tryd.mix (fL_szIntS _ _) fun _ => ?_
  simp only [tL_szIntS, T.wp]
  have hn := h.1
  have hb := h.2.2.1
  have hw : IntKind.i64.wrap (left - (s.n : Int)) = left - (s.n : Int) := wrap_i64 (by omega)
  rw [hw, totE_rI]
  refine ⟨fun h => ⟨by trivial, ?_⟩, fun h => ⟨by trivial, ?_⟩⟩
  · have hh : left - (s.n : Int) < 0 := by simpa using h
    rw [szr_no (by omega)]; rfl
  · have hh : ¬ left - (s.n : Int) < 0 := by simpa using h
    rw [szr_ge (by omega), hn]; rfl
theorem cL_toIntS : ToSC Tryd.prog gL_toIntS rI := fun _ s _ _ h ht => CallX.of_fits Tryd.mix (fL_toIntS s) fun _ => tToI_wp h ht
/-! Signed -/
theorem cL_szSigned : SzC Tryd.prog gL_szSigned rSigned := by
  rintro V ⟨c0, c1, cu⟩ ⟨x0, x1, xu⟩ f left hx h0 h1
  obtain ⟨ec0, hx⟩ := hx
  replace ec0 : c0 = x0 := ec0
  subst ec0
  obtain ⟨f1, fr1, ec1, sc1, hx⟩ := hx
  subst ec1
  replace sc1 : LR rI _ c1 x1 f1 := sc1
  replace hx : _ = [] := hx
  subst hx
  refine CallX.of_fits Tryd.mix (fL_szSigned _ _) fun _ => ?_
  simp only [tL_szSigned, T.wp]
  refine (cL_szIntS _ _ _ _ left sc1 (by omega) (by omega)).mono ?_
  rintro V1 r ⟨rfl, rfl⟩
  have t1 : (x1.length + totE rI x1) = (x1.length + totE rI x1) := rfl
  refine ⟨nofun, szr ((x1.length + totE rI x1)) left, rfl, fun h => ?_, fun h1 => ?_⟩
  · have hh := szr_lt.1 (of_decide_eq_true h)
    exact ⟨by trivial, by show Value.int .i64 (-1) = Value.int .i64 (szr ((x1.length + totE rI x1 + 0)) left); rw [szr_no (by omega)]⟩
  have hp1 : (((x1.length + totE rI x1) : Nat) : Int) ≤ left := Decidable.not_not.1 fun k => (of_decide_eq_false h1) (szr_lt.2 k)
  rw [szr_ge hp1]
  refine ⟨by trivial, ?_⟩
  show Value.int .i64 (left - (((x1.length + totE rI x1) : Nat) : Int)) = Value.int .i64 (szr ((x1.length + totE rI x1 + 0)) left)
  rw [szr_ge (by omega)]
  congr 1 <;> omega
theorem cL_toSigned : ToC Tryd.prog gL_toSigned rSigned := by
  rintro V ⟨c0, c1, cu⟩ ⟨x0, x1, xu⟩ f hx ht
  obtain ⟨ec0, hx⟩ := hx
  replace ec0 : c0 = x0 := ec0
  subst ec0
  obtain ⟨f1, fr1, ec1, sc1, hx⟩ := hx
  subst ec1
  replace sc1 : LR rI _ c1 x1 f1 := sc1
  replace hx : _ = [] := hx
  subst hx
  replace ht : (x1.length + totE rI x1 + 0) ≤ 1048576 := ht
  refine CallX.of_fits Tryd.mix (fL_toSigned _) fun _ => ?_
  simp only [tL_toSigned, T.wp]
  refine (cL_toIntS _ _ x1 _ sc1 (by omega)).mono ?_
  rintro V1 r ⟨hle1, d1, k1, rfl, sd1, ho1⟩
  refine ⟨nofun, d1, rfl, ?_⟩
  exact ⟨hle1, (c0, d1, ()), _, rfl, (rBool.mk (rSl.mk sd1 rNil.mk)), by simpa using ho1⟩
theorem cL_eqSigned : EqC Tryd.prog gL_eqSigned rSigned := by
  rintro V ⟨c0, c1, cu⟩ ⟨d0, d1, du⟩ ⟨x0, x1, xu⟩ ⟨y0, y1, yu⟩ f f' hx hy
  obtain ⟨ec0, hx⟩ := hx
  replace ec0 : c0 = x0 := ec0
  subst ec0
  obtain ⟨f1, fr1, ec1, sc1, hx⟩ := hx
  subst ec1
  replace sc1 : LR rI _ c1 x1 f1 := sc1
  replace hx : _ = [] := hx
  subst hx
  obtain ⟨ed0, hy⟩ := hy
  replace ed0 : d0 = y0 := ed0
  subst ed0
  obtain ⟨g1, gr1, ed1, sd1, hy⟩ := hy
  subst ed1
  replace sd1 : LR rI _ d1 y1 g1 := sd1
  replace hy : _ = [] := hy
  subst hy
  refine CallX.of_fits Tryd.mix (fL_eqSigned _ _) fun _ => ?_
  simp only [tL_eqSigned, T.wp]
  refine ⟨fun h => ⟨by trivial, false, rfl, ⟨(fun h => by cases h), (fun e => by cases e; simp at h)⟩⟩, fun h0 => ?_⟩
  refine (cL_eqIntS _ _ _ _ _ _ _ sc1 sd1).mono ?_
  rintro V1 r ⟨rfl, b1, rfl, hb1⟩
  refine ⟨nofun, b1, rfl, fun h => ⟨by trivial, false, rfl, ⟨(fun h => by cases h), (fun e => by cases e; simp [hb1.2 rfl] at h)⟩⟩, fun h1 => ?_⟩
  refine ⟨by trivial, true, rfl, ⟨fun _ => ?_, fun _ => rfl⟩⟩
  have q0 : c0 = d0 := by simpa using h0
  subst q0
  have q1 : x1 = y1 := hb1.1 (by simpa using h1)
  cases q1
  rfl
/-! Money -/
theorem cL_szMoney : SzC Tryd.prog gL_szMoney rMoney := by
  rintro V ⟨c0, c1, c2, cu⟩ ⟨x0, x1, x2, xu⟩ f left hx h0 h1
  obtain ⟨⟨ec0, zc0⟩, hx⟩ := hx
  replace ec0 : c0 = x0 := ec0
  subst ec0
  replace zc0 : c0.size ≤ 9223372036854775807 := zc0
  obtain ⟨ec1, hx⟩ := hx
  replace ec1 : c1 = x1 := ec1
  subst ec1
  obtain ⟨f2, fr2, ec2, sc2, hx⟩ := hx
  subst ec2
  replace sc2 : LR rI _ c2 x2 f2 := sc2
  replace hx : _ = [] := hx
  subst hx
  refine CallX.of_fits Tryd.mix (fL_szMoney _ _) fun _ => ?_
  simp only [tL_szMoney, T.wp]
  have w0 : IntKind.i64.wrap (left - (c0.size : Int)) = left - (c0.size : Int) := wrap_i64 (by omega)
  rw [w0]
  refine ⟨fun h => ?_, fun h0 => ?_⟩
  · have hh : (left - (c0.size : Int)) < 0 := by simpa using h
    exact ⟨by trivial, by show Value.int .i64 (-1) = Value.int .i64 (szr ((c0.size + (x2.length + totE rI x2 + 0))) left); rw [szr_no (by omega)]⟩
  have hh0 : 0 ≤ (left - (c0.size : Int)) := by
    have : ¬ (left - (c0.size : Int)) < 0 := by simpa using h0
    omega
  refine (cL_szSigned _ _ (c1, x2, ()) _ (left - (c0.size : Int)) (rBool.mk (rSl.mk sc2 rNil.mk)) (by omega) (by omega)).mono ?_
  rintro V1 r ⟨rfl, rfl⟩
  have t1 : rSigned.tot (c1, x2, ()) = (x2.length + totE rI x2 + 0) := rfl
  refine ⟨nofun, szr (rSigned.tot (c1, x2, ())) (left - (c0.size : Int)), rfl, fun h => ?_, fun h1 => ?_⟩
  · have hh := szr_lt.1 (of_decide_eq_true h)
    exact ⟨by trivial, by show Value.int .i64 (-1) = Value.int .i64 (szr ((c0.size + (x2.length + totE rI x2 + 0))) left); rw [szr_no (by omega)]⟩
  have hp1 : ((rSigned.tot (c1, x2, ()) : Nat) : Int) ≤ (left - (c0.size : Int)) := Decidable.not_not.1 fun k => (of_decide_eq_false h1) (szr_lt.2 k)
  rw [szr_ge hp1]
  refine ⟨by trivial, ?_⟩
  show Value.int .i64 ((left - (c0.size : Int)) - ((rSigned.tot (c1, x2, ()) : Nat) : Int)) = Value.int .i64 (szr ((c0.size + (x2.length + totE rI x2 + 0))) left)
  rw [szr_ge (by omega)]
  congr 1 <;> omega
theorem cL_toMoney : ToC Tryd.prog gL_toMoney rMoney := by
  rintro V ⟨c0, c1, c2, cu⟩ ⟨x0, x1, x2, xu⟩ f hx ht
  obtain ⟨⟨ec0, zc0⟩, hx⟩ := hx
  replace ec0 : c0 = x0 := ec0
  subst ec0
  replace zc0 : c0.size ≤ 9223372036854775807 := zc0
  obtain ⟨ec1, hx⟩ := hx
  replace ec1 : c1 = x1 := ec1
  subst ec1
  obtain ⟨f2, fr2, ec2, sc2, hx⟩ := hx
  subst ec2
  replace sc2 : LR rI _ c2 x2 f2 := sc2
  replace hx : _ = [] := hx
  subst hx
  replace ht : (c0.size + (x2.length + totE rI x2 + 0)) ≤ 1048576 := ht
  refine CallX.of_fits Tryd.mix (fL_toMoney _) fun _ => ?_
  simp only [tL_toMoney, T.wp]
  refine (cL_toSigned _ _ (c1, x2, ()) _ (rBool.mk (rSl.mk sc2 rNil.mk)) (by show (x2.length + totE rI x2 + 0) ≤ 1048576; omega)).mono ?_
  rintro V1 r ⟨hle1, ⟨d1, d2, du1⟩, k1, rfl, hr1, ho1⟩
  obtain ⟨ed1, hr1⟩ := hr1
  replace ed1 : d1 = c1 := ed1
  subst ed1
  obtain ⟨k1f2, k1r2, ed2, sd2, hr1⟩ := hr1
  subst ed2
  replace sd2 : LR rI _ d2 x2 k1f2 := sd2
  replace hr1 : _ = [] := hr1
  subst hr1
  refine ⟨nofun, (d1, d2, ()), rfl, ?_⟩
  exact ⟨hle1, (c0, d1, d2, ()), _, rfl, (rStr.mk zc0 (rBool.mk (rSl.mk sd2 rNil.mk))), by simpa using ho1⟩
theorem cL_eqMoney : EqC Tryd.prog gL_eqMoney rMoney := by
  rintro V ⟨c0, c1, c2, cu⟩ ⟨d0, d1, d2, du⟩ ⟨x0, x1, x2, xu⟩ ⟨y0, y1, y2, yu⟩ f f' hx hy
  obtain ⟨⟨ec0, zc0⟩, hx⟩ := hx
  replace ec0 : c0 = x0 := ec0
  subst ec0
  replace zc0 : c0.size ≤ 9223372036854775807 := zc0
  obtain ⟨ec1, hx⟩ := hx
  replace ec1 : c1 = x1 := ec1
  subst ec1
  obtain ⟨f2, fr2, ec2, sc2, hx⟩ := hx
  subst ec2
  replace sc2 : LR rI _ c2 x2 f2 := sc2
  replace hx : _ = [] := hx
  subst hx
  obtain ⟨⟨ed0, zd0⟩, hy⟩ := hy
  replace ed0 : d0 = y0 := ed0
  subst ed0
  replace zd0 : d0.size ≤ 9223372036854775807 := zd0
  obtain ⟨ed1, hy⟩ := hy
  replace ed1 : d1 = y1 := ed1
  subst ed1
  obtain ⟨g2, gr2, ed2, sd2, hy⟩ := hy
  subst ed2
  replace sd2 : LR rI _ d2 y2 g2 := sd2
  replace hy : _ = [] := hy
  subst hy
  refine CallX.of_fits Tryd.mix (fL_eqMoney _ _) fun _ => ?_
  simp only [tL_eqMoney, T.wp]
  refine ⟨fun h => ⟨by trivial, false, rfl, ⟨(fun h => by cases h), (fun e => by cases e; simp at h)⟩⟩, fun h0 => ?_⟩
  refine (cL_eqSigned _ _ _ _ _ _ _ (rBool.mk (rSl.mk sc2 rNil.mk)) (rBool.mk (rSl.mk sd2 rNil.mk))).mono ?_
  rintro V1 r ⟨rfl, b1, rfl, hb1⟩
  refine ⟨nofun, b1, rfl, fun h => ⟨by trivial, false, rfl, ⟨(fun h => by cases h), (fun e => by cases e; simp [hb1.2 rfl] at h)⟩⟩, fun h1 => ?_⟩
  refine ⟨by trivial, true, rfl, ⟨fun _ => ?_, fun _ => rfl⟩⟩
  have q0 : c0 = d0 := text_eq.1 (by simpa using h0)
  subst q0
  have q1 : (c1, x2, ()) = (d1, y2, ()) := hb1.1 (by simpa using h1)
  cases q1
  rfl
theorem cL_eqMoneyS : EqSC Tryd.prog gL_eqMoneyS rMoney := fun _ s s' _ _ _ _ h h' => CallX.of_fits Tryd.mix (fL_eqMoneyS s s') fun _ => tEqS_wp (g := gL_eqMoney) rfl cL_eqMoney h h'
theorem cL_szMoneyS : SzSC Tryd.prog gL_szMoneyS rMoney := fun _ s _ _ left h h0 h1 => CallX.of_fits Tryd.mix (fL_szMoneyS s left) fun _ => tSzS_wp (g := gL_szMoney) rfl cL_szMoney h h0 h1
theorem cL_toMoneyS : ToSC Tryd.prog gL_toMoneyS rMoney := fun _ s _ _ h ht => CallX.of_fits Tryd.mix (fL_toMoneyS s) fun _ => tToS_wp (g := gL_toMoney) rfl (by omega) cL_toMoney h ht
end Go.Proofs.YtagimdcegmpbmaaDoor
