/-
  Contracts of the laws' helpers, by type: sizes, copies, comparisons.
-/
import Derived.Test.YtfbnocogljmpdaaGreatDoorLoop
import Derived.Test.YtfbnocogljmpdaaGreatDoorCur
import Derived.Test.YtfbnocogljmpdaaGreatDoorLoopT
namespace Go.Proofs.YtfbnocogljmpdaaGreatDoor
open Sx
set_option maxRecDepth 100000

theorem rNil.mk {V : Know} : rNil.R V () () [] := rfl
theorem rInt.mk {sh : List Sc} {α : Type} {r : Rp sh α} {V : Know} {c : Scs sh} {x : α} {fp : List Nat} {n : Int} (h : r.R V c x fp) : (rInt r).R V (n, c) (n, x) fp := ⟨rfl, h⟩
theorem rBool.mk {sh : List Sc} {α : Type} {r : Rp sh α} {V : Know} {c : Scs sh} {x : α} {fp : List Nat} {n : Bool} (h : r.R V c x fp) : (rBool r).R V (n, c) (n, x) fp := ⟨rfl, h⟩
theorem rStr.mk {sh : List Sc} {α : Type} {r : Rp sh α} {V : Know} {c : Scs sh} {x : α} {fp : List Nat} {n : ByteArray} (z : n.size ≤ 9223372036854775807) (h : r.R V c x fp) : (rStr r).R V (n, c) (n, x) fp := ⟨⟨rfl, z⟩, h⟩
theorem rSl.mk {se sh : List Sc} {α β : Type} {e : Rp se α} {r : Rp sh β} {V : Know} {s : SlV} {l : List α} {c : Scs sh} {x : β} {f g : List Nat} (hs : LR e V s l f) (h : r.R V c x g) : (rSl e r).R V (s, c) (l, x) (f ++ g) := ⟨f, g, rfl, hs, h⟩
theorem szr_no {t : Nat} {left : Int} (h : ¬ (t : Int) ≤ left) : szr t left = -1 := if_neg h
abbrev DSigned : Type := Bool × List (Int × Unit) × Unit
abbrev rSigned : Rp [.b, .l] DSigned := rBool (rSl rI (rNil))
abbrev DMoney : Type := ByteArray × Bool × List (Int × Unit) × Unit
abbrev rMoney : Rp [.s, .b, .l] DMoney := rStr (rBool (rSl rI (rNil)))
abbrev DAcct : Type := ByteArray × ByteArray × Bool × List (Int × Unit) × Unit
abbrev rAcct : Rp [.s, .s, .b, .l] DAcct := rStr (rStr (rBool (rSl rI (rNil))))
abbrev DBook : Type := List DAcct × Unit
abbrev rBook : Rp [.l] DBook := rSl rAcct (rNil)
abbrev DRat : Type := Bool × List (Int × Unit) × List (Int × Unit) × Unit
abbrev rRat : Rp [.b, .l, .l] DRat := rBool (rSl rI (rSl rI (rNil)))
abbrev DRest : Type := ByteArray × Bool × List (Int × Unit) × List (Int × Unit) × Unit
abbrev rRest : Rp [.s, .b, .l, .l] DRest := rStr (rBool (rSl rI (rSl rI (rNil))))
abbrev DDec : Type := Bool × List (Int × Unit) × Int × Unit
abbrev rDec : Rp [.b, .l, .i .i64] DDec := rBool (rSl rI (rInt (rNil)))
abbrev DRate : Type := ByteArray × ByteArray × Bool × List (Int × Unit) × Int × Unit
abbrev rRate : Rp [.s, .s, .b, .l, .i .i64] DRate := rStr (rStr (rBool (rSl rI (rInt (rNil)))))
abbrev DRates : Type := ByteArray × List DRate × Unit
abbrev rRates : Rp [.s, .l] DRates := rStr (rSl rRate (rNil))
abbrev DLedger : Type := List DAcct × List DRest × ByteArray × List DRate × Unit
abbrev rLedger : Rp [.l, .l, .s, .l] DLedger := rSl rAcct (rSl rRest (rStr (rSl rRate (rNil))))
abbrev DCmd : Type := Int × ByteArray × ByteArray × ByteArray × ByteArray × ByteArray × Bool × List (Int × Unit) × Int × List (ByteArray × Unit) × List (Int × Unit) × Bool × List (Int × Unit) × Int × ByteArray × ByteArray × Bool × List (Int × Unit) × Int × Unit
abbrev rCmd : Rp [.i .i64, .s, .s, .s, .s, .s, .b, .l, .i .i64, .l, .l, .b, .l, .i .i64, .s, .s, .b, .l, .i .i64] DCmd := rInt (rStr (rStr (rStr (rStr (rStr (rBool (rSl rI (rInt (rSl rString (rSl rI (rBool (rSl rI (rInt (rStr (rStr (rBool (rSl rI (rInt (rNil)))))))))))))))))))
theorem cL_eqIntS : EqSC Tryz.prog gL_eqIntS rI := fun _ s s' _ _ _ _ h h' => CallX.of_fits Tryz.mix (fL_eqIntS s s') fun _ => tEqI_wp h h'
theorem totE_rI : ∀ l : List (Int × Unit), totE rI l = 0
  | [] => rfl
  | _ :: l => by rw [totE, totE_rI l]; rfl
theorem cL_szIntS : SzSC Tryz.prog gL_szIntS rI := by
  intro V s l f left h h0 h1
  refine CallX.of_fits Tryz.mix (fL_szIntS _ _) fun _ => ?_
  simp only [tL_szIntS, T.wp]
  have hn := h.1
  have hb := h.2.2.1
  have hw : IntKind.i64.wrap (left - (s.n : Int)) = left - (s.n : Int) := wrap_i64 (by omega)
  rw [hw, totE_rI]
  refine ⟨fun h => ⟨by trivial, ?_⟩, fun h => ⟨by trivial, ?_⟩⟩
  · have hh : left - (s.n : Int) < 0 := by simpa using h
    rw [szr_no (by omega)]; rfl
  · have hh : ¬ left - (s.n : Int) < 0 := by simpa using h
    rw [szr_ge (by omega), hn]; rfl
theorem cL_toIntS : ToSC Tryz.prog gL_toIntS rI := fun _ s _ _ h ht => CallX.of_fits Tryz.mix (fL_toIntS s) fun _ => tToI_wp h ht
theorem cL_eqStringS : EqSC Tryz.prog gL_eqStringS rString := fun _ s s' _ _ _ _ h h' => CallX.of_fits Tryz.mix (fL_eqStringS s s') fun _ => tEqT_wp h h'
theorem cL_szStringS : SzSC Tryz.prog gL_szStringS rString := fun _ s _ _ left h h0 h1 => CallX.of_fits Tryz.mix (fL_szStringS s left) fun _ => tSzT_wp h h0 h1
theorem cL_toStringS : ToSC Tryz.prog gL_toStringS rString := fun _ s _ _ h ht => CallX.of_fits Tryz.mix (fL_toStringS s) fun _ => tToT_wp h ht
/-! Signed -/
theorem cL_szSigned : SzC Tryz.prog gL_szSigned rSigned := by
  rintro V ⟨c0, c1, cu⟩ ⟨x0, x1, xu⟩ f left hx h0 h1
  obtain ⟨ec0, hx⟩ := hx
  replace ec0 : c0 = x0 := ec0
  subst ec0
  obtain ⟨f1, fr1, ec1, sc1, hx⟩ := hx
  subst ec1
  replace sc1 : LR rI _ c1 x1 f1 := sc1
  replace hx : _ = [] := hx
  subst hx
  refine CallX.of_fits Tryz.mix (fL_szSigned _ _) fun _ => ?_
  simp only [tL_szSigned, T.wp]
  refine (cL_szIntS _ _ _ _ left sc1 (by omega) (by omega)).mono ?_
  rintro V1 r ⟨rfl, rfl⟩
  have t1 : (x1.length + totE rI x1) = (x1.length + totE rI x1) := rfl
  refine ⟨nofun, szr ((x1.length + totE rI x1)) left, rfl, fun h => ?_, fun h1 => ?_⟩
  · have hh := szr_lt.1 (of_decide_eq_true h)
    exact ⟨by trivial, by show Value.int .i64 (-1) = Value.int .i64 (szr ((x1.length + totE rI x1 + 0)) left); rw [szr_no (by omega)]⟩
  have hp1 : (((x1.length + totE rI x1) : Nat) : Int) ≤ left := Decidable.not_not.1 fun k => (of_decide_eq_false h1) (szr_lt.2 k)
  rw [szr_ge hp1]
  refine ⟨by trivial, ?_⟩
  show Value.int .i64 (left - (((x1.length + totE rI x1) : Nat) : Int)) = Value.int .i64 (szr ((x1.length + totE rI x1 + 0)) left)
  rw [szr_ge (by omega)]
  congr 1 <;> omega
theorem cL_toSigned : ToC Tryz.prog gL_toSigned rSigned := by
  rintro V ⟨c0, c1, cu⟩ ⟨x0, x1, xu⟩ f hx ht
  obtain ⟨ec0, hx⟩ := hx
  replace ec0 : c0 = x0 := ec0
  subst ec0
  obtain ⟨f1, fr1, ec1, sc1, hx⟩ := hx
  subst ec1
  replace sc1 : LR rI _ c1 x1 f1 := sc1
  replace hx : _ = [] := hx
  subst hx
  replace ht : (x1.length + totE rI x1 + 0) ≤ 1048576 := ht
  refine CallX.of_fits Tryz.mix (fL_toSigned _) fun _ => ?_
  simp only [tL_toSigned, T.wp]
  refine (cL_toIntS _ _ x1 _ sc1 (by omega)).mono ?_
  rintro V1 r ⟨hle1, d1, k1, rfl, sd1, ho1⟩
  refine ⟨nofun, d1, rfl, ?_⟩
  exact ⟨hle1, (c0, d1, ()), _, rfl, (rBool.mk (rSl.mk sd1 rNil.mk)), by simpa using ho1⟩
theorem cL_eqSigned : EqC Tryz.prog gL_eqSigned rSigned := by
  rintro V ⟨c0, c1, cu⟩ ⟨d0, d1, du⟩ ⟨x0, x1, xu⟩ ⟨y0, y1, yu⟩ f f' hx hy
  obtain ⟨ec0, hx⟩ := hx
  replace ec0 : c0 = x0 := ec0
  subst ec0
  obtain ⟨f1, fr1, ec1, sc1, hx⟩ := hx
  subst ec1
  replace sc1 : LR rI _ c1 x1 f1 := sc1
  replace hx : _ = [] := hx
  subst hx
  obtain ⟨ed0, hy⟩ := hy
  replace ed0 : d0 = y0 := ed0
  subst ed0
  obtain ⟨g1, gr1, ed1, sd1, hy⟩ := hy
  subst ed1
  replace sd1 : LR rI _ d1 y1 g1 := sd1
  replace hy : _ = [] := hy
  subst hy
  refine CallX.of_fits Tryz.mix (fL_eqSigned _ _) fun _ => ?_
  simp only [tL_eqSigned, T.wp]
  refine ⟨fun h => ⟨by trivial, false, rfl, ⟨(fun h => by cases h), (fun e => by cases e; simp at h)⟩⟩, fun h0 => ?_⟩
  refine (cL_eqIntS _ _ _ _ _ _ _ sc1 sd1).mono ?_
  rintro V1 r ⟨rfl, b1, rfl, hb1⟩
  refine ⟨nofun, b1, rfl, fun h => ⟨by trivial, false, rfl, ⟨(fun h => by cases h), (fun e => by cases e; simp [hb1.2 rfl] at h)⟩⟩, fun h1 => ?_⟩
  refine ⟨by trivial, true, rfl, ⟨fun _ => ?_, fun _ => rfl⟩⟩
  have q0 : c0 = d0 := by simpa using h0
  subst q0
  have q1 : x1 = y1 := hb1.1 (by simpa using h1)
  cases q1
  rfl
/-! Money -/
theorem cL_szMoney : SzC Tryz.prog gL_szMoney rMoney := by
  rintro V ⟨c0, c1, c2, cu⟩ ⟨x0, x1, x2, xu⟩ f left hx h0 h1
  obtain ⟨⟨ec0, zc0⟩, hx⟩ := hx
  replace ec0 : c0 = x0 := ec0
  subst ec0
  replace zc0 : c0.size ≤ 9223372036854775807 := zc0
  obtain ⟨ec1, hx⟩ := hx
  replace ec1 : c1 = x1 := ec1
  subst ec1
  obtain ⟨f2, fr2, ec2, sc2, hx⟩ := hx
  subst ec2
  replace sc2 : LR rI _ c2 x2 f2 := sc2
  replace hx : _ = [] := hx
  subst hx
  refine CallX.of_fits Tryz.mix (fL_szMoney _ _) fun _ => ?_
  simp only [tL_szMoney, T.wp]
  have w0 : IntKind.i64.wrap (left - (c0.size : Int)) = left - (c0.size : Int) := wrap_i64 (by omega)
  rw [w0]
  refine ⟨fun h => ?_, fun h0 => ?_⟩
  · have hh : (left - (c0.size : Int)) < 0 := by simpa using h
    exact ⟨by trivial, by show Value.int .i64 (-1) = Value.int .i64 (szr ((c0.size + (x2.length + totE rI x2 + 0))) left); rw [szr_no (by omega)]⟩
  have hh0 : 0 ≤ (left - (c0.size : Int)) := by
    have : ¬ (left - (c0.size : Int)) < 0 := by simpa using h0
    omega
  refine (cL_szSigned _ _ (c1, x2, ()) _ (left - (c0.size : Int)) (rBool.mk (rSl.mk sc2 rNil.mk)) (by omega) (by omega)).mono ?_
  rintro V1 r ⟨rfl, rfl⟩
  have t1 : rSigned.tot (c1, x2, ()) = (x2.length + totE rI x2 + 0) := rfl
  refine ⟨nofun, szr (rSigned.tot (c1, x2, ())) (left - (c0.size : Int)), rfl, fun h => ?_, fun h1 => ?_⟩
  · have hh := szr_lt.1 (of_decide_eq_true h)
    exact ⟨by trivial, by show Value.int .i64 (-1) = Value.int .i64 (szr ((c0.size + (x2.length + totE rI x2 + 0))) left); rw [szr_no (by omega)]⟩
  have hp1 : ((rSigned.tot (c1, x2, ()) : Nat) : Int) ≤ (left - (c0.size : Int)) := Decidable.not_not.1 fun k => (of_decide_eq_false h1) (szr_lt.2 k)
  rw [szr_ge hp1]
  refine ⟨by trivial, ?_⟩
  show Value.int .i64 ((left - (c0.size : Int)) - ((rSigned.tot (c1, x2, ()) : Nat) : Int)) = Value.int .i64 (szr ((c0.size + (x2.length + totE rI x2 + 0))) left)
  rw [szr_ge (by omega)]
  congr 1 <;> omega
theorem cL_toMoney : ToC Tryz.prog gL_toMoney rMoney := by
  rintro V ⟨c0, c1, c2, cu⟩ ⟨x0, x1, x2, xu⟩ f hx ht
  obtain ⟨⟨ec0, zc0⟩, hx⟩ := hx
  replace ec0 : c0 = x0 := ec0
  subst ec0
  replace zc0 : c0.size ≤ 9223372036854775807 := zc0
  obtain ⟨ec1, hx⟩ := hx
  replace ec1 : c1 = x1 := ec1
  subst ec1
  obtain ⟨f2, fr2, ec2, sc2, hx⟩ := hx
  subst ec2
  replace sc2 : LR rI _ c2 x2 f2 := sc2
  replace hx : _ = [] := hx
  subst hx
  replace ht : (c0.size + (x2.length + totE rI x2 + 0)) ≤ 1048576 := ht
  refine CallX.of_fits Tryz.mix (fL_toMoney _) fun _ => ?_
  simp only [tL_toMoney, T.wp]
  refine (cL_toSigned _ _ (c1, x2, ()) _ (rBool.mk (rSl.mk sc2 rNil.mk)) (by show (x2.length + totE rI x2 + 0) ≤ 1048576; omega)).mono ?_
  rintro V1 r ⟨hle1, ⟨d1, d2, du1⟩, k1, rfl, hr1, ho1⟩
  obtain ⟨ed1, hr1⟩ := hr1
  replace ed1 : d1 = c1 := ed1
  subst ed1
  obtain ⟨k1f2, k1r2, ed2, sd2, hr1⟩ := hr1
  subst ed2
  replace sd2 : LR rI _ d2 x2 k1f2 := sd2
  replace hr1 : _ = [] := hr1
  subst hr1
  refine ⟨nofun, (d1, d2, ()), rfl, ?_⟩
  exact ⟨hle1, (c0, d1, d2, ()), _, rfl, (rStr.mk zc0 (rBool.mk (rSl.mk sd2 rNil.mk))), by simpa using ho1⟩
theorem cL_eqMoney : EqC Tryz.prog gL_eqMoney rMoney := by
  rintro V ⟨c0, c1, c2, cu⟩ ⟨d0, d1, d2, du⟩ ⟨x0, x1, x2, xu⟩ ⟨y0, y1, y2, yu⟩ f f' hx hy
  obtain ⟨⟨ec0, zc0⟩, hx⟩ := hx
  replace ec0 : c0 = x0 := ec0
  subst ec0
  replace zc0 : c0.size ≤ 9223372036854775807 := zc0
  obtain ⟨ec1, hx⟩ := hx
  replace ec1 : c1 = x1 := ec1
  subst ec1
  obtain ⟨f2, fr2, ec2, sc2, hx⟩ := hx
  subst ec2
  replace sc2 : LR rI _ c2 x2 f2 := sc2
  replace hx : _ = [] := hx
  subst hx
  obtain ⟨⟨ed0, zd0⟩, hy⟩ := hy
  replace ed0 : d0 = y0 := ed0
  subst ed0
  replace zd0 : d0.size ≤ 9223372036854775807 := zd0
  obtain ⟨ed1, hy⟩ := hy
  replace ed1 : d1 = y1 := ed1
  subst ed1
  obtain ⟨g2, gr2, ed2, sd2, hy⟩ := hy
  subst ed2
  replace sd2 : LR rI _ d2 y2 g2 := sd2
  replace hy : _ = [] := hy
  subst hy
  refine CallX.of_fits Tryz.mix (fL_eqMoney _ _) fun _ => ?_
  simp only [tL_eqMoney, T.wp]
  refine ⟨fun h => ⟨by trivial, false, rfl, ⟨(fun h => by cases h), (fun e => by cases e; simp at h)⟩⟩, fun h0 => ?_⟩
  refine (cL_eqSigned _ _ _ _ _ _ _ (rBool.mk (rSl.mk sc2 rNil.mk)) (rBool.mk (rSl.mk sd2 rNil.mk))).mono ?_
  rintro V1 r ⟨rfl, b1, rfl, hb1⟩
  refine ⟨nofun, b1, rfl, fun h => ⟨by trivial, false, rfl, ⟨(fun h => by cases h), (fun e => by cases e; simp [hb1.2 rfl] at h)⟩⟩, fun h1 => ?_⟩
  refine ⟨by trivial, true, rfl, ⟨fun _ => ?_, fun _ => rfl⟩⟩
  have q0 : c0 = d0 := text_eq.1 (by simpa using h0)
  subst q0
  have q1 : (c1, x2, ()) = (d1, y2, ()) := hb1.1 (by simpa using h1)
  cases q1
  rfl
/-! Acct -/
/-! Book -/
/-! Rat -/
/-! Rest -/
/-! Dec -/
theorem cL_szDec : SzC Tryz.prog gL_szDec rDec := by
  rintro V ⟨c0, c1, c2, cu⟩ ⟨x0, x1, x2, xu⟩ f left hx h0 h1
  obtain ⟨ec0, hx⟩ := hx
  replace ec0 : c0 = x0 := ec0
  subst ec0
  obtain ⟨f1, fr1, ec1, sc1, hx⟩ := hx
  subst ec1
  replace sc1 : LR rI _ c1 x1 f1 := sc1
  obtain ⟨ec2, hx⟩ := hx
  replace ec2 : c2 = x2 := ec2
  subst ec2
  replace hx : _ = [] := hx
  subst hx
  refine CallX.of_fits Tryz.mix (fL_szDec _ _) fun _ => ?_
  simp only [tL_szDec, T.wp]
  refine (cL_szSigned _ _ (c0, x1, ()) _ left (rBool.mk (rSl.mk sc1 rNil.mk)) (by omega) (by omega)).mono ?_
  rintro V0 r ⟨rfl, rfl⟩
  have t0 : rSigned.tot (c0, x1, ()) = (x1.length + totE rI x1 + 0) := rfl
  refine ⟨nofun, szr (rSigned.tot (c0, x1, ())) left, rfl, fun h => ?_, fun h0 => ?_⟩
  · have hh := szr_lt.1 (of_decide_eq_true h)
    exact ⟨by trivial, by show Value.int .i64 (-1) = Value.int .i64 (szr ((x1.length + totE rI x1 + 0)) left); rw [szr_no (by omega)]⟩
  have hp0 : ((rSigned.tot (c0, x1, ()) : Nat) : Int) ≤ left := Decidable.not_not.1 fun k => (of_decide_eq_false h0) (szr_lt.2 k)
  rw [szr_ge hp0]
  refine ⟨by trivial, ?_⟩
  show Value.int .i64 (left - ((rSigned.tot (c0, x1, ()) : Nat) : Int)) = Value.int .i64 (szr ((x1.length + totE rI x1 + 0)) left)
  rw [szr_ge (by omega)]
  congr 1 <;> omega
theorem cL_toDec : ToC Tryz.prog gL_toDec rDec := by
  rintro V ⟨c0, c1, c2, cu⟩ ⟨x0, x1, x2, xu⟩ f hx ht
  obtain ⟨ec0, hx⟩ := hx
  replace ec0 : c0 = x0 := ec0
  subst ec0
  obtain ⟨f1, fr1, ec1, sc1, hx⟩ := hx
  subst ec1
  replace sc1 : LR rI _ c1 x1 f1 := sc1
  obtain ⟨ec2, hx⟩ := hx
  replace ec2 : c2 = x2 := ec2
  subst ec2
  replace hx : _ = [] := hx
  subst hx
  replace ht : (x1.length + totE rI x1 + 0) ≤ 1048576 := ht
  refine CallX.of_fits Tryz.mix (fL_toDec _) fun _ => ?_
  simp only [tL_toDec, T.wp]
  refine (cL_toSigned _ _ (c0, x1, ()) _ (rBool.mk (rSl.mk sc1 rNil.mk)) (by show (x1.length + totE rI x1 + 0) ≤ 1048576; omega)).mono ?_
  rintro V0 r ⟨hle0, ⟨d0, d1, du0⟩, k0, rfl, hr0, ho0⟩
  obtain ⟨ed0, hr0⟩ := hr0
  replace ed0 : d0 = c0 := ed0
  subst ed0
  obtain ⟨k0f1, k0r1, ed1, sd1, hr0⟩ := hr0
  subst ed1
  replace sd1 : LR rI _ d1 x1 k0f1 := sd1
  replace hr0 : _ = [] := hr0
  subst hr0
  refine ⟨nofun, (d0, d1, ()), rfl, ?_⟩
  exact ⟨hle0, (d0, d1, c2, ()), _, rfl, (rBool.mk (rSl.mk sd1 (rInt.mk rNil.mk))), by simpa using ho0⟩
theorem cL_eqDec : EqC Tryz.prog gL_eqDec rDec := by
  rintro V ⟨c0, c1, c2, cu⟩ ⟨d0, d1, d2, du⟩ ⟨x0, x1, x2, xu⟩ ⟨y0, y1, y2, yu⟩ f f' hx hy
  obtain ⟨ec0, hx⟩ := hx
  replace ec0 : c0 = x0 := ec0
  subst ec0
  obtain ⟨f1, fr1, ec1, sc1, hx⟩ := hx
  subst ec1
  replace sc1 : LR rI _ c1 x1 f1 := sc1
  obtain ⟨ec2, hx⟩ := hx
  replace ec2 : c2 = x2 := ec2
  subst ec2
  replace hx : _ = [] := hx
  subst hx
  obtain ⟨ed0, hy⟩ := hy
  replace ed0 : d0 = y0 := ed0
  subst ed0
  obtain ⟨g1, gr1, ed1, sd1, hy⟩ := hy
  subst ed1
  replace sd1 : LR rI _ d1 y1 g1 := sd1
  obtain ⟨ed2, hy⟩ := hy
  replace ed2 : d2 = y2 := ed2
  subst ed2
  replace hy : _ = [] := hy
  subst hy
  refine CallX.of_fits Tryz.mix (fL_eqDec _ _) fun _ => ?_
  simp only [tL_eqDec, T.wp]
  refine (cL_eqSigned _ _ _ _ _ _ _ (rBool.mk (rSl.mk sc1 rNil.mk)) (rBool.mk (rSl.mk sd1 rNil.mk))).mono ?_
  rintro V0 r ⟨rfl, b0, rfl, hb0⟩
  refine ⟨nofun, b0, rfl, fun h => ⟨by trivial, false, rfl, ⟨(fun h => by cases h), (fun e => by cases e; simp [hb0.2 rfl] at h)⟩⟩, fun h0 => ?_⟩
  refine ⟨fun h => ⟨by trivial, false, rfl, ⟨(fun h => by cases h), (fun e => by cases e; simp at h)⟩⟩, fun h2 => ?_⟩
  refine ⟨by trivial, true, rfl, ⟨fun _ => ?_, fun _ => rfl⟩⟩
  have q0 : (c0, x1, ()) = (d0, y1, ()) := hb0.1 (by simpa using h0)
  cases q0
  have q2 : c2 = d2 := by simpa using h2
  subst q2
  rfl
/-! Rate -/
theorem cL_szRate : SzC Tryz.prog gL_szRate rRate := by
  rintro V ⟨c0, c1, c2, c3, c4, cu⟩ ⟨x0, x1, x2, x3, x4, xu⟩ f left hx h0 h1
  obtain ⟨⟨ec0, zc0⟩, hx⟩ := hx
  replace ec0 : c0 = x0 := ec0
  subst ec0
  replace zc0 : c0.size ≤ 9223372036854775807 := zc0
  obtain ⟨⟨ec1, zc1⟩, hx⟩ := hx
  replace ec1 : c1 = x1 := ec1
  subst ec1
  replace zc1 : c1.size ≤ 9223372036854775807 := zc1
  obtain ⟨ec2, hx⟩ := hx
  replace ec2 : c2 = x2 := ec2
  subst ec2
  obtain ⟨f3, fr3, ec3, sc3, hx⟩ := hx
  subst ec3
  replace sc3 : LR rI _ c3 x3 f3 := sc3
  obtain ⟨ec4, hx⟩ := hx
  replace ec4 : c4 = x4 := ec4
  subst ec4
  replace hx : _ = [] := hx
  subst hx
  refine CallX.of_fits Tryz.mix (fL_szRate _ _) fun _ => ?_
  simp only [tL_szRate, T.wp]
  have w0 : IntKind.i64.wrap (left - (c0.size : Int)) = left - (c0.size : Int) := wrap_i64 (by omega)
  rw [w0]
  refine ⟨fun h => ?_, fun h0 => ?_⟩
  · have hh : (left - (c0.size : Int)) < 0 := by simpa using h
    exact ⟨by trivial, by show Value.int .i64 (-1) = Value.int .i64 (szr ((c0.size + (c1.size + (x3.length + totE rI x3 + 0)))) left); rw [szr_no (by omega)]⟩
  have hh0 : 0 ≤ (left - (c0.size : Int)) := by
    have : ¬ (left - (c0.size : Int)) < 0 := by simpa using h0
    omega
  have w1 : IntKind.i64.wrap ((left - (c0.size : Int)) - (c1.size : Int)) = (left - (c0.size : Int)) - (c1.size : Int) := wrap_i64 (by omega)
  rw [w1]
  refine ⟨fun h => ?_, fun h1 => ?_⟩
  · have hh : ((left - (c0.size : Int)) - (c1.size : Int)) < 0 := by simpa using h
    exact ⟨by trivial, by show Value.int .i64 (-1) = Value.int .i64 (szr ((c0.size + (c1.size + (x3.length + totE rI x3 + 0)))) left); rw [szr_no (by omega)]⟩
  have hh1 : 0 ≤ ((left - (c0.size : Int)) - (c1.size : Int)) := by
    have : ¬ ((left - (c0.size : Int)) - (c1.size : Int)) < 0 := by simpa using h1
    omega
  refine (cL_szDec _ _ (c2, x3, c4, ()) _ ((left - (c0.size : Int)) - (c1.size : Int)) (rBool.mk (rSl.mk sc3 (rInt.mk rNil.mk))) (by omega) (by omega)).mono ?_
  rintro V2 r ⟨rfl, rfl⟩
  have t2 : rDec.tot (c2, x3, c4, ()) = (x3.length + totE rI x3 + 0) := rfl
  refine ⟨nofun, szr (rDec.tot (c2, x3, c4, ())) ((left - (c0.size : Int)) - (c1.size : Int)), rfl, fun h => ?_, fun h2 => ?_⟩
  · have hh := szr_lt.1 (of_decide_eq_true h)
    exact ⟨by trivial, by show Value.int .i64 (-1) = Value.int .i64 (szr ((c0.size + (c1.size + (x3.length + totE rI x3 + 0)))) left); rw [szr_no (by omega)]⟩
  have hp2 : ((rDec.tot (c2, x3, c4, ()) : Nat) : Int) ≤ ((left - (c0.size : Int)) - (c1.size : Int)) := Decidable.not_not.1 fun k => (of_decide_eq_false h2) (szr_lt.2 k)
  rw [szr_ge hp2]
  refine ⟨by trivial, ?_⟩
  show Value.int .i64 (((left - (c0.size : Int)) - (c1.size : Int)) - ((rDec.tot (c2, x3, c4, ()) : Nat) : Int)) = Value.int .i64 (szr ((c0.size + (c1.size + (x3.length + totE rI x3 + 0)))) left)
  rw [szr_ge (by omega)]
  congr 1 <;> omega
theorem cL_toRate : ToC Tryz.prog gL_toRate rRate := by
  rintro V ⟨c0, c1, c2, c3, c4, cu⟩ ⟨x0, x1, x2, x3, x4, xu⟩ f hx ht
  obtain ⟨⟨ec0, zc0⟩, hx⟩ := hx
  replace ec0 : c0 = x0 := ec0
  subst ec0
  replace zc0 : c0.size ≤ 9223372036854775807 := zc0
  obtain ⟨⟨ec1, zc1⟩, hx⟩ := hx
  replace ec1 : c1 = x1 := ec1
  subst ec1
  replace zc1 : c1.size ≤ 9223372036854775807 := zc1
  obtain ⟨ec2, hx⟩ := hx
  replace ec2 : c2 = x2 := ec2
  subst ec2
  obtain ⟨f3, fr3, ec3, sc3, hx⟩ := hx
  subst ec3
  replace sc3 : LR rI _ c3 x3 f3 := sc3
  obtain ⟨ec4, hx⟩ := hx
  replace ec4 : c4 = x4 := ec4
  subst ec4
  replace hx : _ = [] := hx
  subst hx
  replace ht : (c0.size + (c1.size + (x3.length + totE rI x3 + 0))) ≤ 1048576 := ht
  refine CallX.of_fits Tryz.mix (fL_toRate _) fun _ => ?_
  simp only [tL_toRate, T.wp]
  refine (cL_toDec _ _ (c2, x3, c4, ()) _ (rBool.mk (rSl.mk sc3 (rInt.mk rNil.mk))) (by show (x3.length + totE rI x3 + 0) ≤ 1048576; omega)).mono ?_
  rintro V2 r ⟨hle2, ⟨d2, d3, d4, du2⟩, k2, rfl, hr2, ho2⟩
  obtain ⟨ed2, hr2⟩ := hr2
  replace ed2 : d2 = c2 := ed2
  subst ed2
  obtain ⟨k2f3, k2r3, ed3, sd3, hr2⟩ := hr2
  subst ed3
  replace sd3 : LR rI _ d3 x3 k2f3 := sd3
  obtain ⟨ed4, hr2⟩ := hr2
  replace ed4 : d4 = c4 := ed4
  subst ed4
  replace hr2 : _ = [] := hr2
  subst hr2
  refine ⟨nofun, (d2, d3, d4, ()), rfl, ?_⟩
  exact ⟨hle2, (c0, c1, d2, d3, d4, ()), _, rfl, (rStr.mk zc0 (rStr.mk zc1 (rBool.mk (rSl.mk sd3 (rInt.mk rNil.mk))))), by simpa using ho2⟩
theorem cL_eqRate : EqC Tryz.prog gL_eqRate rRate := by
  rintro V ⟨c0, c1, c2, c3, c4, cu⟩ ⟨d0, d1, d2, d3, d4, du⟩ ⟨x0, x1, x2, x3, x4, xu⟩ ⟨y0, y1, y2, y3, y4, yu⟩ f f' hx hy
  obtain ⟨⟨ec0, zc0⟩, hx⟩ := hx
  replace ec0 : c0 = x0 := ec0
  subst ec0
  replace zc0 : c0.size ≤ 9223372036854775807 := zc0
  obtain ⟨⟨ec1, zc1⟩, hx⟩ := hx
  replace ec1 : c1 = x1 := ec1
  subst ec1
  replace zc1 : c1.size ≤ 9223372036854775807 := zc1
  obtain ⟨ec2, hx⟩ := hx
  replace ec2 : c2 = x2 := ec2
  subst ec2
  obtain ⟨f3, fr3, ec3, sc3, hx⟩ := hx
  subst ec3
  replace sc3 : LR rI _ c3 x3 f3 := sc3
  obtain ⟨ec4, hx⟩ := hx
  replace ec4 : c4 = x4 := ec4
  subst ec4
  replace hx : _ = [] := hx
  subst hx
  obtain ⟨⟨ed0, zd0⟩, hy⟩ := hy
  replace ed0 : d0 = y0 := ed0
  subst ed0
  replace zd0 : d0.size ≤ 9223372036854775807 := zd0
  obtain ⟨⟨ed1, zd1⟩, hy⟩ := hy
  replace ed1 : d1 = y1 := ed1
  subst ed1
  replace zd1 : d1.size ≤ 9223372036854775807 := zd1
  obtain ⟨ed2, hy⟩ := hy
  replace ed2 : d2 = y2 := ed2
  subst ed2
  obtain ⟨g3, gr3, ed3, sd3, hy⟩ := hy
  subst ed3
  replace sd3 : LR rI _ d3 y3 g3 := sd3
  obtain ⟨ed4, hy⟩ := hy
  replace ed4 : d4 = y4 := ed4
  subst ed4
  replace hy : _ = [] := hy
  subst hy
  refine CallX.of_fits Tryz.mix (fL_eqRate _ _) fun _ => ?_
  simp only [tL_eqRate, T.wp]
  refine ⟨fun h => ⟨by trivial, false, rfl, ⟨(fun h => by cases h), (fun e => by cases e; simp at h)⟩⟩, fun h0 => ?_⟩
  refine ⟨fun h => ⟨by trivial, false, rfl, ⟨(fun h => by cases h), (fun e => by cases e; simp at h)⟩⟩, fun h1 => ?_⟩
  refine (cL_eqDec _ _ _ _ _ _ _ (rBool.mk (rSl.mk sc3 (rInt.mk rNil.mk))) (rBool.mk (rSl.mk sd3 (rInt.mk rNil.mk)))).mono ?_
  rintro V2 r ⟨rfl, b2, rfl, hb2⟩
  refine ⟨nofun, b2, rfl, fun h => ⟨by trivial, false, rfl, ⟨(fun h => by cases h), (fun e => by cases e; simp [hb2.2 rfl] at h)⟩⟩, fun h2 => ?_⟩
  refine ⟨by trivial, true, rfl, ⟨fun _ => ?_, fun _ => rfl⟩⟩
  have q0 : c0 = d0 := text_eq.1 (by simpa using h0)
  subst q0
  have q1 : c1 = d1 := text_eq.1 (by simpa using h1)
  subst q1
  have q2 : (c2, x3, c4, ()) = (d2, y3, d4, ()) := hb2.1 (by simpa using h2)
  cases q2
  rfl
/-! Rates -/
/-! Ledger -/
/-! Cmd -/
theorem cL_szCmd : SzC Tryz.prog gL_szCmd rCmd := by
  rintro V ⟨c0, c1, c2, c3, c4, c5, c6, c7, c8, c9, c10, c11, c12, c13, c14, c15, c16, c17, c18, cu⟩ ⟨x0, x1, x2, x3, x4, x5, x6, x7, x8, x9, x10, x11, x12, x13, x14, x15, x16, x17, x18, xu⟩ f left hx h0 h1
  obtain ⟨ec0, hx⟩ := hx
  replace ec0 : c0 = x0 := ec0
  subst ec0
  obtain ⟨⟨ec1, zc1⟩, hx⟩ := hx
  replace ec1 : c1 = x1 := ec1
  subst ec1
  replace zc1 : c1.size ≤ 9223372036854775807 := zc1
  obtain ⟨⟨ec2, zc2⟩, hx⟩ := hx
  replace ec2 : c2 = x2 := ec2
  subst ec2
  replace zc2 : c2.size ≤ 9223372036854775807 := zc2
  obtain ⟨⟨ec3, zc3⟩, hx⟩ := hx
  replace ec3 : c3 = x3 := ec3
  subst ec3
  replace zc3 : c3.size ≤ 9223372036854775807 := zc3
  obtain ⟨⟨ec4, zc4⟩, hx⟩ := hx
  replace ec4 : c4 = x4 := ec4
  subst ec4
  replace zc4 : c4.size ≤ 9223372036854775807 := zc4
  obtain ⟨⟨ec5, zc5⟩, hx⟩ := hx
  replace ec5 : c5 = x5 := ec5
  subst ec5
  replace zc5 : c5.size ≤ 9223372036854775807 := zc5
  obtain ⟨ec6, hx⟩ := hx
  replace ec6 : c6 = x6 := ec6
  subst ec6
  obtain ⟨f7, fr7, ec7, sc7, hx⟩ := hx
  subst ec7
  replace sc7 : LR rI _ c7 x7 f7 := sc7
  obtain ⟨ec8, hx⟩ := hx
  replace ec8 : c8 = x8 := ec8
  subst ec8
  obtain ⟨f9, fr9, ec9, sc9, hx⟩ := hx
  subst ec9
  replace sc9 : LR rString _ c9 x9 f9 := sc9
  obtain ⟨f10, fr10, ec10, sc10, hx⟩ := hx
  subst ec10
  replace sc10 : LR rI _ c10 x10 f10 := sc10
  obtain ⟨ec11, hx⟩ := hx
  replace ec11 : c11 = x11 := ec11
  subst ec11
  obtain ⟨f12, fr12, ec12, sc12, hx⟩ := hx
  subst ec12
  replace sc12 : LR rI _ c12 x12 f12 := sc12
  obtain ⟨ec13, hx⟩ := hx
  replace ec13 : c13 = x13 := ec13
  subst ec13
  obtain ⟨⟨ec14, zc14⟩, hx⟩ := hx
  replace ec14 : c14 = x14 := ec14
  subst ec14
  replace zc14 : c14.size ≤ 9223372036854775807 := zc14
  obtain ⟨⟨ec15, zc15⟩, hx⟩ := hx
  replace ec15 : c15 = x15 := ec15
  subst ec15
  replace zc15 : c15.size ≤ 9223372036854775807 := zc15
  obtain ⟨ec16, hx⟩ := hx
  replace ec16 : c16 = x16 := ec16
  subst ec16
  obtain ⟨f17, fr17, ec17, sc17, hx⟩ := hx
  subst ec17
  replace sc17 : LR rI _ c17 x17 f17 := sc17
  obtain ⟨ec18, hx⟩ := hx
  replace ec18 : c18 = x18 := ec18
  subst ec18
  replace hx : _ = [] := hx
  subst hx
  refine CallX.of_fits Tryz.mix (fL_szCmd _ _) fun _ => ?_
  simp only [tL_szCmd, T.wp]
  have w1 : IntKind.i64.wrap (left - (c1.size : Int)) = left - (c1.size : Int) := wrap_i64 (by omega)
  rw [w1]
  refine ⟨fun h => ?_, fun h1 => ?_⟩
  · have hh : (left - (c1.size : Int)) < 0 := by simpa using h
    exact ⟨by trivial, by show Value.int .i64 (-1) = Value.int .i64 (szr ((c1.size + (c2.size + (c3.size + (c4.size + (c5.size + (x7.length + totE rI x7 + (x9.length + totE rString x9 + (x10.length + totE rI x10 + (x12.length + totE rI x12 + (c14.size + (c15.size + (x17.length + totE rI x17 + 0))))))))))))) left); rw [szr_no (by omega)]⟩
  have hh1 : 0 ≤ (left - (c1.size : Int)) := by
    have : ¬ (left - (c1.size : Int)) < 0 := by simpa using h1
    omega
  have w2 : IntKind.i64.wrap ((left - (c1.size : Int)) - (c2.size : Int)) = (left - (c1.size : Int)) - (c2.size : Int) := wrap_i64 (by omega)
  rw [w2]
  refine ⟨fun h => ?_, fun h2 => ?_⟩
  · have hh : ((left - (c1.size : Int)) - (c2.size : Int)) < 0 := by simpa using h
    exact ⟨by trivial, by show Value.int .i64 (-1) = Value.int .i64 (szr ((c1.size + (c2.size + (c3.size + (c4.size + (c5.size + (x7.length + totE rI x7 + (x9.length + totE rString x9 + (x10.length + totE rI x10 + (x12.length + totE rI x12 + (c14.size + (c15.size + (x17.length + totE rI x17 + 0))))))))))))) left); rw [szr_no (by omega)]⟩
  have hh2 : 0 ≤ ((left - (c1.size : Int)) - (c2.size : Int)) := by
    have : ¬ ((left - (c1.size : Int)) - (c2.size : Int)) < 0 := by simpa using h2
    omega
  have w3 : IntKind.i64.wrap (((left - (c1.size : Int)) - (c2.size : Int)) - (c3.size : Int)) = ((left - (c1.size : Int)) - (c2.size : Int)) - (c3.size : Int) := wrap_i64 (by omega)
  rw [w3]
  refine ⟨fun h => ?_, fun h3 => ?_⟩
  · have hh : (((left - (c1.size : Int)) - (c2.size : Int)) - (c3.size : Int)) < 0 := by simpa using h
    exact ⟨by trivial, by show Value.int .i64 (-1) = Value.int .i64 (szr ((c1.size + (c2.size + (c3.size + (c4.size + (c5.size + (x7.length + totE rI x7 + (x9.length + totE rString x9 + (x10.length + totE rI x10 + (x12.length + totE rI x12 + (c14.size + (c15.size + (x17.length + totE rI x17 + 0))))))))))))) left); rw [szr_no (by omega)]⟩
  have hh3 : 0 ≤ (((left - (c1.size : Int)) - (c2.size : Int)) - (c3.size : Int)) := by
    have : ¬ (((left - (c1.size : Int)) - (c2.size : Int)) - (c3.size : Int)) < 0 := by simpa using h3
    omega
  have w4 : IntKind.i64.wrap ((((left - (c1.size : Int)) - (c2.size : Int)) - (c3.size : Int)) - (c4.size : Int)) = (((left - (c1.size : Int)) - (c2.size : Int)) - (c3.size : Int)) - (c4.size : Int) := wrap_i64 (by omega)
  rw [w4]
  refine ⟨fun h => ?_, fun h4 => ?_⟩
  · have hh : ((((left - (c1.size : Int)) - (c2.size : Int)) - (c3.size : Int)) - (c4.size : Int)) < 0 := by simpa using h
    exact ⟨by trivial, by show Value.int .i64 (-1) = Value.int .i64 (szr ((c1.size + (c2.size + (c3.size + (c4.size + (c5.size + (x7.length + totE rI x7 + (x9.length + totE rString x9 + (x10.length + totE rI x10 + (x12.length + totE rI x12 + (c14.size + (c15.size + (x17.length + totE rI x17 + 0))))))))))))) left); rw [szr_no (by omega)]⟩
  have hh4 : 0 ≤ ((((left - (c1.size : Int)) - (c2.size : Int)) - (c3.size : Int)) - (c4.size : Int)) := by
    have : ¬ ((((left - (c1.size : Int)) - (c2.size : Int)) - (c3.size : Int)) - (c4.size : Int)) < 0 := by simpa using h4
    omega
  refine (cL_szMoney _ _ (c5, c6, x7, ()) _ ((((left - (c1.size : Int)) - (c2.size : Int)) - (c3.size : Int)) - (c4.size : Int)) (rStr.mk zc5 (rBool.mk (rSl.mk sc7 rNil.mk))) (by omega) (by omega)).mono ?_
  rintro V5 r ⟨rfl, rfl⟩
  have t5 : rMoney.tot (c5, c6, x7, ()) = (c5.size + (x7.length + totE rI x7 + 0)) := rfl
  refine ⟨nofun, szr (rMoney.tot (c5, c6, x7, ())) ((((left - (c1.size : Int)) - (c2.size : Int)) - (c3.size : Int)) - (c4.size : Int)), rfl, fun h => ?_, fun h5 => ?_⟩
  · have hh := szr_lt.1 (of_decide_eq_true h)
    exact ⟨by trivial, by show Value.int .i64 (-1) = Value.int .i64 (szr ((c1.size + (c2.size + (c3.size + (c4.size + (c5.size + (x7.length + totE rI x7 + (x9.length + totE rString x9 + (x10.length + totE rI x10 + (x12.length + totE rI x12 + (c14.size + (c15.size + (x17.length + totE rI x17 + 0))))))))))))) left); rw [szr_no (by omega)]⟩
  have hp5 : ((rMoney.tot (c5, c6, x7, ()) : Nat) : Int) ≤ ((((left - (c1.size : Int)) - (c2.size : Int)) - (c3.size : Int)) - (c4.size : Int)) := Decidable.not_not.1 fun k => (of_decide_eq_false h5) (szr_lt.2 k)
  rw [szr_ge hp5]
  refine (cL_szStringS _ _ _ _ (((((left - (c1.size : Int)) - (c2.size : Int)) - (c3.size : Int)) - (c4.size : Int)) - ((rMoney.tot (c5, c6, x7, ()) : Nat) : Int)) sc9 (by omega) (by omega)).mono ?_
  rintro V9 r ⟨rfl, rfl⟩
  have t9 : (x9.length + totE rString x9) = (x9.length + totE rString x9) := rfl
  refine ⟨nofun, szr ((x9.length + totE rString x9)) (((((left - (c1.size : Int)) - (c2.size : Int)) - (c3.size : Int)) - (c4.size : Int)) - ((rMoney.tot (c5, c6, x7, ()) : Nat) : Int)), rfl, fun h => ?_, fun h9 => ?_⟩
  · have hh := szr_lt.1 (of_decide_eq_true h)
    exact ⟨by trivial, by show Value.int .i64 (-1) = Value.int .i64 (szr ((c1.size + (c2.size + (c3.size + (c4.size + (c5.size + (x7.length + totE rI x7 + (x9.length + totE rString x9 + (x10.length + totE rI x10 + (x12.length + totE rI x12 + (c14.size + (c15.size + (x17.length + totE rI x17 + 0))))))))))))) left); rw [szr_no (by omega)]⟩
  have hp9 : (((x9.length + totE rString x9) : Nat) : Int) ≤ (((((left - (c1.size : Int)) - (c2.size : Int)) - (c3.size : Int)) - (c4.size : Int)) - ((rMoney.tot (c5, c6, x7, ()) : Nat) : Int)) := Decidable.not_not.1 fun k => (of_decide_eq_false h9) (szr_lt.2 k)
  rw [szr_ge hp9]
  refine (cL_szIntS _ _ _ _ ((((((left - (c1.size : Int)) - (c2.size : Int)) - (c3.size : Int)) - (c4.size : Int)) - ((rMoney.tot (c5, c6, x7, ()) : Nat) : Int)) - (((x9.length + totE rString x9) : Nat) : Int)) sc10 (by omega) (by omega)).mono ?_
  rintro V10 r ⟨rfl, rfl⟩
  have t10 : (x10.length + totE rI x10) = (x10.length + totE rI x10) := rfl
  refine ⟨nofun, szr ((x10.length + totE rI x10)) ((((((left - (c1.size : Int)) - (c2.size : Int)) - (c3.size : Int)) - (c4.size : Int)) - ((rMoney.tot (c5, c6, x7, ()) : Nat) : Int)) - (((x9.length + totE rString x9) : Nat) : Int)), rfl, fun h => ?_, fun h10 => ?_⟩
  · have hh := szr_lt.1 (of_decide_eq_true h)
    exact ⟨by trivial, by show Value.int .i64 (-1) = Value.int .i64 (szr ((c1.size + (c2.size + (c3.size + (c4.size + (c5.size + (x7.length + totE rI x7 + (x9.length + totE rString x9 + (x10.length + totE rI x10 + (x12.length + totE rI x12 + (c14.size + (c15.size + (x17.length + totE rI x17 + 0))))))))))))) left); rw [szr_no (by omega)]⟩
  have hp10 : (((x10.length + totE rI x10) : Nat) : Int) ≤ ((((((left - (c1.size : Int)) - (c2.size : Int)) - (c3.size : Int)) - (c4.size : Int)) - ((rMoney.tot (c5, c6, x7, ()) : Nat) : Int)) - (((x9.length + totE rString x9) : Nat) : Int)) := Decidable.not_not.1 fun k => (of_decide_eq_false h10) (szr_lt.2 k)
  rw [szr_ge hp10]
  refine (cL_szDec _ _ (c11, x12, c13, ()) _ (((((((left - (c1.size : Int)) - (c2.size : Int)) - (c3.size : Int)) - (c4.size : Int)) - ((rMoney.tot (c5, c6, x7, ()) : Nat) : Int)) - (((x9.length + totE rString x9) : Nat) : Int)) - (((x10.length + totE rI x10) : Nat) : Int)) (rBool.mk (rSl.mk sc12 (rInt.mk rNil.mk))) (by omega) (by omega)).mono ?_
  rintro V11 r ⟨rfl, rfl⟩
  have t11 : rDec.tot (c11, x12, c13, ()) = (x12.length + totE rI x12 + 0) := rfl
  refine ⟨nofun, szr (rDec.tot (c11, x12, c13, ())) (((((((left - (c1.size : Int)) - (c2.size : Int)) - (c3.size : Int)) - (c4.size : Int)) - ((rMoney.tot (c5, c6, x7, ()) : Nat) : Int)) - (((x9.length + totE rString x9) : Nat) : Int)) - (((x10.length + totE rI x10) : Nat) : Int)), rfl, fun h => ?_, fun h11 => ?_⟩
  · have hh := szr_lt.1 (of_decide_eq_true h)
    exact ⟨by trivial, by show Value.int .i64 (-1) = Value.int .i64 (szr ((c1.size + (c2.size + (c3.size + (c4.size + (c5.size + (x7.length + totE rI x7 + (x9.length + totE rString x9 + (x10.length + totE rI x10 + (x12.length + totE rI x12 + (c14.size + (c15.size + (x17.length + totE rI x17 + 0))))))))))))) left); rw [szr_no (by omega)]⟩
  have hp11 : ((rDec.tot (c11, x12, c13, ()) : Nat) : Int) ≤ (((((((left - (c1.size : Int)) - (c2.size : Int)) - (c3.size : Int)) - (c4.size : Int)) - ((rMoney.tot (c5, c6, x7, ()) : Nat) : Int)) - (((x9.length + totE rString x9) : Nat) : Int)) - (((x10.length + totE rI x10) : Nat) : Int)) := Decidable.not_not.1 fun k => (of_decide_eq_false h11) (szr_lt.2 k)
  rw [szr_ge hp11]
  refine (cL_szRate _ _ (c14, c15, c16, x17, c18, ()) _ ((((((((left - (c1.size : Int)) - (c2.size : Int)) - (c3.size : Int)) - (c4.size : Int)) - ((rMoney.tot (c5, c6, x7, ()) : Nat) : Int)) - (((x9.length + totE rString x9) : Nat) : Int)) - (((x10.length + totE rI x10) : Nat) : Int)) - ((rDec.tot (c11, x12, c13, ()) : Nat) : Int)) (rStr.mk zc14 (rStr.mk zc15 (rBool.mk (rSl.mk sc17 (rInt.mk rNil.mk))))) (by omega) (by omega)).mono ?_
  rintro V14 r ⟨rfl, rfl⟩
  have t14 : rRate.tot (c14, c15, c16, x17, c18, ()) = (c14.size + (c15.size + (x17.length + totE rI x17 + 0))) := rfl
  refine ⟨nofun, szr (rRate.tot (c14, c15, c16, x17, c18, ())) ((((((((left - (c1.size : Int)) - (c2.size : Int)) - (c3.size : Int)) - (c4.size : Int)) - ((rMoney.tot (c5, c6, x7, ()) : Nat) : Int)) - (((x9.length + totE rString x9) : Nat) : Int)) - (((x10.length + totE rI x10) : Nat) : Int)) - ((rDec.tot (c11, x12, c13, ()) : Nat) : Int)), rfl, fun h => ?_, fun h14 => ?_⟩
  · have hh := szr_lt.1 (of_decide_eq_true h)
    exact ⟨by trivial, by show Value.int .i64 (-1) = Value.int .i64 (szr ((c1.size + (c2.size + (c3.size + (c4.size + (c5.size + (x7.length + totE rI x7 + (x9.length + totE rString x9 + (x10.length + totE rI x10 + (x12.length + totE rI x12 + (c14.size + (c15.size + (x17.length + totE rI x17 + 0))))))))))))) left); rw [szr_no (by omega)]⟩
  have hp14 : ((rRate.tot (c14, c15, c16, x17, c18, ()) : Nat) : Int) ≤ ((((((((left - (c1.size : Int)) - (c2.size : Int)) - (c3.size : Int)) - (c4.size : Int)) - ((rMoney.tot (c5, c6, x7, ()) : Nat) : Int)) - (((x9.length + totE rString x9) : Nat) : Int)) - (((x10.length + totE rI x10) : Nat) : Int)) - ((rDec.tot (c11, x12, c13, ()) : Nat) : Int)) := Decidable.not_not.1 fun k => (of_decide_eq_false h14) (szr_lt.2 k)
  rw [szr_ge hp14]
  refine ⟨by trivial, ?_⟩
  show Value.int .i64 (((((((((left - (c1.size : Int)) - (c2.size : Int)) - (c3.size : Int)) - (c4.size : Int)) - ((rMoney.tot (c5, c6, x7, ()) : Nat) : Int)) - (((x9.length + totE rString x9) : Nat) : Int)) - (((x10.length + totE rI x10) : Nat) : Int)) - ((rDec.tot (c11, x12, c13, ()) : Nat) : Int)) - ((rRate.tot (c14, c15, c16, x17, c18, ()) : Nat) : Int)) = Value.int .i64 (szr ((c1.size + (c2.size + (c3.size + (c4.size + (c5.size + (x7.length + totE rI x7 + (x9.length + totE rString x9 + (x10.length + totE rI x10 + (x12.length + totE rI x12 + (c14.size + (c15.size + (x17.length + totE rI x17 + 0))))))))))))) left)
  rw [szr_ge (by omega)]
  congr 1 <;> omega
theorem cL_toCmd : ToC Tryz.prog gL_toCmd rCmd := by
  rintro V ⟨c0, c1, c2, c3, c4, c5, c6, c7, c8, c9, c10, c11, c12, c13, c14, c15, c16, c17, c18, cu⟩ ⟨x0, x1, x2, x3, x4, x5, x6, x7, x8, x9, x10, x11, x12, x13, x14, x15, x16, x17, x18, xu⟩ f hx ht
  obtain ⟨ec0, hx⟩ := hx
  replace ec0 : c0 = x0 := ec0
  subst ec0
  obtain ⟨⟨ec1, zc1⟩, hx⟩ := hx
  replace ec1 : c1 = x1 := ec1
  subst ec1
  replace zc1 : c1.size ≤ 9223372036854775807 := zc1
  obtain ⟨⟨ec2, zc2⟩, hx⟩ := hx
  replace ec2 : c2 = x2 := ec2
  subst ec2
  replace zc2 : c2.size ≤ 9223372036854775807 := zc2
  obtain ⟨⟨ec3, zc3⟩, hx⟩ := hx
  replace ec3 : c3 = x3 := ec3
  subst ec3
  replace zc3 : c3.size ≤ 9223372036854775807 := zc3
  obtain ⟨⟨ec4, zc4⟩, hx⟩ := hx
  replace ec4 : c4 = x4 := ec4
  subst ec4
  replace zc4 : c4.size ≤ 9223372036854775807 := zc4
  obtain ⟨⟨ec5, zc5⟩, hx⟩ := hx
  replace ec5 : c5 = x5 := ec5
  subst ec5
  replace zc5 : c5.size ≤ 9223372036854775807 := zc5
  obtain ⟨ec6, hx⟩ := hx
  replace ec6 : c6 = x6 := ec6
  subst ec6
  obtain ⟨f7, fr7, ec7, sc7, hx⟩ := hx
  subst ec7
  replace sc7 : LR rI _ c7 x7 f7 := sc7
  obtain ⟨ec8, hx⟩ := hx
  replace ec8 : c8 = x8 := ec8
  subst ec8
  obtain ⟨f9, fr9, ec9, sc9, hx⟩ := hx
  subst ec9
  replace sc9 : LR rString _ c9 x9 f9 := sc9
  obtain ⟨f10, fr10, ec10, sc10, hx⟩ := hx
  subst ec10
  replace sc10 : LR rI _ c10 x10 f10 := sc10
  obtain ⟨ec11, hx⟩ := hx
  replace ec11 : c11 = x11 := ec11
  subst ec11
  obtain ⟨f12, fr12, ec12, sc12, hx⟩ := hx
  subst ec12
  replace sc12 : LR rI _ c12 x12 f12 := sc12
  obtain ⟨ec13, hx⟩ := hx
  replace ec13 : c13 = x13 := ec13
  subst ec13
  obtain ⟨⟨ec14, zc14⟩, hx⟩ := hx
  replace ec14 : c14 = x14 := ec14
  subst ec14
  replace zc14 : c14.size ≤ 9223372036854775807 := zc14
  obtain ⟨⟨ec15, zc15⟩, hx⟩ := hx
  replace ec15 : c15 = x15 := ec15
  subst ec15
  replace zc15 : c15.size ≤ 9223372036854775807 := zc15
  obtain ⟨ec16, hx⟩ := hx
  replace ec16 : c16 = x16 := ec16
  subst ec16
  obtain ⟨f17, fr17, ec17, sc17, hx⟩ := hx
  subst ec17
  replace sc17 : LR rI _ c17 x17 f17 := sc17
  obtain ⟨ec18, hx⟩ := hx
  replace ec18 : c18 = x18 := ec18
  subst ec18
  replace hx : _ = [] := hx
  subst hx
  replace ht : (c1.size + (c2.size + (c3.size + (c4.size + (c5.size + (x7.length + totE rI x7 + (x9.length + totE rString x9 + (x10.length + totE rI x10 + (x12.length + totE rI x12 + (c14.size + (c15.size + (x17.length + totE rI x17 + 0)))))))))))) ≤ 1048576 := ht
  refine CallX.of_fits Tryz.mix (fL_toCmd _) fun _ => ?_
  simp only [tL_toCmd, T.wp]
  refine (cL_toMoney _ _ (c5, c6, x7, ()) _ (rStr.mk zc5 (rBool.mk (rSl.mk sc7 rNil.mk))) (by show (c5.size + (x7.length + totE rI x7 + 0)) ≤ 1048576; omega)).mono ?_
  rintro V5 r ⟨hle5, ⟨d5, d6, d7, du5⟩, k5, rfl, hr5, ho5⟩
  obtain ⟨⟨ed5, zd5⟩, hr5⟩ := hr5
  replace ed5 : d5 = c5 := ed5
  subst ed5
  replace zd5 : d5.size ≤ 9223372036854775807 := zd5
  obtain ⟨ed6, hr5⟩ := hr5
  replace ed6 : d6 = c6 := ed6
  subst ed6
  obtain ⟨k5f7, k5r7, ed7, sd7, hr5⟩ := hr5
  subst ed7
  replace sd7 : LR rI _ d7 x7 k5f7 := sd7
  replace hr5 : _ = [] := hr5
  subst hr5
  refine ⟨nofun, (d5, d6, d7, ()), rfl, ?_⟩
  refine (cL_toStringS _ _ x9 _ (sc9.le hle5) (by omega)).mono ?_
  rintro V9 r ⟨hle9, d9, k9, rfl, sd9, ho9⟩
  refine ⟨nofun, d9, rfl, ?_⟩
  have hA9 := ho5.append ho9 hle5 hle9
  have hL9 := hle5.trans hle9
  replace sd7 := sd7.le hle9
  refine (cL_toIntS _ _ x10 _ (sc10.le hL9) (by omega)).mono ?_
  rintro V10 r ⟨hle10, d10, k10, rfl, sd10, ho10⟩
  refine ⟨nofun, d10, rfl, ?_⟩
  have hA10 := hA9.append ho10 hL9 hle10
  have hL10 := hL9.trans hle10
  replace sd7 := sd7.le hle10
  replace sd9 := sd9.le hle10
  refine (cL_toDec _ _ (c11, x12, c13, ()) _ (rBool.mk (rSl.mk (sc12.le hL10) (rInt.mk rNil.mk))) (by show (x12.length + totE rI x12 + 0) ≤ 1048576; omega)).mono ?_
  rintro V11 r ⟨hle11, ⟨d11, d12, d13, du11⟩, k11, rfl, hr11, ho11⟩
  obtain ⟨ed11, hr11⟩ := hr11
  replace ed11 : d11 = c11 := ed11
  subst ed11
  obtain ⟨k11f12, k11r12, ed12, sd12, hr11⟩ := hr11
  subst ed12
  replace sd12 : LR rI _ d12 x12 k11f12 := sd12
  obtain ⟨ed13, hr11⟩ := hr11
  replace ed13 : d13 = c13 := ed13
  subst ed13
  replace hr11 : _ = [] := hr11
  subst hr11
  refine ⟨nofun, (d11, d12, d13, ()), rfl, ?_⟩
  have hA11 := hA10.append ho11 hL10 hle11
  have hL11 := hL10.trans hle11
  replace sd7 := sd7.le hle11
  replace sd9 := sd9.le hle11
  replace sd10 := sd10.le hle11
  refine (cL_toRate _ _ (c14, c15, c16, x17, c18, ()) _ (rStr.mk zc14 (rStr.mk zc15 (rBool.mk (rSl.mk (sc17.le hL11) (rInt.mk rNil.mk))))) (by show (c14.size + (c15.size + (x17.length + totE rI x17 + 0))) ≤ 1048576; omega)).mono ?_
  rintro V14 r ⟨hle14, ⟨d14, d15, d16, d17, d18, du14⟩, k14, rfl, hr14, ho14⟩
  obtain ⟨⟨ed14, zd14⟩, hr14⟩ := hr14
  replace ed14 : d14 = c14 := ed14
  subst ed14
  replace zd14 : d14.size ≤ 9223372036854775807 := zd14
  obtain ⟨⟨ed15, zd15⟩, hr14⟩ := hr14
  replace ed15 : d15 = c15 := ed15
  subst ed15
  replace zd15 : d15.size ≤ 9223372036854775807 := zd15
  obtain ⟨ed16, hr14⟩ := hr14
  replace ed16 : d16 = c16 := ed16
  subst ed16
  obtain ⟨k14f17, k14r17, ed17, sd17, hr14⟩ := hr14
  subst ed17
  replace sd17 : LR rI _ d17 x17 k14f17 := sd17
  obtain ⟨ed18, hr14⟩ := hr14
  replace ed18 : d18 = c18 := ed18
  subst ed18
  replace hr14 : _ = [] := hr14
  subst hr14
  refine ⟨nofun, (d14, d15, d16, d17, d18, ()), rfl, ?_⟩
  have hA14 := hA11.append ho14 hL11 hle14
  have hL14 := hL11.trans hle14
  replace sd7 := sd7.le hle14
  replace sd9 := sd9.le hle14
  replace sd10 := sd10.le hle14
  replace sd12 := sd12.le hle14
  exact ⟨hL14, (c0, c1, c2, c3, c4, d5, d6, d7, c8, d9, d10, d11, d12, d13, d14, d15, d16, d17, d18, ()), _, rfl, (rInt.mk (rStr.mk zc1 (rStr.mk zc2 (rStr.mk zc3 (rStr.mk zc4 (rStr.mk zd5 (rBool.mk (rSl.mk sd7 (rInt.mk (rSl.mk sd9 (rSl.mk sd10 (rBool.mk (rSl.mk sd12 (rInt.mk (rStr.mk zd14 (rStr.mk zd15 (rBool.mk (rSl.mk sd17 (rInt.mk rNil.mk))))))))))))))))))), by simpa using hA14⟩
theorem cL_eqCmd : EqC Tryz.prog gL_eqCmd rCmd := by
  rintro V ⟨c0, c1, c2, c3, c4, c5, c6, c7, c8, c9, c10, c11, c12, c13, c14, c15, c16, c17, c18, cu⟩ ⟨d0, d1, d2, d3, d4, d5, d6, d7, d8, d9, d10, d11, d12, d13, d14, d15, d16, d17, d18, du⟩ ⟨x0, x1, x2, x3, x4, x5, x6, x7, x8, x9, x10, x11, x12, x13, x14, x15, x16, x17, x18, xu⟩ ⟨y0, y1, y2, y3, y4, y5, y6, y7, y8, y9, y10, y11, y12, y13, y14, y15, y16, y17, y18, yu⟩ f f' hx hy
  obtain ⟨ec0, hx⟩ := hx
  replace ec0 : c0 = x0 := ec0
  subst ec0
  obtain ⟨⟨ec1, zc1⟩, hx⟩ := hx
  replace ec1 : c1 = x1 := ec1
  subst ec1
  replace zc1 : c1.size ≤ 9223372036854775807 := zc1
  obtain ⟨⟨ec2, zc2⟩, hx⟩ := hx
  replace ec2 : c2 = x2 := ec2
  subst ec2
  replace zc2 : c2.size ≤ 9223372036854775807 := zc2
  obtain ⟨⟨ec3, zc3⟩, hx⟩ := hx
  replace ec3 : c3 = x3 := ec3
  subst ec3
  replace zc3 : c3.size ≤ 9223372036854775807 := zc3
  obtain ⟨⟨ec4, zc4⟩, hx⟩ := hx
  replace ec4 : c4 = x4 := ec4
  subst ec4
  replace zc4 : c4.size ≤ 9223372036854775807 := zc4
  obtain ⟨⟨ec5, zc5⟩, hx⟩ := hx
  replace ec5 : c5 = x5 := ec5
  subst ec5
  replace zc5 : c5.size ≤ 9223372036854775807 := zc5
  obtain ⟨ec6, hx⟩ := hx
  replace ec6 : c6 = x6 := ec6
  subst ec6
  obtain ⟨f7, fr7, ec7, sc7, hx⟩ := hx
  subst ec7
  replace sc7 : LR rI _ c7 x7 f7 := sc7
  obtain ⟨ec8, hx⟩ := hx
  replace ec8 : c8 = x8 := ec8
  subst ec8
  obtain ⟨f9, fr9, ec9, sc9, hx⟩ := hx
  subst ec9
  replace sc9 : LR rString _ c9 x9 f9 := sc9
  obtain ⟨f10, fr10, ec10, sc10, hx⟩ := hx
  subst ec10
  replace sc10 : LR rI _ c10 x10 f10 := sc10
  obtain ⟨ec11, hx⟩ := hx
  replace ec11 : c11 = x11 := ec11
  subst ec11
  obtain ⟨f12, fr12, ec12, sc12, hx⟩ := hx
  subst ec12
  replace sc12 : LR rI _ c12 x12 f12 := sc12
  obtain ⟨ec13, hx⟩ := hx
  replace ec13 : c13 = x13 := ec13
  subst ec13
  obtain ⟨⟨ec14, zc14⟩, hx⟩ := hx
  replace ec14 : c14 = x14 := ec14
  subst ec14
  replace zc14 : c14.size ≤ 9223372036854775807 := zc14
  obtain ⟨⟨ec15, zc15⟩, hx⟩ := hx
  replace ec15 : c15 = x15 := ec15
  subst ec15
  replace zc15 : c15.size ≤ 9223372036854775807 := zc15
  obtain ⟨ec16, hx⟩ := hx
  replace ec16 : c16 = x16 := ec16
  subst ec16
  obtain ⟨f17, fr17, ec17, sc17, hx⟩ := hx
  subst ec17
  replace sc17 : LR rI _ c17 x17 f17 := sc17
  obtain ⟨ec18, hx⟩ := hx
  replace ec18 : c18 = x18 := ec18
  subst ec18
  replace hx : _ = [] := hx
  subst hx
  obtain ⟨ed0, hy⟩ := hy
  replace ed0 : d0 = y0 := ed0
  subst ed0
  obtain ⟨⟨ed1, zd1⟩, hy⟩ := hy
  replace ed1 : d1 = y1 := ed1
  subst ed1
  replace zd1 : d1.size ≤ 9223372036854775807 := zd1
  obtain ⟨⟨ed2, zd2⟩, hy⟩ := hy
  replace ed2 : d2 = y2 := ed2
  subst ed2
  replace zd2 : d2.size ≤ 9223372036854775807 := zd2
  obtain ⟨⟨ed3, zd3⟩, hy⟩ := hy
  replace ed3 : d3 = y3 := ed3
  subst ed3
  replace zd3 : d3.size ≤ 9223372036854775807 := zd3
  obtain ⟨⟨ed4, zd4⟩, hy⟩ := hy
  replace ed4 : d4 = y4 := ed4
  subst ed4
  replace zd4 : d4.size ≤ 9223372036854775807 := zd4
  obtain ⟨⟨ed5, zd5⟩, hy⟩ := hy
  replace ed5 : d5 = y5 := ed5
  subst ed5
  replace zd5 : d5.size ≤ 9223372036854775807 := zd5
  obtain ⟨ed6, hy⟩ := hy
  replace ed6 : d6 = y6 := ed6
  subst ed6
  obtain ⟨g7, gr7, ed7, sd7, hy⟩ := hy
  subst ed7
  replace sd7 : LR rI _ d7 y7 g7 := sd7
  obtain ⟨ed8, hy⟩ := hy
  replace ed8 : d8 = y8 := ed8
  subst ed8
  obtain ⟨g9, gr9, ed9, sd9, hy⟩ := hy
  subst ed9
  replace sd9 : LR rString _ d9 y9 g9 := sd9
  obtain ⟨g10, gr10, ed10, sd10, hy⟩ := hy
  subst ed10
  replace sd10 : LR rI _ d10 y10 g10 := sd10
  obtain ⟨ed11, hy⟩ := hy
  replace ed11 : d11 = y11 := ed11
  subst ed11
  obtain ⟨g12, gr12, ed12, sd12, hy⟩ := hy
  subst ed12
  replace sd12 : LR rI _ d12 y12 g12 := sd12
  obtain ⟨ed13, hy⟩ := hy
  replace ed13 : d13 = y13 := ed13
  subst ed13
  obtain ⟨⟨ed14, zd14⟩, hy⟩ := hy
  replace ed14 : d14 = y14 := ed14
  subst ed14
  replace zd14 : d14.size ≤ 9223372036854775807 := zd14
  obtain ⟨⟨ed15, zd15⟩, hy⟩ := hy
  replace ed15 : d15 = y15 := ed15
  subst ed15
  replace zd15 : d15.size ≤ 9223372036854775807 := zd15
  obtain ⟨ed16, hy⟩ := hy
  replace ed16 : d16 = y16 := ed16
  subst ed16
  obtain ⟨g17, gr17, ed17, sd17, hy⟩ := hy
  subst ed17
  replace sd17 : LR rI _ d17 y17 g17 := sd17
  obtain ⟨ed18, hy⟩ := hy
  replace ed18 : d18 = y18 := ed18
  subst ed18
  replace hy : _ = [] := hy
  subst hy
  refine CallX.of_fits Tryz.mix (fL_eqCmd _ _) fun _ => ?_
  simp only [tL_eqCmd, T.wp]
  refine ⟨fun h => ⟨by trivial, false, rfl, ⟨(fun h => by cases h), (fun e => by cases e; simp at h)⟩⟩, fun h0 => ?_⟩
  refine ⟨fun h => ⟨by trivial, false, rfl, ⟨(fun h => by cases h), (fun e => by cases e; simp at h)⟩⟩, fun h1 => ?_⟩
  refine ⟨fun h => ⟨by trivial, false, rfl, ⟨(fun h => by cases h), (fun e => by cases e; simp at h)⟩⟩, fun h2 => ?_⟩
  refine ⟨fun h => ⟨by trivial, false, rfl, ⟨(fun h => by cases h), (fun e => by cases e; simp at h)⟩⟩, fun h3 => ?_⟩
  refine ⟨fun h => ⟨by trivial, false, rfl, ⟨(fun h => by cases h), (fun e => by cases e; simp at h)⟩⟩, fun h4 => ?_⟩
  refine (cL_eqMoney _ _ _ _ _ _ _ (rStr.mk zc5 (rBool.mk (rSl.mk sc7 rNil.mk))) (rStr.mk zd5 (rBool.mk (rSl.mk sd7 rNil.mk)))).mono ?_
  rintro V5 r ⟨rfl, b5, rfl, hb5⟩
  refine ⟨nofun, b5, rfl, fun h => ⟨by trivial, false, rfl, ⟨(fun h => by cases h), (fun e => by cases e; simp [hb5.2 rfl] at h)⟩⟩, fun h5 => ?_⟩
  refine ⟨fun h => ⟨by trivial, false, rfl, ⟨(fun h => by cases h), (fun e => by cases e; simp at h)⟩⟩, fun h8 => ?_⟩
  refine (cL_eqStringS _ _ _ _ _ _ _ sc9 sd9).mono ?_
  rintro V9 r ⟨rfl, b9, rfl, hb9⟩
  refine ⟨nofun, b9, rfl, fun h => ⟨by trivial, false, rfl, ⟨(fun h => by cases h), (fun e => by cases e; simp [hb9.2 rfl] at h)⟩⟩, fun h9 => ?_⟩
  refine (cL_eqIntS _ _ _ _ _ _ _ sc10 sd10).mono ?_
  rintro V10 r ⟨rfl, b10, rfl, hb10⟩
  refine ⟨nofun, b10, rfl, fun h => ⟨by trivial, false, rfl, ⟨(fun h => by cases h), (fun e => by cases e; simp [hb10.2 rfl] at h)⟩⟩, fun h10 => ?_⟩
  refine (cL_eqDec _ _ _ _ _ _ _ (rBool.mk (rSl.mk sc12 (rInt.mk rNil.mk))) (rBool.mk (rSl.mk sd12 (rInt.mk rNil.mk)))).mono ?_
  rintro V11 r ⟨rfl, b11, rfl, hb11⟩
  refine ⟨nofun, b11, rfl, fun h => ⟨by trivial, false, rfl, ⟨(fun h => by cases h), (fun e => by cases e; simp [hb11.2 rfl] at h)⟩⟩, fun h11 => ?_⟩
  refine (cL_eqRate _ _ _ _ _ _ _ (rStr.mk zc14 (rStr.mk zc15 (rBool.mk (rSl.mk sc17 (rInt.mk rNil.mk))))) (rStr.mk zd14 (rStr.mk zd15 (rBool.mk (rSl.mk sd17 (rInt.mk rNil.mk)))))).mono ?_
  rintro V14 r ⟨rfl, b14, rfl, hb14⟩
  refine ⟨nofun, b14, rfl, fun h => ⟨by trivial, false, rfl, ⟨(fun h => by cases h), (fun e => by cases e; simp [hb14.2 rfl] at h)⟩⟩, fun h14 => ?_⟩
  refine ⟨by trivial, true, rfl, ⟨fun _ => ?_, fun _ => rfl⟩⟩
  have q0 : c0 = d0 := by simpa using h0
  subst q0
  have q1 : c1 = d1 := text_eq.1 (by simpa using h1)
  subst q1
  have q2 : c2 = d2 := text_eq.1 (by simpa using h2)
  subst q2
  have q3 : c3 = d3 := text_eq.1 (by simpa using h3)
  subst q3
  have q4 : c4 = d4 := text_eq.1 (by simpa using h4)
  subst q4
  have q5 : (c5, c6, x7, ()) = (d5, d6, y7, ()) := hb5.1 (by simpa using h5)
  cases q5
  have q8 : c8 = d8 := by simpa using h8
  subst q8
  have q9 : x9 = y9 := hb9.1 (by simpa using h9)
  cases q9
  have q10 : x10 = y10 := hb10.1 (by simpa using h10)
  cases q10
  have q11 : (c11, x12, c13, ()) = (d11, y12, d13, ()) := hb11.1 (by simpa using h11)
  cases q11
  have q14 : (c14, c15, c16, x17, c18, ()) = (d14, d15, d16, y17, d18, ()) := hb14.1 (by simpa using h14)
  cases q14
  rfl
end Go.Proofs.YtfbnocogljmpdaaGreatDoor
