/-
  The law of TotalOf: both sides answer the same, and what the caller writes into one answer is found again.
-/
import Derived.Test.YtikhpnlglkipcaaGreatDoorTotC
import Derived.Test.YtikhpnlglkipcaaGreatDoorMkB
namespace Go.Proofs.YtikhpnlglkipcaaGreatDoor
open Sx
set_option maxRecDepth 100000

/-! how much is marked -/
theorem cntE_le {sh : List Sc} {α : Type} {r : Rp sh α} {m : Mk α} {K : Nat} (hK : ∀ x, m.cnt x ≤ K * (1 + r.tot x)) : ∀ l, cntE m l ≤ K * (l.length + totE r l)
  | [] => by simp [cntE]
  | x :: l => by
    have ih := cntE_le hK l
    have h1 := hK x
    simp only [cntE, totE, List.length_cons]
    have e : K * (l.length + 1 + (r.tot x + totE r l)) = K * (1 + r.tot x) + K * (l.length + totE r l) := by rw [← Nat.mul_add]; congr 1; omega
    omega
theorem cnt_acct (x : DAcct) : mAcct.cnt x ≤ 4 * (1 + rAcct.tot x) := by
  have e : mAcct.cnt x = 1 + (1 + (1 + (cntE mI x.2.2.2.1 + 0))) := rfl
  have e2 : rAcct.tot x = x.1.size + (x.2.1.size + (x.2.2.2.1.length + totE rI x.2.2.2.1 + 0)) := rfl
  rw [e, e2, cntE_int]
  omega
theorem cnt_rest (x : DRest) : mRest.cnt x ≤ 4 * (1 + rRest.tot x) := by
  have e : mRest.cnt x = 1 + (1 + (cntE mI x.2.2.1 + (cntE mI x.2.2.2.1 + 0))) := rfl
  have e2 : rRest.tot x = x.1.size + (x.2.2.1.length + totE rI x.2.2.1 + (x.2.2.2.1.length + totE rI x.2.2.2.1 + 0)) := rfl
  rw [e, e2, cntE_int, cntE_int]
  omega
theorem cnt_rate (x : DRate) : mRate.cnt x ≤ 4 * (1 + rRate.tot x) := by
  have e : mRate.cnt x = 1 + (1 + (1 + (cntE mI x.2.2.2.1 + (1 + 0)))) := rfl
  have e2 : rRate.tot x = x.1.size + (x.2.1.size + (x.2.2.2.1.length + totE rI x.2.2.2.1 + 0)) := rfl
  rw [e, e2, cntE_int]
  omega
/-- a ledger that a caller owns may be marked -/
theorem mark_ledger (V0 V : Know) (c : Scs [.l, .l, .s, .l]) (x : DLedger) (f : List Nat) (h : rLedger.R V c x f) (ho : Own V0 V f) (ht : rLedger.tot x ≤ 1048576) :
    CallX Tryz.prog V gL_markLedger [Sh1.val (.g [.l, .l, .s, .l]) c, .int .i64 1] (fun V' r => LeBut f V V' ∧ ∃ k : Int, r = .int .i64 k ∧ 0 ≤ k) := by
  obtain ⟨c0, c1, c2, c3, cu⟩ := c
  obtain ⟨x0, x1, x2, x3, xu⟩ := x
  obtain ⟨f0, g0, rfl, h0, h⟩ := h
  obtain ⟨f1, g1, rfl, h1, h⟩ := h
  obtain ⟨_, h⟩ := h
  obtain ⟨f3, g3, rfl, h3, h⟩ := h
  replace h : g3 = [] := h
  subst h
  replace h0 : LR rAcct V c0 x0 f0 := h0
  replace h1 : LR rRest V c1 x1 f1 := h1
  replace h3 : LR rRate V c3 x3 f3 := h3
  have e2 : rLedger.tot (x0, x1, x2, x3, xu) = x0.length + totE rAcct x0 + (x1.length + totE rRest x1 + (x2.size + (x3.length + totE rRate x3 + 0))) := rfl
  have b0 := cntE_le cnt_acct x0
  have b1 := cntE_le cnt_rest x1
  have b3 := cntE_le cnt_rate x3
  obtain ⟨n, _, hw⟩ := ho
  have n0 := List.nodup_append.1 n
  have n1 := List.nodup_append.1 n0.2.1
  have n3 := List.nodup_append.1 n1.2.1
  refine (cL_markLedger V c0 c1 c2 c3 x0 x1 x3 f0 f1 f3 1 h0 h1 h3 n0.1 (fun y hy => hw y (by simp [hy])) n1.1 (fun y hy => hw y (by simp [hy])) n3.1 (fun y hy => hw y (by simp [hy]))
    (fun y hy hm => n0.2.2 y hy y (by simp [hm]) rfl) (fun y hy hm => n0.2.2 y hy y (by simp [hm]) rfl) (fun y hy hm => n1.2.2 y hy y (by simp [hm]) rfl) (by omega) (by omega)).mono ?_
  rintro V' r ⟨hb, rfl, _⟩
  exact ⟨hb, _, rfl, by omega⟩
theorem totP_len {x : DLedger} {cur : ByteArray} {y : DRat} {e : Bool} (h : TotP x cur y e) : y.2.1.length ≤ 18 ∧ y.2.2.1.length ≤ 18 := by
  rcases h with ⟨_, p, q, _, ⟨a, b, _, rfl⟩ | ⟨_, _, rfl⟩⟩ | ⟨_, rfl, _⟩
  · exact ⟨a, b⟩
  · simp
  · simp

theorem law_TotalOf {V : Know} (hV : hasCur V) {c : Scs [.l, .l, .s, .l]} {x : DLedger} {f : List Nat} (hx : rLedger.R V c x f) (cur : ByteArray) :
    CallX Tryz.prog V gL_FnExactTotalOf [Sh1.val (.g [.l, .l, .s, .l]) c, .string cur] (fun V' r => V.le V' ∧ r = .bool true) := by
  refine CallX.of_fits Tryz.mix (fL_FnExactTotalOf _ _) fun _ => ?_
  simp only [tL_FnExactTotalOf, T.wp]
  refine ⟨fun _ => ⟨Know.le.refl _, rfl⟩, fun _ => ?_⟩
  refine (cL_szLedger V c x f 1048576 hx (by omega) (by omega)).mono ?_
  rintro V1 r ⟨rfl, rfl⟩
  refine ⟨nofun, _, rfl, fun _ => ⟨Know.le.refl _, rfl⟩, fun h1 => ?_⟩
  have hp1 : ((rLedger.tot x : Nat) : Int) ≤ 1048576 := Decidable.not_not.1 fun k => (of_decide_eq_false h1) (szr_lt.2 k)
  have tx : rLedger.tot x ≤ 1048576 := by omega
  refine (cL_toLedger _ _ _ _ hx tx).mono ?_
  rintro V2 r ⟨le2, c2, f2, rfl, hr2, _⟩
  refine ⟨nofun, c2, rfl, (cS_TotalOf (V := V2) trivial c2 x f2 hr2 cur).mono ?_⟩
  rintro V3 r ⟨le3, c3, y, e, f3, rfl, R3, _, p3⟩
  have l3 := le2.trans le3
  refine ⟨nofun, (c3, e, ()), rfl, (cL_toLedger _ _ _ _ (rLedger.le hx l3) tx).mono ?_⟩
  rintro V4 r ⟨le4, c4, f4, rfl, hr4, o4⟩
  have l4 := l3.trans le4
  refine ⟨nofun, c4, rfl, (cI_TotalOf (HcI.le hV l4) c4 x f4 hr4 cur).mono ?_⟩
  rintro V5 r ⟨le5, c5, y', e', f5, rfl, R5, o5, p5⟩
  obtain ⟨rfl, rfl⟩ := totP_inj p3 p5
  have l5 := l4.trans le5
  have l45 := le4.trans le5
  refine ⟨nofun, (c5, e, ()), rfl, (cL_eqRat _ _ _ _ _ _ _ R5 (rRat.le R3 l45)).mono ?_⟩
  rintro V6 r ⟨rfl, b6, rfl, hb6⟩
  refine ⟨nofun, b6, rfl, (fun h => by simp [hb6.2 rfl] at h), fun _ => ⟨(fun h => by simp at h), fun _ => ?_⟩⟩
  refine (cL_toLedger _ _ _ _ (rLedger.le hx l5) tx).mono ?_
  rintro V7 r ⟨le7, c7, f7, rfl, hr7, _⟩
  have l57 := le5.trans le7
  refine ⟨fun _ => le7, c7, rfl, (cL_eqLedger _ _ _ _ _ _ _ (rLedger.le hr4 l57) hr7).mono ?_⟩
  rintro V8 r ⟨rfl, b8, rfl, hb8⟩
  refine ⟨fun _ => Know.le.refl _, b8, rfl, (fun h => by simp [hb8.2 rfl] at h), fun _ => ?_⟩
  -- the ledger that was handed over is marked
  refine (mark_ledger _ _ _ _ _ (rLedger.le hr4 l57) (o4.post l57) tx).mono ?_
  rintro V9 r ⟨bt9, k9, rfl, hk9⟩
  have f4none : ∀ b ∈ f4, V3 b = none := o4.2.1
  have l39 : V3.le V9 := le_but (le4.trans l57) f4none bt9
  have d54 : ∀ b ∈ f5, b ∉ f4 := fun b h5 h4 => by
    obtain ⟨z, hz⟩ := rLedger.kn hr4 b h4
    rw [o5.2.1 b h5] at hz; cases hz
  have R5' : rRat.R V9 c5 y f5 := rRat.but (rRat.le R5 le7) d54 bt9
  have W5 : Wr V9 f5 := fun b hb => by
    obtain ⟨q1, q2, q3⟩ := o5.2.2 b hb
    exact ⟨q1, q2, bt9 b _ (d54 b hb) (le7 _ _ q3)⟩
  have hk9' : ¬ k9 < 0 := by omega
  refine ⟨nofun, k9, rfl, (fun h => absurd (of_decide_eq_true h) hk9'), fun _ => ?_⟩
  refine (cL_eqRat _ _ _ _ _ _ _ R5' (rRat.le R3 l39)).mono ?_
  rintro V10 r ⟨rfl, b10, rfl, hb10⟩
  refine ⟨nofun, b10, rfl, (fun h => by simp [hb10.2 rfl] at h), fun _ => ⟨(fun h => by simp at h), fun _ => ?_⟩⟩
  -- the answer is marked
  obtain ⟨s, s', g, g', rfl, L1, L2, rfl⟩ := rat_elim R5'
  have hlen := totP_len p3
  have nn := List.nodup_append.1 o5.1
  have nn' := List.nodup_append.1 nn.2.1
  refine (cL_markRat V10 y.1 s s' y.2.1 y.2.2.1 g g' 1 L1 L2 nn.1 (fun b hb => W5 b (by simp [hb])) nn'.1 (fun b hb => W5 b (by simp [hb])) (fun b hb hm => nn.2.2 b hb b (by simp [hm]) rfl) (by omega) (by rw [cntE_int, cntE_int]; omega)).mono ?_
  rintro V11 r ⟨bt11, rfl, y1, y2, ⟨M1, _, k1, n1⟩, ⟨M2, _, k2, n2⟩⟩
  have l311 : V3.le V11 := le_but l39 (fun b hb => none_of_le le4 (o5.2.1 b hb)) bt11
  have l211 := l3.trans l311
  rw [← n1] at k2
  have key : ∀ V', V11.le V' → CallX Tryz.prog V' gL_heldRat [Sh1.val (.g [.b, .l, .l]) (y.1, s, s', ()), .int .i64 1] (fun V'' r => V'' = V' ∧ r = .int .i64 ((1 + ((cntE mI y.2.1 : Nat) : Int)) + ((cntE mI y.2.2.1 : Nat) : Int))) := fun V' hle => by
    have := cL_heldRat V' y.1 s s' y1 y2 g g' 1 (M1.le hle) (M2.le hle) (by omega) (by rw [n1, n2, cntE_int, cntE_int]; omega) k1 k2
    rw [n1, n2] at this
    exact this
  have hneg : ¬ ((1 + ((cntE mI y.2.1 : Nat) : Int)) + ((cntE mI y.2.2.1 : Nat) : Int)) < 0 := by omega
  refine ⟨nofun, _, rfl, (key V11 (Know.le.refl _)).mono ?_⟩
  rintro V12 r ⟨rfl, rfl⟩
  refine ⟨nofun, _, rfl, (fun h => absurd (of_decide_eq_true h) hneg), fun _ => ⟨(fun h => by simp at h), fun _ => ?_⟩⟩
  refine (cL_toLedger _ _ _ _ (rLedger.le hx l211) tx).mono ?_
  rintro V13 r ⟨le13, c13, f13, rfl, hr13, _⟩
  have l13 := l211.trans le13
  refine ⟨nofun, c13, rfl, (cI_TotalOf (HcI.le hV l13) c13 x f13 hr13 cur).mono ?_⟩
  rintro V14 r ⟨le14, c14, y'', e'', f14, rfl, R14, _, p14⟩
  obtain ⟨rfl, rfl⟩ := totP_inj p3 p14
  have l1114 := le13.trans le14
  refine ⟨nofun, (c14, e, ()), rfl, (cL_eqRat _ _ _ _ _ _ _ R14 (rRat.le R3 (l311.trans l1114))).mono ?_⟩
  rintro V15 r ⟨rfl, b15, rfl, hb15⟩
  refine ⟨nofun, b15, rfl, (fun h => by simp [hb15.2 rfl] at h), fun _ => ⟨(fun h => by simp at h), fun _ => ?_⟩⟩
  refine (key V15 l1114).mono ?_
  rintro V16 r ⟨rfl, rfl⟩
  exact ⟨nofun, _, rfl, (fun h => absurd (of_decide_eq_true h) hneg), fun _ => ⟨(fun h => by simp at h), fun _ => ⟨l13.trans le14, rfl⟩⟩⟩
end Go.Proofs.YtikhpnlglkipcaaGreatDoor
