/-
  Decimals: the least scale, comparison, tax rates, in the program and in the reference.
-/
import Derived.Test.YtpnjdpomoijaaaaGreatDoorDecA
namespace Go.Proofs.YtpnjdpomoijaaaaGreatDoor
open Sx
set_option maxRecDepth 100000

theorem loadV_le {V V' : Know} {a : Addr} {k : Nat} {x : List Value} (h : V.le V') (hl : loadV V a k = some x) : loadV V' a k = some x := by
  unfold loadV at hl ⊢
  split at hl
  · rename_i cs u h1 h2
    rw [h1, h _ _ h2]
    exact hl
  · cases hl

/-! the least scale -/
def LowPost (V : Know) (n : Bool) (m : List Lim) (sc : Int) : Know → Value → Prop := fun V' r => V.le V' ∧ ∃ (x : DecD) (t : SlV) (f : List Nat), r = decV x.1 t x.2.2.1 ∧ LR rI V' t x.2.1 f ∧ Own V V' f ∧ LowD n m sc x
theorem low_of {n : Bool} {m : List Lim} {sc : Int} {j : Nat} {x : DecD} (hj : (j : Int) ≤ sc) (h : At n m sc j x true) (hb : ∀ (u : Int) z, 0 ≤ u → u < j → ¬ Goes n m sc u z) : LowD n m sc x := by
  rcases h with ⟨_, y, rfl, h⟩ | ⟨h, _⟩
  · exact ⟨j, y, by omega, hj, rfl, h, hb⟩
  · cases h
theorem low_next {n : Bool} {m : List Lim} {sc : Int} {j : Nat} {x : DecD} (hd : DecOkP n m sc) (hj : (j : Int) ≤ sc) (h : At n m sc j x false) (hb : ∀ (u : Int) z, 0 ≤ u → u < j → ¬ Goes n m sc u z) :
    ((j + 1 : Nat) : Int) ≤ sc ∧ ∀ (u : Int) z, 0 ≤ u → u < ((j + 1 : Nat) : Int) → ¬ Goes n m sc u z := by
  have hn : ∀ y, ¬ Goes n m sc j y := by
    rcases h with ⟨h, _⟩ | ⟨_, _, h⟩
    · cases h
    · exact h
  refine ⟨?_, fun u z h0 h1 => ?_⟩
  · by_cases e : (j : Int) = sc
    · have := hn m
      rw [e] at this
      exact absurd (goes_self hd) this
    · omega
  · by_cases e : u = j
    · subst e; exact hn z
    · exact hb u z h0 (by omega)
theorem cI_DecLow (V : Know) (n : Bool) (t : SlV) (m : List Lim) (f : List Nat) (sc : Int) (h : LR rI V t m f) (hd : DecOkP n m sc) : CallX Tryz.prog V gI_DecLow [decV n t sc] (LowPost V n m sc) := by
  refine CallX.of_fits Tryz.mix (fI_DecLow _) fun _ => ?_
  simp only [tI_DecLow, T.wp]
  have hsc := hd.2.2
  refine ⟨fun y V' => V.le V' ∧ ∃ j : Nat, y.1 = (j : Int) ∧ (j : Int) ≤ sc ∧ ∀ (u : Int) z, 0 ≤ u → u < j → ¬ Goes n m sc u z, fun y => (31 - (y.1 : Int)).toNat, ⟨((0 : Int), false, ⟨none, 0, 0⟩, (0 : Int), ()), rfl, Know.le.refl _, 0, rfl, by omega, fun u z h0 h1 => by omega⟩, ?_⟩
  rintro ⟨(i : Int), (y2 : Bool), (y3 : SlV), (y4 : Int), u⟩ V' ⟨hle, j, hj, hjs, hb⟩
  replace hj : i = (j : Int) := hj
  subst hj
  refine ⟨fun _ => ⟨fun _ => ?_, fun hf => ?_⟩, fun hf => ?_⟩
  · refine (cI_DecAt V' n t m f sc j (h.le hle)).mono ?_
    rintro V2 _ ⟨le2, x, t2, e, f2, rfl, L2, O2, hA⟩
    refine ⟨nofun, ((x.1, t2, x.2.2.1, ()), e, ()), rfl, fun he => ?_, fun he => ?_⟩
    · obtain rfl : e = true := he
      exact ⟨hle.trans le2, x, t2, f2, rfl, L2, O2.pre hle, low_of hjs hA hb⟩
    · obtain rfl : e = false := he
      obtain ⟨h1, h2⟩ := low_next hd hjs hA hb
      refine ⟨_, rfl, (((j + 1 : Nat) : Int), y2, y3, y4, ()), ?_, ⟨hle.trans le2, j + 1, rfl, h1, h2⟩, ?_⟩
      · show [LV.v (.int .i64 (IntKind.i64.wrap ((j : Int) + 1))), _, _, _] = _
        rw [wrap_i64 (by omega)]
        rfl
      · show (31 - ((j + 1 : Nat) : Int)).toNat < (31 - (j : Int)).toNat
        omega
  · have : ¬ (j : Int) ≤ 30 := of_decide_eq_false hf
    omega
  · have : ¬ (j : Int) ≤ sc := of_decide_eq_false hf
    omega
theorem cS_DecLow (V : Know) (n : Bool) (t : SlV) (m : List Lim) (f : List Nat) (sc : Int) (h : LR rI V t m f) (hd : DecOkP n m sc) : CallX Tryz.prog V gS_DecLow [decV n t sc] (LowPost V n m sc) := by
  refine CallX.of_fits Tryz.mix (fS_DecLow _) fun _ => ?_
  simp only [tS_DecLow, T.wp]
  have hsc := hd.2.2
  refine ⟨fun y V' => V.le V' ∧ ∃ j : Nat, y.1 = (j : Int) ∧ (j : Int) ≤ sc ∧ ∀ (u : Int) z, 0 ≤ u → u < j → ¬ Goes n m sc u z, fun y => (31 - (y.1 : Int)).toNat, ⟨((0 : Int), false, ⟨none, 0, 0⟩, (0 : Int), ()), rfl, Know.le.refl _, 0, rfl, by omega, fun u z h0 h1 => by omega⟩, ?_⟩
  rintro ⟨(i : Int), (y2 : Bool), (y3 : SlV), (y4 : Int), u⟩ V' ⟨hle, j, hj, hjs, hb⟩
  replace hj : i = (j : Int) := hj
  subst hj
  refine ⟨fun _ => ?_, fun hf => ?_⟩
  · refine (cS_DecAt V' n t m f sc j (h.le hle)).mono ?_
    rintro V2 _ ⟨le2, x, t2, e, f2, rfl, L2, O2, hA⟩
    refine ⟨nofun, ((x.1, t2, x.2.2.1, ()), e, ()), rfl, fun he => ?_, fun he => ?_⟩
    · obtain rfl : e = true := he
      exact ⟨hle.trans le2, x, t2, f2, rfl, L2, O2.pre hle, low_of hjs hA hb⟩
    · obtain rfl : e = false := he
      obtain ⟨h1, h2⟩ := low_next hd hjs hA hb
      refine ⟨_, rfl, (((j + 1 : Nat) : Int), y2, y3, y4, ()), ?_, ⟨hle.trans le2, j + 1, rfl, h1, h2⟩, ?_⟩
      · show [LV.v (.int .i64 (IntKind.i64.wrap ((j : Int) + 1))), _, _, _] = _
        rw [wrap_i64 (by omega)]
        rfl
      · show (31 - ((j + 1 : Nat) : Int)).toNat < (31 - (j : Int)).toNat
        omega
  · have : ¬ (j : Int) ≤ 30 := of_decide_eq_false hf
    omega

/-! comparison -/
def topS (a b : Int) : Int := if b > a then b else a
def cmpD (n : Bool) (m : List Lim) (sc : Int) (n' : Bool) (m' : List Lim) (sc' : Int) : Int :=
  sgn (sval n m * ten (topS sc sc' - sc).toNat - sval n' m' * ten (topS sc sc' - sc').toNat)
theorem topS_le (a b : Int) : a ≤ topS a b ∧ b ≤ topS a b := by unfold topS; split <;> omega
theorem topS_max {a b c : Int} (h : a ≤ c) (k : b ≤ c) : topS a b ≤ c := by unfold topS; split <;> omega
theorem sval_up {n : Bool} {m o : List Lim} {k : Nat} (h : valN o = valN m * ten k) : sval n o = sval n m * ten k := by
  unfold sval
  split
  · rw [h, Int.neg_mul]
  · exact h
theorem cI_DecCmp (V : Know) (n : Bool) (t : SlV) (m : List Lim) (f : List Nat) (sc : Int) (n' : Bool) (t' : SlV) (m' : List Lim) (f' : List Nat) (sc' : Int) (h : LR rI V t m f) (h' : LR rI V t' m' f') (hd : DecOkP n m sc) (hd' : DecOkP n' m' sc') :
    CallX Tryz.prog V gI_DecCmp [decV n t sc, decV n' t' sc'] (fun V' r => V.le V' ∧ r = .int .i64 (cmpD n m sc n' m' sc')) := by
  refine CallX.of_fits Tryz.mix (fI_DecCmp _ _) fun _ => ?_
  simp only [tI_DecCmp, T.wp]
  have t1 := topS_le sc sc'
  have t2 := topS_max hd.2.2.2 hd'.2.2.2
  refine (cI_DecOk V n t sc m f h).mono ?_
  rintro V1 r ⟨rfl, e, rfl, he⟩
  obtain rfl : e = true := he.2 hd
  refine ⟨nofun, true, rfl, (fun h => by cases h), fun _ => (cI_DecOk V1 n' t' sc' m' f' h').mono ?_⟩
  rintro V2 r ⟨rfl, e, rfl, he⟩
  obtain rfl : e = true := he.2 hd'
  refine ⟨nofun, true, rfl, (fun h => by cases h), fun _ => (cI_scaled V2 (topS sc sc')).mono ?_⟩
  rintro V3 _ ⟨le3, a, rfl, ha⟩
  refine ⟨nofun, (gI_scaled_1, a), rfl, (cI_scaled_1 V3 n t sc _ m f a (h.le le3) hd t1.1 t2 ha).mono ?_⟩
  rintro V4 _ ⟨le4, s4, o4, f4, rfl, L4, _, ho4, hv4, hl4, _⟩
  refine ⟨fun _ => le4, (n, s4, ()), rfl, (cI_scaled_1 V4 n' t' sc' _ m' f' a (h'.le (le3.trans le4)) hd' t1.2 t2 (loadV_le le4 ha)).mono ?_⟩
  rintro V5 _ ⟨le5, s5, o5, f5, rfl, L5, _, ho5, hv5, hl5, _⟩
  refine ⟨fun _ => le5, (n', s5, ()), rfl, (cI_intCmp V5 n s4 n' s5 o4 o5 f4 f5 (L4.le le5) L5 ho4 ho5 (by omega) (by omega)).mono ?_⟩
  rintro V6 _ ⟨le6, rfl⟩
  refine ⟨fun _ => le6, _, rfl, ((le3.trans le4).trans le5).trans le6, ?_⟩
  rw [sval_up hv4, sval_up hv5]
  rfl
def BothPost (V : Know) (n : Bool) (m : List Lim) (sc : Int) (n' : Bool) (m' : List Lim) (sc' : Int) : Know → Value → Prop := fun V' r => V.le V' ∧ ∃ s1 s2 o1 o2 f1 f2, r = .tuple #[Sh1.val (.g [.b, .l]) (n, s1, ()), Sh1.val (.g [.b, .l]) (n', s2, ()), .int .i64 (topS sc sc')] ∧
  LR rI V' s1 o1 f1 ∧ LR rI V' s2 o2 f2 ∧ IntOkP n o1 ∧ IntOkP n' o2 ∧ valN o1 = valN m * ten (topS sc sc' - sc).toNat ∧ valN o2 = valN m' * ten (topS sc sc' - sc').toNat
theorem cS_l07Both (V : Know) (n : Bool) (t : SlV) (m : List Lim) (f : List Nat) (sc : Int) (n' : Bool) (t' : SlV) (m' : List Lim) (f' : List Nat) (sc' : Int) (h : LR rI V t m f) (h' : LR rI V t' m' f') (hd : DecOkP n m sc) (hd' : DecOkP n' m' sc') :
    CallX Tryz.prog V gS_l07Both [decV n t sc, decV n' t' sc'] (BothPost V n m sc n' m' sc') := by
  refine CallX.of_fits Tryz.mix (fS_l07Both _ _) fun _ => ?_
  simp only [tS_l07Both, T.wp]
  have t1 := topS_le sc sc'
  have t2 := topS_max hd.2.2.2 hd'.2.2.2
  have s0 := hd.2.2.1
  have s0' := hd'.2.2.1
  have w1 : IntKind.i64.wrap (topS sc sc' - sc) = (((topS sc sc' - sc).toNat : Nat) : Int) := by rw [wrap_i64 (by omega)]; omega
  have w2 : IntKind.i64.wrap (topS sc sc' - sc') = (((topS sc sc' - sc').toNat : Nat) : Int) := by rw [wrap_i64 (by omega)]; omega
  refine ⟨fun hg => ?_, fun hl => ?_⟩
  · have e : sc' = topS sc sc' := by
      have : sc' > sc := of_decide_eq_true hg
      unfold topS
      rw [if_pos this]
    have w1' : IntKind.i64.wrap (sc' - sc) = (((topS sc sc' - sc).toNat : Nat) : Int) := by rw [← w1, ← e]
    have w2' : IntKind.i64.wrap (sc' - sc') = (((topS sc sc' - sc').toNat : Nat) : Int) := by rw [← w2, ← e]
    rw [w1', w2']
    refine (cS_l07Ten V _ (by omega)).mono ?_
    rintro V1 _ ⟨le1, u1, g1, rfl, M1, _⟩
    refine ⟨fun _ => le1, (false, u1, ()), rfl, (cS_up V1 n t u1 m f g1 _ (h.le le1) M1 hd.1 hd.2.1 (by omega)).mono ?_⟩
    rintro V2 _ ⟨le2, s2, o2, f2, rfl, L2, _, ho2, hv2, hl2, hp2⟩
    refine ⟨fun _ => le2, (n, s2, ()), rfl, (cS_l07Ten V2 _ (by omega)).mono ?_⟩
    rintro V3 _ ⟨le3, u3, g3, rfl, M3, _⟩
    have l3 := (le1.trans le2).trans le3
    refine ⟨fun _ => le3, (false, u3, ()), rfl, (cS_up V3 n' t' u3 m' f' g3 _ (h'.le l3) M3 hd'.1 hd'.2.1 (by omega)).mono ?_⟩
    rintro V4 _ ⟨le4, s4, o4, f4, rfl, L4, _, ho4, hv4, hl4, hp4⟩
    refine ⟨fun _ => le4, (n', s4, ()), rfl, l3.trans le4, s2, s4, o2, o4, f2, f4, ?_, L2.le (le3.trans le4), L4, ⟨⟨ho2, by omega⟩, hp2⟩, ⟨⟨ho4, by omega⟩, hp4⟩, hv2, hv4⟩
    rw [← e]
    rfl
  · have e : sc = topS sc sc' := by
      have : ¬ sc' > sc := of_decide_eq_false hl
      unfold topS
      rw [if_neg this]
    have w1' : IntKind.i64.wrap (sc - sc) = (((topS sc sc' - sc).toNat : Nat) : Int) := by rw [← w1, ← e]
    have w2' : IntKind.i64.wrap (sc - sc') = (((topS sc sc' - sc').toNat : Nat) : Int) := by rw [← w2, ← e]
    rw [w1', w2']
    refine (cS_l07Ten V _ (by omega)).mono ?_
    rintro V1 _ ⟨le1, u1, g1, rfl, M1, _⟩
    refine ⟨fun _ => le1, (false, u1, ()), rfl, (cS_up V1 n t u1 m f g1 _ (h.le le1) M1 hd.1 hd.2.1 (by omega)).mono ?_⟩
    rintro V2 _ ⟨le2, s2, o2, f2, rfl, L2, _, ho2, hv2, hl2, hp2⟩
    refine ⟨fun _ => le2, (n, s2, ()), rfl, (cS_l07Ten V2 _ (by omega)).mono ?_⟩
    rintro V3 _ ⟨le3, u3, g3, rfl, M3, _⟩
    have l3 := (le1.trans le2).trans le3
    refine ⟨fun _ => le3, (false, u3, ()), rfl, (cS_up V3 n' t' u3 m' f' g3 _ (h'.le l3) M3 hd'.1 hd'.2.1 (by omega)).mono ?_⟩
    rintro V4 _ ⟨le4, s4, o4, f4, rfl, L4, _, ho4, hv4, hl4, hp4⟩
    refine ⟨fun _ => le4, (n', s4, ()), rfl, l3.trans le4, s2, s4, o2, o4, f2, f4, ?_, L2.le (le3.trans le4), L4, ⟨⟨ho2, by omega⟩, hp2⟩, ⟨⟨ho4, by omega⟩, hp4⟩, hv2, hv4⟩
    rw [← e]
    rfl
theorem cS_DecCmp (V : Know) (n : Bool) (t : SlV) (m : List Lim) (f : List Nat) (sc : Int) (n' : Bool) (t' : SlV) (m' : List Lim) (f' : List Nat) (sc' : Int) (h : LR rI V t m f) (h' : LR rI V t' m' f') (hd : DecOkP n m sc) (hd' : DecOkP n' m' sc') :
    CallX Tryz.prog V gS_DecCmp [decV n t sc, decV n' t' sc'] (fun V' r => V.le V' ∧ r = .int .i64 (cmpD n m sc n' m' sc')) := by
  refine CallX.of_fits Tryz.mix (fS_DecCmp _ _) fun _ => ?_
  simp only [tS_DecCmp, T.wp]
  refine (cS_DecOk V n t sc m f h).mono ?_
  rintro V1 r ⟨rfl, e, rfl, he⟩
  obtain rfl : e = true := he.2 hd
  refine ⟨nofun, true, rfl, (fun h => by cases h), fun _ => (cS_DecOk V1 n' t' sc' m' f' h').mono ?_⟩
  rintro V2 r ⟨rfl, e, rfl, he⟩
  obtain rfl : e = true := he.2 hd'
  refine ⟨nofun, true, rfl, (fun h => by cases h), fun _ => (cS_l07Both V2 n t m f sc n' t' m' f' sc' h h' hd hd').mono ?_⟩
  rintro V3 _ ⟨le3, s1, s2, o1, o2, f1, f2, rfl, L1, L2, i1, i2, v1, v2⟩
  refine ⟨nofun, ((n, s1, ()), (n', s2, ()), topS sc sc', ()), rfl, (cS_IntCmp V3 n s1 n' s2 o1 o2 f1 f2 L1 L2 i1 i2).mono ?_⟩
  rintro V4 _ ⟨rfl, rfl⟩
  refine ⟨nofun, _, rfl, le3, ?_⟩
  rw [sval_up v1, sval_up v2]
  rfl

/-! tax rates -/
theorem cI_IntOne (V : Know) : CallX Tryz.prog V gI_IntOf [.int .i64 1] (fun V' r => V.le V' ∧ ∃ s f, r = Sh1.val (.g [.b, .l]) (false, s, ()) ∧ LR rI V' s [(1, ())] f) := by
  refine CallX.of_fits Tryz.mix (fI_IntOf _) fun _ => ?_
  simp only [tI_IntOf, T.wp]
  refine ⟨fun h => ?_, fun _ => ?_⟩
  · have : (1 : Int) < 0 := of_decide_eq_true h
    omega
  rw [show IntKind.u64.wrap 1 = 1 from wrap_u64 (by omega)]
  refine (cI_natOf V 1 (by omega)).mono ?_
  rintro V1 _ ⟨le1, s, o, f, rfl, L, _, C, v, _⟩
  have e : o = [(1, ())] := can_inj C ⟨lims_one (by decide), .inr (by decide)⟩ (by rw [v, valN_one])
  subst e
  exact ⟨nofun, s, rfl, le1, s, f, rfl, L⟩
theorem cS_IntOne (V : Know) : CallX Tryz.prog V gS_IntOf [.int .i64 1] (fun V' r => V.le V' ∧ ∃ s f, r = Sh1.val (.g [.b, .l]) (false, s, ()) ∧ LR rI V' s [(1, ())] f) := by
  refine CallX.of_fits Tryz.mix (fS_IntOf _) fun _ => ?_
  simp only [tS_IntOf, T.wp]
  refine ⟨fun h => ?_, fun _ => ⟨fun h => ?_, fun _ => ?_⟩⟩
  · have : (1 : Int) = -9223372036854775808 := by simp at h
    omega
  · have : (1 : Int) < 0 := of_decide_eq_true h
    omega
  refine (cS_NatOf V 1 (by omega)).mono ?_
  rintro V1 _ ⟨le1, s, o, f, rfl, L, _, C, v, _⟩
  have e : o = [(1, ())] := can_inj C ⟨lims_one (by decide), .inr (by decide)⟩ (by rw [v, valN_one])
  subst e
  refine ⟨nofun, s, rfl, (cS_l04Make V1 false s _ f L C (by simp)).mono ?_⟩
  rintro V2 _ ⟨le2, s2, f2, rfl, L2, _⟩
  exact ⟨nofun, (false, s2, ()), rfl, le1.trans le2, s2, f2, rfl, L2⟩
def TaxP (n : Bool) (m : List Lim) (sc : Int) : Prop := DecOkP n m sc ∧ m.length ≤ 1 ∧ n = false ∧ cmpD n m sc false [(1, ())] 0 ≤ 0
theorem one_ok : DecOkP false [(1, ())] 0 := ⟨⟨⟨⟨lims_one (by decide), .inr (by decide)⟩, by simp⟩, (fun h => by cases h)⟩, by simp, by omega, by omega⟩
theorem cI_TaxRateOk (V : Know) (n : Bool) (t : SlV) (m : List Lim) (f : List Nat) (sc : Int) (h : LR rI V t m f) : CallX Tryz.prog V gI_TaxRateOk [decV n t sc] (OkPost V (TaxP n m sc)) := by
  refine CallX.of_fits Tryz.mix (fI_TaxRateOk _) fun _ => ?_
  simp only [tI_TaxRateOk, T.wp]
  have hn := h.1
  refine (cI_DecOk V n t sc m f h).mono ?_
  rintro V1 r ⟨rfl, e, rfl, he⟩
  refine ⟨fun _ => Know.le.refl _, e, rfl, fun ht => ⟨fun h1 => ⟨fun hb => ?_, fun hb => ?_⟩, fun h1 => ?_⟩, fun hf => not_ok (Know.le.refl _) fun k => ?_⟩
  · have q : (t.n : Int) ≤ 1 := of_decide_eq_true h1
    have hb' : n = false := by simpa using hb
    refine (cI_IntOne V1).mono ?_
    rintro V2 _ ⟨le2, s2, f2, rfl, L2⟩
    refine ⟨fun _ => le2, (false, s2, ()), rfl, (cI_DecCmp V2 n t m f sc false s2 _ f2 0 (h.le le2) L2 (he.1 ht) one_ok).mono ?_⟩
    rintro V3 _ ⟨le3, rfl⟩
    exact ⟨fun _ => le3, _, rfl, le2.trans le3, _, rfl, ⟨fun hd => ⟨he.1 ht, by omega, hb', of_decide_eq_true hd⟩, fun k => decide_eq_true k.2.2.2⟩⟩
  · exact not_ok (Know.le.refl _) fun k => by rw [k.2.2.1] at hb; cases hb
  · have q : ¬ (t.n : Int) ≤ 1 := of_decide_eq_false h1
    exact not_ok (Know.le.refl _) fun k => by have := k.2.1; omega
  · rw [he.2 k.1] at hf; cases hf
theorem cS_TaxRateOk (V : Know) (n : Bool) (t : SlV) (m : List Lim) (f : List Nat) (sc : Int) (h : LR rI V t m f) : CallX Tryz.prog V gS_TaxRateOk [decV n t sc] (OkPost V (TaxP n m sc)) := by
  refine CallX.of_fits Tryz.mix (fS_TaxRateOk _) fun _ => ?_
  simp only [tS_TaxRateOk, T.wp]
  have hn := h.1
  refine (cS_DecOk V n t sc m f h).mono ?_
  rintro V1 r ⟨rfl, e, rfl, he⟩
  refine ⟨fun _ => Know.le.refl _, e, rfl, fun ht => ⟨fun hb => ⟨fun h1 => ?_, fun h1 => ?_⟩, fun hb => ?_⟩, fun hf => not_ok (Know.le.refl _) fun k => ?_⟩
  · have q : (t.n : Int) ≤ 1 := of_decide_eq_true h1
    have hb' : n = false := by simpa using hb
    refine (cS_IntOne V1).mono ?_
    rintro V2 _ ⟨le2, s2, f2, rfl, L2⟩
    refine ⟨fun _ => le2, (false, s2, ()), rfl, (cS_DecCmp V2 n t m f sc false s2 _ f2 0 (h.le le2) L2 (he.1 ht) one_ok).mono ?_⟩
    rintro V3 _ ⟨le3, rfl⟩
    exact ⟨fun _ => le3, _, rfl, le2.trans le3, _, rfl, ⟨fun hd => ⟨he.1 ht, by omega, hb', of_decide_eq_true hd⟩, fun k => decide_eq_true k.2.2.2⟩⟩
  · have q : ¬ (t.n : Int) ≤ 1 := of_decide_eq_false h1
    exact not_ok (Know.le.refl _) fun k => by have := k.2.1; omega
  · exact not_ok (Know.le.refl _) fun k => by rw [k.2.2.1] at hb; cases hb
  · rw [he.2 k.1] at hf; cases hf
end Go.Proofs.YtpnjdpomoijaaaaGreatDoor
