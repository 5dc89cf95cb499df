/-
  The first best amount of a list, in the program and in the reference.
-/
import Derived.Test.YtagimdcegmpbmaaDoorCmp
namespace Go.Proofs.YtagimdcegmpbmaaDoor
open Sx
set_option maxRecDepth 100000

theorem setl_all {xs ys : List Value} (h : ys.length = xs.length) : setl xs 0 ys = ys := by
  simp only [setl, List.take_zero, List.nil_append, Nat.zero_add]
  rw [List.drop_of_length_le (by omega), List.append_nil]

theorem cI_moneyCopy (V : Know) (c0 : ByteArray) (c1 : Bool) (c2 : SlV) (l : List Lim) (f : List Nat) (h : LR rI V c2 l f) (hl : l.length ≤ 1048576) :
    CallX Tryd.prog V gI_moneyCopy [Sh1.val (.g [.s, .b, .l]) (c0, c1, c2, ())] (fun V' r => V.le V' ∧ ∃ s f', r = Sh1.val (.g [.s, .b, .l]) (c0, c1, s, ()) ∧ LR rI V' s l f' ∧ Own V V' f') := by
  refine CallX.of_fits Tryd.mix (fI_moneyCopy _) fun _ => ?_
  simp only [tI_moneyCopy, T.wp]
  obtain ⟨h1, h2⟩ := h.rdI
  have hn := h.1
  refine ⟨⟨by omega, by omega, by omega, by omega⟩, _, h1, h2, h2, ?_⟩
  intro b cap spare hb hc
  have htk : List.take (Nat.min c2.n (c2.n : Int).toNat) (l.map cellI) = l.map cellI := by
    apply List.take_of_length_le
    have : Nat.min c2.n (c2.n : Int).toNat = c2.n := by
      have e : (c2.n : Int).toNat = c2.n := by omega
      rw [e]; exact Nat.min_self _
    rw [this]; simp; omega
  have hset : setl (madeCells ⟨[.int .i64 (0 : Int)]⟩ ((c2.n : Int).toNat * 1)).toList 0 (List.take (Nat.min c2.n (c2.n : Int).toNat) (l.map cellI)) = l.map cellI := by
    rw [htk]
    exact setl_all (by rw [made_len]; simp; omega)
  have hc' : l.length ≤ cap := by omega
  have hk := newI (V := V) (b := b) (cap := l.length) (o := l) (spare := spare) (t := 3) hb (Nat.le_refl _) (by omega)
  refine ⟨⟨by omega, by omega, by omega, by omega⟩, ?_⟩
  have hV := kset_le (x := (l.map cellI ++ spare, ((3 : TypeId), ((0, 0) : Nat × Nat)))) hb
  have e1 : ((((c2.n : Int).toNat : Nat) : Int).toNat - Int.toNat (0 : Int)) = l.length := by omega
  have e2 : (if (((c2.n : Int).toNat : Nat) : Int).toNat = Int.toNat (0 : Int) then (some ⟨b, 0, none⟩ : Option Addr) else Option.map (fun (x : Addr) => x.add (Int.toNat (0 : Int) * Tryd.prog.types[(3 : Nat)].size)) (some (⟨b, 0, none⟩ : Addr))) = some ⟨b, 0, none⟩ := by
    split
    · rfl
    · simp [Addr.add]
  show V.le (kset V b (setl (madeCells ⟨[.int .i64 (0 : Int)]⟩ ((c2.n : Int).toNat * 1)).toList 0 (List.take (Nat.min c2.n (c2.n : Int).toNat) (l.map cellI)) ++ spare, ((3 : TypeId), ((0, 0) : Nat × Nat)))) ∧ _
  rw [hset]
  refine ⟨hV, ⟨some ⟨b, 0, none⟩, l.length, l.length⟩, [b], ?_, hk.1, hk.2⟩
  show Sh1.val (.g [.s, .b, .l]) (c0, c1, ⟨(if (((c2.n : Int).toNat : Nat) : Int).toNat = Int.toNat (0 : Int) then (some ⟨b, 0, none⟩ : Option Addr) else Option.map (fun (x : Addr) => x.add (Int.toNat (0 : Int) * Tryd.prog.types[(3 : Nat)].size)) (some (⟨b, 0, none⟩ : Addr))),
    ((((c2.n : Int).toNat : Nat) : Int).toNat - Int.toNat (0 : Int)), ((((c2.n : Int).toNat : Nat) : Int).toNat - Int.toNat (0 : Int))⟩, ()) = _
  rw [e1, e2]

theorem cS_l17Money (V : Know) (c0 : ByteArray) (c1 : Bool) (c2 : SlV) (l : List Lim) (f : List Nat) (h : LR rI V c2 l f) (hl : l.length ≤ 1048576) :
    CallX Tryd.prog V gS_l17Money [Sh1.val (.g [.s, .b, .l]) (c0, c1, c2, ())] (fun V' r => V.le V' ∧ ∃ s f', r = Sh1.val (.g [.s, .b, .l]) (c0, c1, s, ()) ∧ LR rI V' s l f' ∧ Own V V' f') := by
  refine CallX.of_fits Tryd.mix (fS_l17Money _) fun _ => ?_
  simp only [tS_l17Money, T.wp]
  obtain ⟨h1, h2⟩ := h.rdI
  have hn := h.1
  intro b1 hb1
  have hV1 := kset_le (x := (([] : List Value), ((3 : TypeId), ((0, 0) : Nat × Nat)))) hb1
  refine ⟨l.map cellI, ?_, ⟨h2, (by omega : c2.n * 8 ≤ 140737488355328), (by omega : c2.n ≤ 9223372036854775807)⟩, fun hz => ?_, fun hz b3 cap spare hb3 hc => ?_⟩
  · rcases h1 with ⟨q1, _, q3⟩ | q
    · exact .inl ⟨q1, q3⟩
    · exact .inr q
  · have hz' : c2.n = 0 := of_decide_eq_true hz
    have : l = [] := List.eq_nil_of_length_eq_zero (by omega)
    subst this
    have hk := newI (V := V) (b := b1) (cap := 0) (o := []) (spare := []) (t := 3) hb1 (Nat.le_refl _) (by simp)
    exact ⟨hV1, _, _, rfl, hk.1, hk.2⟩
  · have hc' : l.length ≤ cap := by rw [← hn]; exact hc
    have hk := newI (V := kset V b1 (([] : List Value), ((3 : TypeId), ((0, 0) : Nat × Nat)))) (b := b3) (cap := cap) (o := l) (spare := spare) (t := 3) hb3 hc' (by omega)
    have hV3 := kset_le (x := (l.map cellI ++ spare, ((3 : TypeId), ((0, 0) : Nat × Nat)))) hb3
    refine ⟨hV1.trans hV3, ⟨some ⟨b3, 0, none⟩, c2.n, cap⟩, [b3], rfl, ?_, hk.2.pre hV1⟩
    rw [hn]; exact hk.1

noncomputable def pick (sign : Int) (x out : DMoney) : DMoney := if sgn (sval x.2.1 x.2.2.1 - sval out.2.1 out.2.2.1) = sign then x else out
open Classical in
noncomputable def bestF (sign : Int) (l0 : DMoney) : List DMoney → DMoney → Option DMoney
  | [], out => some out
  | m :: r, out => if AlikeP m l0 then bestF sign l0 r (pick sign m out) else none
def zeroM : DMoney := (⟨#[]⟩, false, [], ())
noncomputable def bestOf (sign : Int) (l : List DMoney) : Bool × DMoney := match l with
  | [] => (false, zeroM)
  | l0 :: r => match bestF sign l0 (l0 :: r) l0 with
    | some x => (true, x)
    | none => (false, zeroM)
def zeroC : Scs [.s, .b, .l] := (⟨#[]⟩, false, ⟨none, 0, 0⟩, ())
theorem zeroR (V : Know) : rMoney.R V zeroC zeroM [] := rStr.mk (by decide) (rBool.mk (rSl.mk (f := []) ⟨rfl, Nat.le_refl _, by decide, .inl ⟨rfl, fun _ => rfl, rfl⟩⟩ rNil.mk))

theorem bestF_yes {sign : Int} {l0 m : DMoney} {r : List DMoney} {out : DMoney} (h : AlikeP m l0) : bestF sign l0 (m :: r) out = bestF sign l0 r (pick sign m out) := by rw [bestF, if_pos h]
theorem bestF_no {sign : Int} {l0 m : DMoney} {r : List DMoney} {out : DMoney} (h : ¬ AlikeP m l0) : bestF sign l0 (m :: r) out = none := by rw [bestF, if_neg h]

def BestC (g : Nat) (V : Know) : Prop := ∀ (sign : Int) (s : SlV) (l : List DMoney) (f : List Nat), (sign = 1 ∨ sign = -1) → LR rMoney V s l f →
  CallX Tryd.prog V g [Sc.val .l s, .int .i64 sign] (fun V' r => V.le V' ∧ ∃ c f', r = .tuple #[Sh1.val (.g [.s, .b, .l]) c, .bool (bestOf sign l).1] ∧ rMoney.R V' c (bestOf sign l).2 f' ∧ Own V V' f')

/-- what is carried round -/
def BestI (V : Know) (sign : Int) (l0 : DMoney) (l : List DMoney) (y : LShs [.o (.o (.i .i64)), .o (.o (.s)), .o (.o (.b)), .o (.o (.l)), .o (.o (.s)), .o (.o (.b)), .o (.o (.l))]) (V' : Know) : Prop :=
  V.le V' ∧ ∃ (k : Nat) (out : DMoney) (fo : List Nat), y.1 = (k : Int) ∧ k ≤ l.length ∧ rMoney.R V' y.2.2.2.2 out fo ∧ bestF sign l0 (l.drop k) out = bestF sign l0 l l0 ∧ ((k = 0 ∧ out = l0) ∨ AlikeP out l0)

theorem alike_of {m out l0 : DMoney} (h : out = l0 ∨ AlikeP out l0) : AlikeP m l0 → AlikeP m out := by
  rcases h with rfl | h
  · exact id
  · exact fun k => ⟨k.1, h.1, k.2.2.trans h.2.2.symm⟩
theorem alike_to {m out l0 : DMoney} (h : out = l0 ∨ AlikeP out l0) : AlikeP m out → AlikeP m l0 := by
  rcases h with rfl | h
  · exact id
  · exact fun k => ⟨k.1, h.2.1, k.2.2.trans h.2.2⟩

theorem cS_l25Best (V : Know) : BestC gS_l25Best V := by
  intro sign s l f hsign h
  refine CallX.of_fits Tryd.mix (fS_l25Best _ _) fun _ => ?_
  have hn := h.1
  have hb63 := h.2.2.1
  simp only [tS_l25Best, T.wp]
  refine ⟨fun h0 => ?_, fun h0 => ?_⟩
  · have : (s.n : Int) = 0 := by simpa using h0
    have : l = [] := List.eq_nil_of_length_eq_zero (by omega)
    subst this
    exact ⟨Know.le.refl _, zeroC, [], rfl, zeroR V, Own.nil⟩
  have hpos : 0 < l.length := by
    have : ¬ (s.n : Int) = 0 := by simpa using h0
    omega
  obtain ⟨b0, o0, cA, fA, a0, l0ld, r0, _⟩ := h.at (i := 0) hpos
  obtain ⟨l0, rest, rfl⟩ : ∃ l0 rest, l = l0 :: rest := by
    cases l with
    | nil => simp at hpos
    | cons x r => exact ⟨x, r, rfl⟩
  simp only [List.getElem_cons_zero] at r0
  have hbo : ∀ x, bestF sign l0 (l0 :: rest) l0 = some x → bestOf sign (l0 :: rest) = (true, x) := fun x hx => by rw [bestOf, hx]
  have hbn : bestF sign l0 (l0 :: rest) l0 = none → bestOf sign (l0 :: rest) = (false, zeroM) := fun hx => by rw [bestOf, hx]
  refine ⟨_, a0, (by omega : (0 : Int) ≤ 0), (by omega : (0 : Int) < (s.n : Int)), cA, l0ld, ?_⟩
  refine ⟨BestI V sign l0 (l0 :: rest), fun y => ((l0 :: rest).length : Int).toNat - (y.1 : Int).toNat, ⟨((0 : Int), ⟨#[]⟩, false, ⟨none, 0, 0⟩, cA.1, cA.2.1, cA.2.2.1, ()), rfl, Know.le.refl _, 0, l0, fA, rfl, by omega, r0, rfl, .inl ⟨rfl, rfl⟩⟩, ?_⟩
  rintro ⟨(i : Int), m0, m1, m2, q0, q1, q2, u⟩ V' ⟨hle, k, out, fo, hi, hk, hR, hF, hout⟩
  replace hi : i = (k : Int) := hi
  replace hR : rMoney.R V' (q0, q1, q2, ()) out fo := hR
  subst hi
  have hout' : out = l0 ∨ AlikeP out l0 := by
    rcases hout with h | h
    · exact .inl h.2
    · exact .inr h
  refine ⟨fun hlt => ?_, fun hge => ?_⟩
  · have hkl : k < (l0 :: rest).length := by
      have : (k : Int) < (s.n : Int) := of_decide_eq_true hlt
      omega
    obtain ⟨b1, o1, cm, fm, a1, l1, rm, _⟩ := (h.le hle).at hkl
    have r0' := rMoney.le r0 hle
    obtain ⟨b2, o2, cB, fB, a2, l2, rB, _⟩ := (h.le hle).at (i := 0) hpos
    simp only [List.getElem_cons_zero] at rB
    rw [List.drop_eq_getElem_cons hkl] at hF
    generalize hm : (l0 :: rest)[k] = m at rm hF
    refine ⟨_, a1, (by omega : (0 : Int) ≤ (k : Int)), (by omega : (k : Int) < (s.n : Int)), cm, l1, _, a2, (by omega : (0 : Int) ≤ 0), (by omega : (0 : Int) < (s.n : Int)), cB, l2, ?_⟩
    refine (cS_MoneyCmp cm cB m l0 fm fB rm rB).mono ?_
    rintro V1 r ⟨hle1, e, c, rfl, he, hc1, hc0⟩
    refine ⟨fun _ => hle1, (c, e, ()), rfl, fun hno => ?_, fun hyes => ?_⟩
    · have hna : ¬ AlikeP m l0 := fun k => by rw [he.2 k] at hno; cases hno
      rw [bestF_no hna] at hF
      rw [hbn hF.symm]
      exact ⟨hle.trans hle1, zeroC, [], rfl, zeroR V1, Own.nil⟩
    · have hal : AlikeP m l0 := he.1 (by simpa using hyes)
      refine (cS_MoneyCmp cm (q0, q1, q2, ()) m out fm fo (rMoney.le rm hle1) (rMoney.le hR hle1)).mono ?_
      rintro V2 r ⟨hle2, e2, c2, rfl, he2, hc2, _⟩
      have e2t : e2 = true := he2.2 (alike_of hout' hal)
      have hcv := hc2 e2t
      rw [bestF_yes hal] at hF
      have hle3 := (hle.trans hle1).trans hle2
      have hnx : IntKind.i64.wrap ((k : Int) + 1) = ((k + 1 : Nat) : Int) := nxt hkl (by omega)
      have hout2 : AlikeP out l0 := by
        rcases hout with ⟨rfl, rfl⟩ | h
        · have : m = out := hm.symm
          subst this; exact hal
        · exact h
      refine ⟨nofun, (c2, e2, ()), rfl, fun hs => ?_, fun hs => ?_⟩
      · have hs' : c2 = sign := by simpa using hs
        refine ⟨_, rfl, (((k + 1 : Nat) : Int), m0, m1, m2, cm.1, cm.2.1, cm.2.2.1, ()), by rw [hnx]; rfl, ⟨hle3, k + 1, m, fm, rfl, hkl, rMoney.le rm (hle1.trans hle2), ?_, .inr hal⟩, ?_⟩
        · rw [← hF, pick, if_pos (by rw [← hcv]; exact hs')]
        · show ((l0 :: rest).length : Int).toNat - (((k + 1 : Nat) : Int)).toNat < ((l0 :: rest).length : Int).toNat - ((k : Int)).toNat
          omega
      · have hs' : ¬ c2 = sign := by simpa using hs
        refine ⟨_, rfl, (((k + 1 : Nat) : Int), m0, m1, m2, q0, q1, q2, ()), by rw [hnx]; rfl, ⟨hle3, k + 1, out, fo, rfl, hkl, rMoney.le hR (hle1.trans hle2), ?_, .inr hout2⟩, ?_⟩
        · rw [← hF, pick, if_neg (by rw [← hcv]; exact hs')]
        · show ((l0 :: rest).length : Int).toNat - (((k + 1 : Nat) : Int)).toNat < ((l0 :: rest).length : Int).toNat - ((k : Int)).toNat
          omega
  · have hkl : k = (l0 :: rest).length := by
      have : ¬ (k : Int) < (s.n : Int) := of_decide_eq_false hge
      omega
    have hal : AlikeP out l0 := by
      rcases hout with ⟨h, _⟩ | h
      · omega
      · exact h
    rw [hkl, List.drop_length] at hF
    rw [hbo out hF.symm]
    have h4 := hal.1.2.2
    obtain ⟨x0, x1, x2, xu⟩ := out
    obtain ⟨⟨eq0, zq0⟩, hR⟩ := hR
    replace eq0 : q0 = x0 := eq0
    subst eq0
    replace zq0 : q0.size ≤ 9223372036854775807 := zq0
    obtain ⟨eq1, hR⟩ := hR
    replace eq1 : q1 = x1 := eq1
    subst eq1
    obtain ⟨w2, wr2, eq2, sq2, hR⟩ := hR
    subst eq2
    replace sq2 : LR rI _ q2 x2 w2 := sq2
    replace hR : _ = [] := hR
    subst hR
    refine (cS_l17Money V' q0 q1 q2 x2 _ sq2 (by have : x2.length ≤ 4 := h4; omega)).mono ?_
    rintro V1 r ⟨hle1, sn, fn, rfl, hL, hO⟩
    exact ⟨nofun, (q0, q1, sn, ()), rfl, hle.trans hle1, (q0, q1, sn, ()), _, rfl, rStr.mk zq0 (rBool.mk (rSl.mk hL rNil.mk)), by simpa using hO.pre hle⟩

theorem cI_best {V : Know} (hV : hasCur V) : BestC gI_best V := by
  intro sign s l f hsign h
  refine CallX.of_fits Tryd.mix (fI_best _ _) fun _ => ?_
  have hn := h.1
  have hb63 := h.2.2.1
  simp only [tI_best, T.wp]
  refine ⟨fun h0 => ?_, fun h0 => ?_⟩
  · have : (s.n : Int) = 0 := by simpa using h0
    have : l = [] := List.eq_nil_of_length_eq_zero (by omega)
    subst this
    exact ⟨Know.le.refl _, zeroC, [], rfl, zeroR V, Own.nil⟩
  have hpos : 0 < l.length := by
    have : ¬ (s.n : Int) = 0 := by simpa using h0
    omega
  obtain ⟨b0, o0, cA, fA, a0, l0ld, r0, _⟩ := h.at (i := 0) hpos
  obtain ⟨l0, rest, rfl⟩ : ∃ l0 rest, l = l0 :: rest := by
    cases l with
    | nil => simp at hpos
    | cons x r => exact ⟨x, r, rfl⟩
  simp only [List.getElem_cons_zero] at r0
  have hbo : ∀ x, bestF sign l0 (l0 :: rest) l0 = some x → bestOf sign (l0 :: rest) = (true, x) := fun x hx => by rw [bestOf, hx]
  have hbn : bestF sign l0 (l0 :: rest) l0 = none → bestOf sign (l0 :: rest) = (false, zeroM) := fun hx => by rw [bestOf, hx]
  refine ⟨_, a0, (by omega : (0 : Int) ≤ 0), (by omega : (0 : Int) < (s.n : Int)), cA, l0ld, ?_⟩
  refine ⟨BestI V sign l0 (l0 :: rest), fun y => ((l0 :: rest).length : Int).toNat - (y.1 : Int).toNat, ⟨((0 : Int), ⟨#[]⟩, false, ⟨none, 0, 0⟩, cA.1, cA.2.1, cA.2.2.1, ()), rfl, Know.le.refl _, 0, l0, fA, rfl, by omega, r0, rfl, .inl ⟨rfl, rfl⟩⟩, ?_⟩
  rintro ⟨(i : Int), m0, m1, m2, q0, q1, q2, u⟩ V' ⟨hle, k, out, fo, hi, hk, hR, hF, hout⟩
  replace hi : i = (k : Int) := hi
  replace hR : rMoney.R V' (q0, q1, q2, ()) out fo := hR
  subst hi
  have hout' : out = l0 ∨ AlikeP out l0 := by
    rcases hout with h | h
    · exact .inl h.2
    · exact .inr h
  refine ⟨fun hlt => ?_, fun hge => ?_⟩
  · have hkl : k < (l0 :: rest).length := by
      have : (k : Int) < (s.n : Int) := of_decide_eq_true hlt
      omega
    obtain ⟨b1, o1, cm, fm, a1, l1, rm, _⟩ := (h.le hle).at hkl
    rw [List.drop_eq_getElem_cons hkl] at hF
    generalize hm : (l0 :: rest)[k] = m at rm hF
    refine ⟨_, a1, (by omega : (0 : Int) ≤ (k : Int)), (by omega : (k : Int) < (s.n : Int)), cm, l1, ?_⟩
    refine (cI_MoneyCmp (hV.le hle) cm (q0, q1, q2, ()) m out fm fo rm hR).mono ?_
    rintro V2 r ⟨hle2, e2, c2, rfl, he2, hc2, _⟩
    refine ⟨nofun, (c2, e2, ()), rfl, fun hno => ?_, fun hyes => ?_⟩
    · have hna : ¬ AlikeP m l0 := fun k => by rw [he2.2 (alike_of hout' k)] at hno; cases hno
      rw [bestF_no hna] at hF
      rw [hbn hF.symm]
      exact ⟨hle.trans hle2, zeroC, [], rfl, zeroR V2, Own.nil⟩
    · have e2t : e2 = true := by simpa using hyes
      have hal : AlikeP m l0 := alike_to hout' (he2.1 e2t)
      have hcv := hc2 e2t
      rw [bestF_yes hal] at hF
      have hle3 := hle.trans hle2
      have hnx : IntKind.i64.wrap ((k : Int) + 1) = ((k + 1 : Nat) : Int) := nxt hkl (by omega)
      have hout2 : AlikeP out l0 := by
        rcases hout with ⟨rfl, rfl⟩ | h
        · have : m = out := hm.symm
          subst this; exact hal
        · exact h
      have hsg : c2 = -1 ∨ c2 = 0 ∨ c2 = 1 := by
        rw [hcv]; unfold sgn
        split
        · exact .inl rfl
        · split
          · exact .inr (.inl rfl)
          · exact .inr (.inr rfl)
      have hmul : (IntKind.i64.wrap (sign * c2) > 0) ↔ c2 = sign := by
        rcases hsign with rfl | rfl <;> rcases hsg with h | h | h <;> rw [h] <;> decide
      refine ⟨fun hs => ?_, fun hs => ?_⟩
      · have hs' : c2 = sign := hmul.1 (of_decide_eq_true hs)
        refine ⟨_, rfl, (((k + 1 : Nat) : Int), m0, m1, m2, cm.1, cm.2.1, cm.2.2.1, ()), by rw [hnx]; rfl, ⟨hle3, k + 1, m, fm, rfl, hkl, rMoney.le rm hle2, ?_, .inr hal⟩, ?_⟩
        · rw [← hF, pick, if_pos (by rw [← hcv]; exact hs')]
        · show ((l0 :: rest).length : Int).toNat - (((k + 1 : Nat) : Int)).toNat < ((l0 :: rest).length : Int).toNat - ((k : Int)).toNat
          omega
      · have hs' : ¬ c2 = sign := fun h => of_decide_eq_false hs (hmul.2 h)
        refine ⟨_, rfl, (((k + 1 : Nat) : Int), m0, m1, m2, q0, q1, q2, ()), by rw [hnx]; rfl, ⟨hle3, k + 1, out, fo, rfl, hkl, rMoney.le hR hle2, ?_, .inr hout2⟩, ?_⟩
        · rw [← hF, pick, if_neg (by rw [← hcv]; exact hs')]
        · show ((l0 :: rest).length : Int).toNat - (((k + 1 : Nat) : Int)).toNat < ((l0 :: rest).length : Int).toNat - ((k : Int)).toNat
          omega
  · have hkl : k = (l0 :: rest).length := by
      have : ¬ (k : Int) < (s.n : Int) := of_decide_eq_false hge
      omega
    have hal : AlikeP out l0 := by
      rcases hout with ⟨h, _⟩ | h
      · omega
      · exact h
    rw [hkl, List.drop_length] at hF
    rw [hbo out hF.symm]
    have h4 := hal.1.2.2
    obtain ⟨x0, x1, x2, xu⟩ := out
    obtain ⟨⟨eq0, zq0⟩, hR⟩ := hR
    replace eq0 : q0 = x0 := eq0
    subst eq0
    replace zq0 : q0.size ≤ 9223372036854775807 := zq0
    obtain ⟨eq1, hR⟩ := hR
    replace eq1 : q1 = x1 := eq1
    subst eq1
    obtain ⟨w2, wr2, eq2, sq2, hR⟩ := hR
    subst eq2
    replace sq2 : LR rI _ q2 x2 w2 := sq2
    replace hR : _ = [] := hR
    subst hR
    refine (cI_moneyCopy V' q0 q1 q2 x2 _ sq2 (by have : x2.length ≤ 4 := h4; omega)).mono ?_
    rintro V1 r ⟨hle1, sn, fn, rfl, hL, hO⟩
    exact ⟨nofun, (q0, q1, sn, ()), rfl, hle.trans hle1, (q0, q1, sn, ()), _, rfl, rStr.mk zq0 (rBool.mk (rSl.mk hL rNil.mk)), by simpa using hO.pre hle⟩

theorem cS_Highest {V : Know} (s : SlV) (l : List DMoney) (f : List Nat) (h : LR rMoney V s l f) :
    CallX Tryd.prog V gS_Highest [Sc.val .l s] (fun V' r => V.le V' ∧ ∃ c f', r = .tuple #[Sh1.val (.g [.s, .b, .l]) c, .bool (bestOf (1) l).1] ∧ rMoney.R V' c (bestOf (1) l).2 f' ∧ Own V V' f') := by
  refine CallX.of_fits Tryd.mix (fS_Highest _) fun _ => ?_
  simp only [tS_Highest, T.wp]
  refine (cS_l25Best V (1) s l f (.inl rfl) h).mono ?_
  rintro V1 r ⟨hle, c, f', rfl, hR, hO⟩
  exact ⟨nofun, (c, _, ()), rfl, hle, c, f', rfl, hR, hO⟩

theorem cS_Lowest {V : Know} (s : SlV) (l : List DMoney) (f : List Nat) (h : LR rMoney V s l f) :
    CallX Tryd.prog V gS_Lowest [Sc.val .l s] (fun V' r => V.le V' ∧ ∃ c f', r = .tuple #[Sh1.val (.g [.s, .b, .l]) c, .bool (bestOf (-1) l).1] ∧ rMoney.R V' c (bestOf (-1) l).2 f' ∧ Own V V' f') := by
  refine CallX.of_fits Tryd.mix (fS_Lowest _) fun _ => ?_
  simp only [tS_Lowest, T.wp]
  refine (cS_l25Best V (-1) s l f (.inr rfl) h).mono ?_
  rintro V1 r ⟨hle, c, f', rfl, hR, hO⟩
  exact ⟨nofun, (c, _, ()), rfl, hle, c, f', rfl, hR, hO⟩

theorem cI_Highest {V : Know} (hV : hasCur V) (s : SlV) (l : List DMoney) (f : List Nat) (h : LR rMoney V s l f) :
    CallX Tryd.prog V gI_Highest [Sc.val .l s] (fun V' r => V.le V' ∧ ∃ c f', r = .tuple #[Sh1.val (.g [.s, .b, .l]) c, .bool (bestOf (1) l).1] ∧ rMoney.R V' c (bestOf (1) l).2 f' ∧ Own V V' f') := by
  refine CallX.of_fits Tryd.mix (fI_Highest _) fun _ => ?_
  simp only [tI_Highest, T.wp]
  refine (cI_best hV (1) s l f (.inl rfl) h).mono ?_
  rintro V1 r ⟨hle, c, f', rfl, hR, hO⟩
  exact ⟨nofun, (c, _, ()), rfl, hle, c, f', rfl, hR, hO⟩

theorem cI_Lowest {V : Know} (hV : hasCur V) (s : SlV) (l : List DMoney) (f : List Nat) (h : LR rMoney V s l f) :
    CallX Tryd.prog V gI_Lowest [Sc.val .l s] (fun V' r => V.le V' ∧ ∃ c f', r = .tuple #[Sh1.val (.g [.s, .b, .l]) c, .bool (bestOf (-1) l).1] ∧ rMoney.R V' c (bestOf (-1) l).2 f' ∧ Own V V' f') := by
  refine CallX.of_fits Tryd.mix (fI_Lowest _) fun _ => ?_
  simp only [tI_Lowest, T.wp]
  refine (cI_best hV (-1) s l f (.inr rfl) h).mono ?_
  rintro V1 r ⟨hle, c, f', rfl, hR, hO⟩
  exact ⟨nofun, (c, _, ()), rfl, hle, c, f', rfl, hR, hO⟩
end Go.Proofs.YtagimdcegmpbmaaDoor
