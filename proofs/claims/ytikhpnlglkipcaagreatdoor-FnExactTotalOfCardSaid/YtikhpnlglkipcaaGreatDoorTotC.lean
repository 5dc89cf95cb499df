/-
  Whole numbers as fractions, the sum of a book, the remainder and the total of a currency; the program and the reference.
-/
import Derived.Test.YtikhpnlglkipcaaGreatDoorTotB
namespace Go.Proofs.YtikhpnlglkipcaaGreatDoor
open Sx
set_option maxRecDepth 100000

/-! whole numbers as fractions -/
theorem cI_IntOf1 (V : Know) : CallX Tryz.prog V gI_IntOf [.int .i64 1] (fun V' r => V.le V' ∧ ∃ s f, r = Sh1.val (.g [.b, .l]) (false, s, ()) ∧ LR rI V' s [(1, ())] f) := by
  refine CallX.of_fits Tryz.mix (fI_IntOf _) fun _ => ?_
  simp only [tI_IntOf, T.wp]
  refine ⟨fun h => ?_, fun _ => ?_⟩
  · have : (1 : Int) < 0 := of_decide_eq_true h
    omega
  rw [show IntKind.u64.wrap 1 = 1 from wrap_u64 (by omega)]
  refine (cI_natOf V 1 (by omega)).mono ?_
  rintro V1 _ ⟨le1, s, o, f, rfl, L, _, C, v, _⟩
  have e : o = [(1, ())] := can_inj C ⟨lims_one (by decide), .inr (by decide)⟩ (by rw [v, valN_one])
  subst e
  exact ⟨nofun, s, rfl, le1, s, f, rfl, L⟩
theorem cS_IntOf1 (V : Know) : CallX Tryz.prog V gS_IntOf [.int .i64 1] (fun V' r => V.le V' ∧ ∃ s f, r = Sh1.val (.g [.b, .l]) (false, s, ()) ∧ LR rI V' s [(1, ())] f) := by
  refine CallX.of_fits Tryz.mix (fS_IntOf _) fun _ => ?_
  simp only [tS_IntOf, T.wp]
  refine ⟨fun h => ?_, fun _ => ⟨fun h => ?_, fun _ => ?_⟩⟩
  · have : (1 : Int) = -9223372036854775808 := by simp at h
    omega
  · have : (1 : Int) < 0 := of_decide_eq_true h
    omega
  refine (cS_NatOf V 1 (by omega)).mono ?_
  rintro V1 _ ⟨le1, s, o, f, rfl, L, _, C, v, _⟩
  have e : o = [(1, ())] := can_inj C ⟨lims_one (by decide), .inr (by decide)⟩ (by rw [v, valN_one])
  subst e
  refine ⟨nofun, s, rfl, (cS_l04Make V1 false s _ f L C (by simp)).mono ?_⟩
  rintro V2 _ ⟨le2, s2, f2, rfl, L2, _⟩
  exact ⟨nofun, (false, s2, ()), rfl, le1.trans le2, s2, f2, rfl, L2⟩
theorem one_ok : IntOkP false [((1 : Int), ())] := ⟨⟨⟨lims_one (by decide), .inr (by decide)⟩, by simp⟩, fun h => by cases h⟩
theorem cI_intsOk (V : Know) (c0 : Bool) (c1 : SlV) (d0 : Bool) (d1 : SlV) (a b : List Lim) (f g : List Nat) (h : LR rI V c1 a f) (h' : LR rI V d1 b g) (ha : IntOkP c0 a) (hb : IntOkP d0 b) :
    CallX Tryz.prog V gI_intsOk [Sh1.val (.g [.b, .l]) (c0, c1, ()), Sh1.val (.g [.b, .l]) (d0, d1, ())] (fun V' r => V' = V ∧ r = .bool true) := by
  refine CallX.of_fits Tryz.mix (fI_intsOk _ _) fun _ => ?_
  simp only [tI_intsOk, T.wp]
  refine (cI_IntOk V c0 c1 a f h).mono ?_
  rintro V1 _ ⟨rfl, e, rfl, he⟩
  have he := he.2 ha
  subst he
  refine ⟨nofun, true, rfl, fun _ => (cI_IntOk V1 d0 d1 b g h').mono ?_, nofun⟩
  rintro V2 _ ⟨rfl, e, rfl, he⟩
  have he := he.2 hb
  subst he
  exact ⟨nofun, true, rfl, rfl, rfl⟩
theorem cI_RatInt (V : Know) (c0 : Bool) (s : SlV) (n : List Lim) (f : List Nat) (h : LR rI V s n f) (hn : IntOkP c0 n) : CallX Tryz.prog V gI_RatInt [Sh1.val (.g [.b, .l]) (c0, s, ())] (RatPost V (sval c0 n) 1) := by
  refine CallX.of_fits Tryz.mix (fI_RatInt _) fun _ => ?_
  simp only [tI_RatInt, T.wp]
  refine (cI_IntOf1 V).mono ?_
  rintro V1 _ ⟨le1, s1, f1, rfl, L1⟩
  have key : CallX Tryz.prog V1 gI_RatMake [Sh1.val (.g [.b, .l]) (c0, s, ()), Sh1.val (.g [.b, .l]) (false, s1, ())] (RatPost V1 (sval c0 n) 1) := by
    have hL := h.le le1
    have hs := hL.1
    have hs1 := L1.1
    have hlen := hn.1.2
    refine CallX.of_fits Tryz.mix (fI_RatMake _ _) fun _ => ?_
    simp only [tI_RatMake, T.wp]
    refine (cI_intsOk V1 c0 s false s1 n _ f f1 hL L1 hn one_ok).mono ?_
    rintro V2 _ ⟨rfl, rfl⟩
    refine ⟨nofun, true, rfl, nofun, fun _ => ⟨fun hz => ?_, fun _ => (cI_signed V2 _ s).mono ?_⟩⟩
    · have : (s1.n : Int) = 0 := by simpa using hz
      simp at hs1
      omega
    rintro V3 _ ⟨rfl, rfl⟩
    have e : ((!c0 == false) && decide ((s.n : Int) > 0)) = c0 := by
      cases c0 with
      | false => rfl
      | true =>
        have := hn.2 rfl
        have q : decide ((s.n : Int) > 0) = true := decide_eq_true (by omega)
        rw [q]; rfl
    refine ⟨fun _ => Know.le.refl _, (c0, s, ()), by rw [e]; rfl, (cI_reduce V3 c0 s s1 n _ f f1 hL L1 hn.1.1 one_ok.1.1 (by rw [valN_one]; decide) (by omega) (by simp)).mono ?_⟩
    rintro V4 _ ⟨le4, c, x, e4, f4, rfl, R4, O4, hx⟩
    rw [valN_one] at hx
    exact ⟨fun _ => le4, (c, e4, ()), rfl, le4, c, x, e4, f4, rfl, R4, O4, hx⟩
  refine ⟨fun _ => le1, (false, s1, ()), rfl, key.mono ?_⟩
  rintro V4 _ ⟨le4, c, x, e4, f4, rfl, R4, O4, hx⟩
  exact ⟨fun _ => le4, (c, e4, ()), rfl, le1.trans le4, c, x, e4, f4, rfl, R4, O4.pre le1, hx⟩
theorem cS_RatInt (V : Know) (c0 : Bool) (s : SlV) (n : List Lim) (f : List Nat) (h : LR rI V s n f) (hn : IntOkP c0 n) : CallX Tryz.prog V gS_RatInt [Sh1.val (.g [.b, .l]) (c0, s, ())] (RatPost V (sval c0 n) 1) := by
  refine CallX.of_fits Tryz.mix (fS_RatInt _) fun _ => ?_
  simp only [tS_RatInt, T.wp]
  refine (cS_IntOf1 V).mono ?_
  rintro V1 _ ⟨le1, s1, f1, rfl, L1⟩
  have key : CallX Tryz.prog V1 gS_RatMake [Sh1.val (.g [.b, .l]) (c0, s, ()), Sh1.val (.g [.b, .l]) (false, s1, ())] (RatPost V1 (sval c0 n) 1) := by
    have hL := h.le le1
    have hlen := hn.1.2
    refine CallX.of_fits Tryz.mix (fS_RatMake _ _) fun _ => ?_
    simp only [tS_RatMake, T.wp]
    refine (cS_IntOk V1 c0 s n f hL).mono ?_
    rintro V2 _ ⟨rfl, e, rfl, he⟩
    have he := he.2 hn
    subst he
    refine ⟨nofun, true, rfl, nofun, fun _ => (cS_IntOk V2 false s1 _ f1 L1).mono ?_⟩
    rintro V3 _ ⟨rfl, e, rfl, he⟩
    have he := he.2 one_ok
    subst he
    have e : (!c0 == false) = c0 := by cases c0 <;> rfl
    refine ⟨nofun, true, rfl, nofun, fun _ => ?_⟩
    show CallX _ _ _ [Value.bool (!c0 == false), _, _] _
    rw [e]
    refine (cS_l05Low V3 c0 s s1 n _ f f1 hL L1 hn.1.1 one_ok.1.1 (by rw [valN_one]; decide) (by omega) (by simp)).mono ?_
    rintro V4 _ ⟨le4, c, x, e4, f4, rfl, R4, O4, hx⟩
    rw [valN_one] at hx
    exact ⟨nofun, (c, e4, ()), rfl, le4, c, x, e4, f4, rfl, R4, O4, hx⟩
  refine ⟨fun _ => le1, (false, s1, ()), rfl, key.mono ?_⟩
  rintro V4 _ ⟨le4, c, x, e4, f4, rfl, R4, O4, hx⟩
  exact ⟨fun _ => le4, (c, e4, ()), rfl, le1.trans le4, c, x, e4, f4, rfl, R4, O4.pre le1, hx⟩

/-! the sum of a book -/
def termOf (cur : ByteArray) : Option DAcct → Int
  | some a => if a.2.1 = cur then sval a.2.2.1 a.2.2.2.1 else 0
  | none => 0
def bookSum (l : List DAcct) (cur : ByteArray) : Nat → Int
  | 0 => 0
  | k + 1 => bookSum l cur k + termOf cur l[k]?
theorem sval_bd {e : Bool} {o : List Lim} (h : Lims o) {k : Nat} (hk : o.length ≤ k) : -(1000000000 ^ k : Int) < sval e o ∧ sval e o < 1000000000 ^ k := by
  have h1 := (valTo_bd h o.length).2
  have h2 := pw_mono hk
  have h3 := valN_nonneg h
  have h4 : valN o < 1000000000 ^ o.length := h1
  unfold sval
  split <;> omega
theorem bookSum_bd {l : List DAcct} (hl : BookOkP l) (cur : ByteArray) : ∀ k : Nat, -((k : Int) * 1000000000000000000000000000000000000) ≤ bookSum l cur k ∧ bookSum l cur k ≤ (k : Int) * 1000000000000000000000000000000000000
  | 0 => by simp [bookSum]
  | k + 1 => by
    have ih := bookSum_bd hl cur k
    have ht : -(1000000000000000000000000000000000000 : Int) ≤ termOf cur l[k]? ∧ termOf cur l[k]? ≤ 1000000000000000000000000000000000000 := by
      cases hx : l[k]? with
      | none => simp [termOf]
      | some a =>
        unfold termOf
        simp only
        split
        · obtain ⟨hk, rfl⟩ := List.getElem?_eq_some_iff.1 hx
          obtain ⟨_, _, h2, _⟩ := hl.2 k hk
          have := sval_bd (e := l[k].2.2.1) h2.2.1.1.1.1 h2.2.2
          have e : (1000000000 : Int) ^ 4 = 1000000000000000000000000000000000000 := by decide
          omega
        · omega
    rw [bookSum]
    have e : ((k + 1 : Nat) : Int) * 1000000000000000000000000000000000000 = (k : Int) * 1000000000000000000000000000000000000 + 1000000000000000000000000000000000000 := by
      rw [Int.natCast_add, Int.add_mul]; rfl
    omega
theorem sum_len {l : List DAcct} (hl : BookOkP l) {cur : ByteArray} {k : Nat} (hk : k ≤ l.length) {e : Bool} {o : List Lim} (ho : Can o) (hv : sval e o = bookSum l cur k) : o.length ≤ 5 := by
  by_cases hc : o.length ≤ 5
  · exact hc
  · exfalso
    have h1 := can_ge ho (by omega)
    have h2 := pw_mono (show 5 ≤ o.length - 1 by omega)
    have h3 := bookSum_bd hl cur k
    have h4 := hl.1
    have h5 := sval_abs (c0 := e) ho.1
    have e5 : (1000000000 : Int) ^ 5 = 1000000000000000000000000000000000000000000000 := by decide
    rw [hv] at h5
    have h6 : (k : Int) ≤ 12 := by omega
    have h7 : (k : Int) * 1000000000000000000000000000000000000 ≤ 12 * 1000000000000000000000000000000000000 := Int.mul_le_mul_of_nonneg_right h6 (by decide)
    omega
/-! the remainder of a currency -/
def restOf : List DRest → ByteArray → DRat
  | [], _ => (false, [], [(1, ())], ())
  | r :: l, cur => if r.1 = cur then (r.2.1, r.2.2.1, r.2.2.2.1, ()) else restOf l cur
theorem zero_ok : RatOkP false [] [((1 : Int), ())] := ⟨⟨⟨⟨lims_nil, .inl rfl⟩, by simp⟩, fun h => by cases h⟩, ⟨⟨lims_one (by decide), .inr (by decide)⟩, by simp⟩, by simp, by simp, by simp, by rw [valN_one]; rfl⟩
theorem restOf_ok {cur : ByteArray} : ∀ {l : List DRest}, (∀ i, i < l.length → ∃ h : i < l.length, RatOkP l[i].2.1 l[i].2.2.1 l[i].2.2.2.1) → RatOkP (restOf l cur).1 (restOf l cur).2.1 (restOf l cur).2.2.1
  | [], _ => zero_ok
  | r :: l, h => by
    unfold restOf
    split
    · obtain ⟨_, k⟩ := h 0 (by simp)
      exact k
    · refine restOf_ok fun i hi => ?_
      obtain ⟨_, k⟩ := h (i + 1) (by simpa using hi)
      exact ⟨hi, by simpa using k⟩
theorem zeroI (V : Know) : CallX Tryz.prog V gI_RatZero [] (fun V' r => V.le V' ∧ ∃ c f, r = Sh1.val (.g [.b, .l, .l]) c ∧ rRat.R V' c (false, [], [(1, ())], ()) f) := by
  refine CallX.of_fits Tryz.mix fI_RatZero fun _ => ?_
  simp only [tI_RatZero, T.wp]
  intro b cap spare hb hcap _
  have k := newI (V := V) (b := b) (cap := cap) (o := [(1, ())]) (spare := spare) (t := 3) hb hcap (by simp)
  exact ⟨kset_le hb, _, _, rfl, rat_mk lr_nil k.1⟩
theorem zeroS (V : Know) : CallX Tryz.prog V gS_RatZero [] (fun V' r => V.le V' ∧ ∃ c f, r = Sh1.val (.g [.b, .l, .l]) c ∧ rRat.R V' c (false, [], [(1, ())], ()) f) := by
  refine CallX.of_fits Tryz.mix fS_RatZero fun _ => ?_
  simp only [tS_RatZero, T.wp]
  intro b cap spare hb hcap _
  have k := newI (V := V) (b := b) (cap := cap) (o := [(1, ())]) (spare := spare) (t := 3) hb hcap (by simp)
  exact ⟨kset_le hb, _, _, rfl, rat_mk lr_nil k.1⟩
theorem copyI (V : Know) (b : Bool) (s s' : SlV) (n d : List Lim) (f g : List Nat) (h : LR rI V s n f) (h' : LR rI V s' d g) (ln : n.length ≤ 1048576) (ld : d.length ≤ 1048576) :
    CallX Tryz.prog V gI_ratCopy [Sh1.val (.g [.b, .l, .l]) (b, s, s', ())] (fun V' r => V.le V' ∧ ∃ c f, r = Sh1.val (.g [.b, .l, .l]) c ∧ rRat.R V' c (b, n, d, ()) f) := by
  refine CallX.of_fits Tryz.mix (fI_ratCopy _) fun _ => ?_
  simp only [tI_ratCopy, T.wp]
  have hc : CallX Tryz.prog V gI_intCopy [Sh1.val (.g [.b, .l]) (b, s, ())] (fun V' r => V.le V' ∧ ∃ s1 f1, r = Sh1.val (.g [.b, .l]) (b, s1, ()) ∧ LR rI V' s1 n f1) := by
    refine CallX.of_fits Tryz.mix (fI_intCopy _) fun _ => ?_
    simp only [tI_intCopy, T.wp]
    refine (cI_natCopy V s n f h ln).mono ?_
    rintro V1 _ ⟨le1, s1, f1, rfl, L1, _⟩
    exact ⟨fun _ => le1, s1, rfl, le1, s1, f1, rfl, L1⟩
  refine hc.mono ?_
  rintro V1 _ ⟨le1, s1, f1, rfl, L1⟩
  refine ⟨fun _ => le1, (b, s1, ()), rfl, (cI_natCopy V1 s' d g (h'.le le1) ld).mono ?_⟩
  rintro V2 _ ⟨le2, s2, f2, rfl, L2, _⟩
  exact ⟨fun _ => le2, s2, rfl, le1.trans le2, _, _, rfl, rat_mk (L1.le le2) L2⟩
theorem LR.rdA {V : Know} {s : SlV} {l : List Lim} {f : List Nat} (h : LR rI V s l f) : (s.n = 0 ∧ l.map cellI = []) ∨ ∃ ad, s.a = some ad ∧ loadV V ad (s.n * 1) = some (l.map cellI) := by
  rcases h.rdI.1 with ⟨h0, _, h1⟩ | h1
  · exact .inl ⟨h0, h1⟩
  · exact .inr h1
theorem lr_es {V : Know} {b c : Nat} {l : List Lim} (h : l.length = 0) : LR rI V ⟨some ⟨b, 0, none⟩, 0, c⟩ l [] := ⟨h.symm, Nat.zero_le _, Nat.zero_le _, .inl ⟨rfl, (fun h => by cases h), rfl⟩⟩
theorem copyS (V : Know) (b : Bool) (s s' : SlV) (n d : List Lim) (f g : List Nat) (h : LR rI V s n f) (h' : LR rI V s' d g) (ln : n.length ≤ 1048576) (ld : d.length ≤ 1048576) :
    CallX Tryz.prog V gS_l19Rat [Sh1.val (.g [.b, .l, .l]) (b, s, s', ())] (fun V' r => V.le V' ∧ ∃ c f, r = Sh1.val (.g [.b, .l, .l]) c ∧ rRat.R V' c (b, n, d, ()) f) := by
  refine CallX.of_fits Tryz.mix (fS_l19Rat _) fun _ => ?_
  simp only [tS_l19Rat, T.wp]
  have hn := h.1
  have hd := h'.1
  intro b1 hb1
  have le1 := kset_le (x := (([] : List Value), ((3 : TypeId), ((0, 0) : Nat × Nat)))) hb1
  refine ⟨n.map cellI, h.rdA, ⟨one_int n, (by omega : s.n * 8 ≤ 140737488355328), (by omega : s.n ≤ 9223372036854775807)⟩, fun hz => ?_, fun hz => ?_⟩
  · have hz' : s.n = 0 := of_decide_eq_true hz
    intro b3 hb3
    have le3 := kset_le (x := (([] : List Value), ((3 : TypeId), ((0, 0) : Nat × Nat)))) hb3
    refine ⟨d.map cellI, h'.rdA, ⟨one_int d, (by omega : s'.n * 8 ≤ 140737488355328), (by omega : s'.n ≤ 9223372036854775807)⟩, fun hy => ?_, fun hy => ?_⟩
    · have hy' : s'.n = 0 := of_decide_eq_true hy
      exact ⟨le1.trans le3, _, _, rfl, rat_mk (lr_es (by omega)) (lr_es (by omega))⟩
    · intro b5 c5 sp5 hb5 hc5 _
      have hc5' : s'.n ≤ c5 := hc5
      have k := newI (b := b5) (cap := c5) (o := d) (spare := sp5) (t := 3) hb5 (by omega) (by omega)
      have k1 := k.1
      rw [← hd] at k1
      exact ⟨(le1.trans le3).trans (kset_le hb5), _, _, rfl, rat_mk (lr_es (by omega)) k1⟩
  · intro b3 c3 sp3 hb3 hc3 _
    have hc3' : s.n ≤ c3 := hc3
    have k := newI (b := b3) (cap := c3) (o := n) (spare := sp3) (t := 3) hb3 (by omega) (by omega)
    have k1 := k.1
    rw [← hn] at k1
    have le3 := kset_le (x := (n.map cellI ++ sp3, ((3 : TypeId), ((0, 0) : Nat × Nat)))) hb3
    intro b4 hb4
    have le4 := kset_le (x := (([] : List Value), ((3 : TypeId), ((0, 0) : Nat × Nat)))) hb4
    refine ⟨d.map cellI, h'.rdA, ⟨one_int d, (by omega : s'.n * 8 ≤ 140737488355328), (by omega : s'.n ≤ 9223372036854775807)⟩, fun hy => ?_, fun hy => ?_⟩
    · have hy' : s'.n = 0 := of_decide_eq_true hy
      exact ⟨(le1.trans le3).trans le4, _, _, rfl, rat_mk (k1.le le4) (lr_es (by omega))⟩
    · intro b6 c6 sp6 hb6 hc6 _
      have hc6' : s'.n ≤ c6 := hc6
      have k6 := newI (b := b6) (cap := c6) (o := d) (spare := sp6) (t := 3) hb6 (by omega) (by omega)
      have k61 := k6.1
      rw [← hd] at k61
      exact ⟨((le1.trans le3).trans le4).trans (kset_le hb6), _, _, rfl, rat_mk ((k1.le le4).le (kset_le hb6)) k61⟩

theorem cS_BookSum {V : Know} (hV : HcS V) (s : SlV) (l : List DAcct) (f : List Nat) (h : LR rAcct V s l f) (hok : BookOkP l) (cur : ByteArray) :
    CallX Tryz.prog V gS_BookSum [Sh1.val (.g [.l]) (s, ()), .string cur] (fun V' r => V.le V' ∧ ∃ e so o fo, r = Sh1.val (.g [.b, .l]) (e, so, ()) ∧ LR rI V' so o fo ∧ IntOkP e o ∧ sval e o = bookSum l cur l.length) := by
  refine CallX.of_fits Tryz.mix (fS_BookSum _ _) fun _ => ?_
  simp only [tS_BookSum, T.wp]
  have hn := h.1
  have h63 := h.2.2.1
  refine (cS_BookOk hV s l f h).mono ?_
  rintro V1 _ ⟨le1, e, rfl, he⟩
  have he := he.2 hok
  subst he
  refine ⟨nofun, true, rfl, nofun, fun _ => ?_⟩
  refine ⟨fun y V' => V.le V' ∧ ∃ (i : Nat) (o : List Lim) (fo : List Nat), y.1 = (i : Int) ∧ i ≤ l.length ∧ LR rI V' y.2.2.1 o fo ∧ IntOkP y.2.1 o ∧ sval y.2.1 o = bookSum l cur i, fun y => ((l.length : Int) - (y.1 : Int)).toNat,
    ⟨((0 : Int), false, (⟨none, 0, 0⟩ : SlV), ()), rfl, le1, 0, [], [], rfl, by omega, lr_nil, zero_ok.1, rfl⟩, ?_⟩
  rintro ⟨(i : Int), (q : Bool), so, u⟩ V' ⟨hle, k, o, fo, hi, hk, hL, hq, hv⟩
  replace hi : i = (k : Int) := hi
  replace hL : LR rI V' so o fo := hL
  replace hq : IntOkP q o := hq
  replace hv : sval q o = bookSum l cur k := hv
  subst hi
  refine ⟨fun hlt => ?_, fun hge => ?_⟩
  · have hkl : k < l.length := by
      have : (k : Int) < (s.n : Int) := of_decide_eq_true hlt
      omega
    obtain ⟨b1, o1, c1, fc, a1, l1, hR, _⟩ := (h.le hle).at hkl
    obtain ⟨c3, g, rfl, hc3⟩ := acct_elim hR
    obtain ⟨_, _, hm, _⟩ := hok.2 k hkl
    have e0 : (k : Int).toNat = k := by omega
    have hlen := sum_len hok hk hq.1.1 hv
    have h4 := hm.2.2
    dsimp only
    rw [e0]
    have et : termOf cur l[k]? = if l[k].2.1 = cur then sval l[k].2.2.1 l[k].2.2.2.1 else 0 := by
      rw [List.getElem?_eq_getElem hkl]; rfl
    refine ⟨_, a1, by omega, by omega, (l[k].1, l[k].2.1, l[k].2.2.1, c3, ()), l1, fun hc => ?_, fun hc => ?_⟩
    · have hcur : l[k].2.1 = cur := text_eq.1 hc
      refine (cS_IntAdd V' q so l[k].2.2.1 c3 o l[k].2.2.2.1 fo g hL hc3 hq hm.2.1 (by omega) (by omega)).mono ?_
      rintro V2 _ ⟨le2, e2, s2, o2, f2, rfl, L2, _, ok2, v2, _⟩
      refine ⟨nofun, (e2, s2, ()), rfl, _, rfl, (((k + 1 : Nat) : Int), e2, s2, ()), by rw [nxt hkl (by omega)]; rfl, ⟨hle.trans le2, k + 1, o2, f2, rfl, hkl, L2, ok2, ?_⟩, ?_⟩
      · show sval e2 o2 = bookSum l cur (k + 1)
        rw [v2, bookSum, et, if_pos hcur, hv]
      · show ((l.length : Int) - ((k + 1 : Nat) : Int)).toNat < ((l.length : Int) - (k : Int)).toNat
        omega
    · have hcur : ¬ l[k].2.1 = cur := fun e => by rw [text_eq.2 e] at hc; cases hc
      refine ⟨_, rfl, (((k + 1 : Nat) : Int), q, so, ()), by rw [nxt hkl (by omega)]; rfl, ⟨hle, k + 1, o, fo, rfl, hkl, hL, hq, ?_⟩, ?_⟩
      · show sval q o = bookSum l cur (k + 1)
        rw [bookSum, et, if_neg hcur, hv]
        omega
      · show ((l.length : Int) - ((k + 1 : Nat) : Int)).toNat < ((l.length : Int) - (k : Int)).toNat
        omega
  · have hkl : k = l.length := by
      have : ¬ (k : Int) < (s.n : Int) := of_decide_eq_false hge
      omega
    subst hkl
    exact ⟨hle, q, so, o, fo, rfl, hL, hq, hv⟩
theorem cS_RestOf (V : Know) (s : SlV) (l : List DRest) (f : List Nat) (h : LR rRest V s l f) (hok : ∀ i, i < l.length → ∃ h : i < l.length, RatOkP l[i].2.1 l[i].2.2.1 l[i].2.2.2.1) (cur : ByteArray) :
    CallX Tryz.prog V gS_RestOf [Sc.val .l s, .string cur] (fun V' r => V.le V' ∧ ∃ c f, r = Sh1.val (.g [.b, .l, .l]) c ∧ rRat.R V' c (restOf l cur) f) := by
  refine CallX.of_fits Tryz.mix (fS_RestOf _ _) fun _ => ?_
  simp only [tS_RestOf, T.wp]
  have hn := h.1
  have h63 := h.2.2.1
  refine ⟨fun y V' => V' = V ∧ ∃ i : Nat, y.1 = (i : Int) ∧ i ≤ l.length ∧ restOf (l.drop i) cur = restOf l cur, fun y => ((l.length : Int) - (y.1 : Int)).toNat,
    ⟨((0 : Int), false, (⟨none, 0, 0⟩ : SlV), (⟨none, 0, 0⟩ : SlV), ()), rfl, rfl, 0, rfl, by omega, by rw [List.drop_zero]⟩, ?_⟩
  rintro ⟨(i : Int), q, so, so', u⟩ V' ⟨rfl, k, hi, hk, hr⟩
  replace hi : i = (k : Int) := hi
  subst hi
  refine ⟨fun hlt => ?_, fun hge => ?_⟩
  · have hkl : k < l.length := by
      have : (k : Int) < (s.n : Int) := of_decide_eq_true hlt
      omega
    obtain ⟨b1, o1, c1, fc, a1, l1, hR, _⟩ := h.at hkl
    obtain ⟨c2, c3, g, g', rfl, hc2, hc3⟩ := rest_elim hR
    obtain ⟨_, ok⟩ := hok k hkl
    have z1 := ok.2.2.2.1
    have z2 := ok.2.2.2.2.1
    have e0 : (k : Int).toNat = k := by omega
    dsimp only
    rw [e0]
    rw [List.drop_eq_getElem_cons hkl, restOf] at hr
    refine ⟨_, a1, by omega, by omega, (l[k].1, l[k].2.1, c2, c3, ()), l1, fun hc => ?_, fun hc => ?_⟩
    · rw [if_pos (text_eq.1 hc)] at hr
      refine (copyS V' l[k].2.1 c2 c3 l[k].2.2.1 l[k].2.2.2.1 g g' hc2 hc3 (by omega) (by omega)).mono ?_
      rintro V2 _ ⟨le2, c, fc, rfl, R2⟩
      rw [hr] at R2
      exact ⟨nofun, c, rfl, le2, c, fc, rfl, R2⟩
    · rw [if_neg (fun e => by rw [text_eq.2 e] at hc; cases hc)] at hr
      refine ⟨_, rfl, (((k + 1 : Nat) : Int), q, so, so', ()), by rw [nxt hkl (by omega)]; rfl, ⟨rfl, k + 1, rfl, hkl, hr⟩, ?_⟩
      show ((l.length : Int) - ((k + 1 : Nat) : Int)).toNat < ((l.length : Int) - (k : Int)).toNat
      omega
  · have hkl : k = l.length := by
      have : ¬ (k : Int) < (s.n : Int) := of_decide_eq_false hge
      omega
    subst hkl
    rw [List.drop_length, restOf] at hr
    refine (zeroS V').mono ?_
    rintro V2 _ ⟨le2, c, fc, rfl, R2⟩
    rw [hr] at R2
    exact ⟨nofun, c, rfl, le2, c, fc, rfl, R2⟩

theorem cI_BookSum {V : Know} (hV : HcI V) (s : SlV) (l : List DAcct) (f : List Nat) (h : LR rAcct V s l f) (hok : BookOkP l) (cur : ByteArray) :
    CallX Tryz.prog V gI_BookSum [Sh1.val (.g [.l]) (s, ()), .string cur] (fun V' r => V.le V' ∧ ∃ e so o fo, r = Sh1.val (.g [.b, .l]) (e, so, ()) ∧ LR rI V' so o fo ∧ IntOkP e o ∧ sval e o = bookSum l cur l.length) := by
  refine CallX.of_fits Tryz.mix (fI_BookSum _ _) fun _ => ?_
  simp only [tI_BookSum, T.wp]
  have hn := h.1
  have h63 := h.2.2.1
  refine (cI_BookOk hV s l f h).mono ?_
  rintro V1 _ ⟨le1, e, rfl, he⟩
  have he := he.2 hok
  subst he
  refine ⟨nofun, true, rfl, nofun, fun _ => ?_⟩
  refine ⟨fun y V' => V.le V' ∧ ∃ (i : Nat) (o : List Lim) (fo : List Nat), y.1 = (i : Int) ∧ i ≤ l.length ∧ LR rI V' y.2.2.1 o fo ∧ IntOkP y.2.1 o ∧ sval y.2.1 o = bookSum l cur i, fun y => ((l.length : Int) - (y.1 : Int)).toNat,
    ⟨((0 : Int), false, (⟨none, 0, 0⟩ : SlV), ()), rfl, le1, 0, [], [], rfl, by omega, lr_nil, zero_ok.1, rfl⟩, ?_⟩
  rintro ⟨(i : Int), (q : Bool), so, u⟩ V' ⟨hle, k, o, fo, hi, hk, hL, hq, hv⟩
  replace hi : i = (k : Int) := hi
  replace hL : LR rI V' so o fo := hL
  replace hq : IntOkP q o := hq
  replace hv : sval q o = bookSum l cur k := hv
  subst hi
  refine ⟨fun hlt => ?_, fun hge => ?_⟩
  · have hkl : k < l.length := by
      have : (k : Int) < (s.n : Int) := of_decide_eq_true hlt
      omega
    obtain ⟨b1, o1, c1, fc, a1, l1, hR, _⟩ := (h.le hle).at hkl
    obtain ⟨c3, g, rfl, hc3⟩ := acct_elim hR
    obtain ⟨_, _, hm, _⟩ := hok.2 k hkl
    have e0 : (k : Int).toNat = k := by omega
    have hlen := sum_len hok hk hq.1.1 hv
    have h4 := hm.2.2
    dsimp only
    rw [e0]
    have et : termOf cur l[k]? = if l[k].2.1 = cur then sval l[k].2.2.1 l[k].2.2.2.1 else 0 := by
      rw [List.getElem?_eq_getElem hkl]; rfl
    refine ⟨_, a1, by omega, by omega, (l[k].1, l[k].2.1, l[k].2.2.1, c3, ()), l1, fun hc => ?_, fun hc => ?_⟩
    · have hcur : l[k].2.1 = cur := text_eq.1 hc
      refine (cI_intAdd V' q so l[k].2.2.1 c3 o l[k].2.2.2.1 fo g hL hc3 hq.1.1 hm.2.1.1.1 (by omega) (by omega)).mono ?_
      rintro V2 _ ⟨le2, e2, s2, o2, f2, rfl, L2, _, C2, v2, n2, _⟩
      refine ⟨nofun, (e2, s2, ()), rfl, _, rfl, (((k + 1 : Nat) : Int), e2, s2, ()), by rw [nxt hkl (by omega)]; rfl, ⟨hle.trans le2, k + 1, o2, f2, rfl, hkl, L2, ⟨⟨C2, (by have := sum_len (k := k + 1) hok hkl C2 (by rw [v2, bookSum, et, if_pos hcur, hv]); omega : o2.length ≤ 50)⟩, n2⟩, ?_⟩, ?_⟩
      · show sval e2 o2 = bookSum l cur (k + 1)
        rw [v2, bookSum, et, if_pos hcur, hv]
      · show ((l.length : Int) - ((k + 1 : Nat) : Int)).toNat < ((l.length : Int) - (k : Int)).toNat
        omega
    · have hcur : ¬ l[k].2.1 = cur := fun e => by rw [text_eq.2 e] at hc; cases hc
      refine ⟨_, rfl, (((k + 1 : Nat) : Int), q, so, ()), by rw [nxt hkl (by omega)]; rfl, ⟨hle, k + 1, o, fo, rfl, hkl, hL, hq, ?_⟩, ?_⟩
      · show sval q o = bookSum l cur (k + 1)
        rw [bookSum, et, if_neg hcur, hv]
        omega
      · show ((l.length : Int) - ((k + 1 : Nat) : Int)).toNat < ((l.length : Int) - (k : Int)).toNat
        omega
  · have hkl : k = l.length := by
      have : ¬ (k : Int) < (s.n : Int) := of_decide_eq_false hge
      omega
    subst hkl
    exact ⟨hle, q, so, o, fo, rfl, hL, hq, hv⟩
theorem cI_RestOf (V : Know) (s : SlV) (l : List DRest) (f : List Nat) (h : LR rRest V s l f) (hok : ∀ i, i < l.length → ∃ h : i < l.length, RatOkP l[i].2.1 l[i].2.2.1 l[i].2.2.2.1) (cur : ByteArray) :
    CallX Tryz.prog V gI_RestOf [Sc.val .l s, .string cur] (fun V' r => V.le V' ∧ ∃ c f, r = Sh1.val (.g [.b, .l, .l]) c ∧ rRat.R V' c (restOf l cur) f) := by
  refine CallX.of_fits Tryz.mix (fI_RestOf _ _) fun _ => ?_
  simp only [tI_RestOf, T.wp]
  have hn := h.1
  have h63 := h.2.2.1
  refine ⟨fun y V' => V' = V ∧ ∃ i : Nat, y.1 = (i : Int) ∧ i ≤ l.length ∧ restOf (l.drop i) cur = restOf l cur, fun y => ((l.length : Int) - (y.1 : Int)).toNat,
    ⟨((0 : Int), false, (⟨none, 0, 0⟩ : SlV), (⟨none, 0, 0⟩ : SlV), ()), rfl, rfl, 0, rfl, by omega, by rw [List.drop_zero]⟩, ?_⟩
  rintro ⟨(i : Int), q, so, so', u⟩ V' ⟨rfl, k, hi, hk, hr⟩
  replace hi : i = (k : Int) := hi
  subst hi
  refine ⟨fun hlt => ?_, fun hge => ?_⟩
  · have hkl : k < l.length := by
      have : (k : Int) < (s.n : Int) := of_decide_eq_true hlt
      omega
    obtain ⟨b1, o1, c1, fc, a1, l1, hR, _⟩ := h.at hkl
    obtain ⟨c2, c3, g, g', rfl, hc2, hc3⟩ := rest_elim hR
    obtain ⟨_, ok⟩ := hok k hkl
    have z1 := ok.2.2.2.1
    have z2 := ok.2.2.2.2.1
    have e0 : (k : Int).toNat = k := by omega
    dsimp only
    rw [e0]
    rw [List.drop_eq_getElem_cons hkl, restOf] at hr
    refine ⟨_, a1, by omega, by omega, (l[k].1, l[k].2.1, c2, c3, ()), l1, fun hc => ?_, fun hc => ?_⟩
    · rw [if_pos (text_eq.1 hc)] at hr
      refine (copyI V' l[k].2.1 c2 c3 l[k].2.2.1 l[k].2.2.2.1 g g' hc2 hc3 (by omega) (by omega)).mono ?_
      rintro V2 _ ⟨le2, c, fc, rfl, R2⟩
      rw [hr] at R2
      exact ⟨nofun, c, rfl, le2, c, fc, rfl, R2⟩
    · rw [if_neg (fun e => by rw [text_eq.2 e] at hc; cases hc)] at hr
      refine ⟨_, rfl, (((k + 1 : Nat) : Int), q, so, so', ()), by rw [nxt hkl (by omega)]; rfl, ⟨rfl, k + 1, rfl, hkl, hr⟩, ?_⟩
      show ((l.length : Int) - ((k + 1 : Nat) : Int)).toNat < ((l.length : Int) - (k : Int)).toNat
      omega
  · have hkl : k = l.length := by
      have : ¬ (k : Int) < (s.n : Int) := of_decide_eq_false hge
      omega
    subst hkl
    rw [List.drop_length, restOf] at hr
    refine (zeroI V').mono ?_
    rintro V2 _ ⟨le2, c, fc, rfl, R2⟩
    rw [hr] at R2
    exact ⟨nofun, c, rfl, le2, c, fc, rfl, R2⟩

theorem rat_elim {V : Know} {c : Scs [.b, .l, .l]} {x : DRat} {f : List Nat} (h : rRat.R V c x f) : ∃ s s' g g', c = (x.1, s, s', ()) ∧ LR rI V s x.2.1 g ∧ LR rI V s' x.2.2.1 g' ∧ f = g ++ (g' ++ []) := by
  obtain ⟨c0, c1, c2, cu⟩ := c
  obtain ⟨x0, x1, x2, xu⟩ := x
  obtain ⟨e0, h⟩ := h
  replace e0 : c0 = x0 := e0
  subst e0
  obtain ⟨g, r, rfl, hs, h⟩ := h
  obtain ⟨g', r', rfl, hs', h⟩ := h
  replace h : r' = [] := h
  subst h
  exact ⟨c1, c2, g, g', rfl, hs, hs', rfl⟩
/-- the total of a currency: lowest terms, or nothing -/
def TotP (x : DLedger) (cur : ByteArray) (y : DRat) (e : Bool) : Prop :=
  (LedgerOkP x ∧ RedS (bookSum x.1 cur x.1.length * valN (restOf x.2.1 cur).2.2.1 + sval (restOf x.2.1 cur).1 (restOf x.2.1 cur).2.1) (valN (restOf x.2.1 cur).2.2.1) y e) ∨ (¬ LedgerOkP x ∧ y = (false, [], [], ()) ∧ e = false)
theorem rests_rat {l : List DRest} (h : RestsOkP l) : ∀ i, i < l.length → ∃ h : i < l.length, RatOkP l[i].2.1 l[i].2.2.1 l[i].2.2.2.1 := fun i hi => by
  obtain ⟨h1, _, h2, _⟩ := h i hi
  exact ⟨h1, h2⟩
theorem totP_inj {x : DLedger} {cur : ByteArray} {y y' : DRat} {e e' : Bool} (h : TotP x cur y e) (h' : TotP x cur y' e') : y = y' ∧ e = e' := by
  rcases h with ⟨h1, h2⟩ | ⟨h1, h2, h3⟩
  · rcases h' with ⟨_, h2'⟩ | ⟨h1', _⟩
    · have ok := restOf_ok (cur := cur) (rests_rat h1.2.1)
      exact redS_inj ((can_pos ok.2.1.1).1 ok.2.2.1) h2 h2'
    · exact absurd h1 h1'
  · rcases h' with ⟨h1', _⟩ | ⟨_, h2', h3'⟩
    · exact absurd h1' h1
    · exact ⟨h2.trans h2'.symm, h3.trans h3'.symm⟩
abbrev TotPost (V : Know) (x : DLedger) (cur : ByteArray) : Know → Value → Prop := fun V' r => V.le V' ∧ ∃ c y e f, r = .tuple #[Sh1.val (.g [.b, .l, .l]) c, .bool e] ∧ rRat.R V' c y f ∧ Own V V' f ∧ TotP x cur y e
theorem int_len {S : Int} {x : DRat} (h : RedS S 1 x false) (hS : (S.natAbs : Int) < 1000000000 ^ 18) : False := by
  obtain ⟨p, q, h1, h2⟩ := h
  rcases h2 with ⟨_, _, c, _⟩ | ⟨hl, _, _⟩
  · cases c
  · apply hl
    have hg : (Int.gcd (S.natAbs : Int) 1 : Int) = 1 := by simp
    have v1 := h1.2.2.1
    have v2 := h1.2.2.2
    rw [hg] at v1 v2
    constructor
    · by_cases k : p.length ≤ 18
      · exact k
      · have g1 := can_ge h1.1 (by omega)
        have g2 := pw_mono (show 18 ≤ p.length - 1 by omega)
        omega
    · by_cases k : q.length ≤ 18
      · exact k
      · have g1 := can_ge h1.2.1 (by omega)
        have g2 := pw_mono (show 18 ≤ q.length - 1 by omega)
        have g3 : (1000000000 : Int) ^ 18 ≥ 2 := by decide
        omega
theorem tot_sum {S s2 D : Int} {x : DRat} {e : Bool} {y : DRat} {e' : Bool} (h : RedS S 1 x e) (he : e = true) (hx : RedS (sval x.1 x.2.1 * D + s2 * valN x.2.2.1) (valN x.2.2.1 * D) y e') : RedS (S * D + s2) D y e' := by
  obtain ⟨p, q, h1, h2⟩ := h
  rcases h2 with ⟨_, _, _, rfl⟩ | ⟨_, c, _⟩
  · have hg : (Int.gcd (S.natAbs : Int) 1 : Int) = 1 := by simp
    have v1 := h1.2.2.1
    have v2 := h1.2.2.2
    rw [hg, Int.mul_one] at v1 v2
    have e1 : sval (decide (S < 0)) p = S := by
      unfold sval
      by_cases k : S < 0
      · simp [k]; omega
      · simp [k]; omega
    have hx : RedS (sval (decide (S < 0)) p * D + s2 * valN q) (valN q * D) y e' := hx
    rw [e1, v2, Int.mul_one, Int.one_mul] at hx
    exact hx
  · rw [he] at c; cases c

theorem cS_TotalOf {V : Know} (hV : HcS V) (c : Scs [.l, .l, .s, .l]) (x : DLedger) (f : List Nat) (h : rLedger.R V c x f) (cur : ByteArray) : CallX Tryz.prog V gS_TotalOf [Sh1.val (.g [.l, .l, .s, .l]) c, .string cur] (TotPost V x cur) := by
  refine CallX.of_fits Tryz.mix (fS_TotalOf _ _) fun _ => ?_
  simp only [tS_TotalOf, T.wp]
  refine (cS_LedgerOk hV c x f h).mono ?_
  rintro V1 _ ⟨le1, e1, rfl, he1⟩
  refine ⟨nofun, e1, rfl, fun hf => ⟨le1, _, (false, [], [], ()), false, _, rfl, rat_mk lr_nil lr_nil, Own.nil, .inr ⟨(fun k => by rw [he1.2 k] at hf; cases hf), rfl, rfl⟩⟩, fun ht => ?_⟩
  have ok := he1.1 (by simpa using ht)
  replace h := rLedger.le h le1
  obtain ⟨c0, c1, c2, c3, cu⟩ := c
  obtain ⟨x0, x1, x2, x3, xu⟩ := x
  obtain ⟨f0, g0, _, h0, h⟩ := h
  obtain ⟨f1, g1, _, h1, h⟩ := h
  replace h0 : LR rAcct V1 c0 x0 f0 := h0
  replace h1 : LR rRest V1 c1 x1 f1 := h1
  have okB : BookOkP x0 := ok.1
  have okR := rests_rat (l := x1) ok.2.1
  have rok := restOf_ok (cur := cur) okR
  refine (cS_BookSum (hV.le le1) c0 x0 f0 h0 okB cur).mono ?_
  rintro V2 _ ⟨le2, e2, s2, o2, f2, rfl, L2, k2, v2⟩
  refine ⟨nofun, (e2, s2, ()), rfl, (cS_RatInt V2 e2 s2 o2 f2 L2 k2).mono ?_⟩
  rintro V3 _ ⟨le3, c3', x3', e3, f3, rfl, R3, _, p3⟩
  rw [v2] at p3
  have l3 := le2.trans le3
  refine ⟨nofun, (c3', e3, ()), rfl, fun hf => ?_, fun ht3 => ?_⟩
  · have e3f : e3 = false := by simpa using hf
    rw [e3f] at p3
    exfalso
    refine int_len p3 ?_
    have hb := bookSum_bd okB cur x0.length
    have h12 := okB.1
    have q : (x0.length : Int) * 1000000000000000000000000000000000000 ≤ 12 * 1000000000000000000000000000000000000 := Int.mul_le_mul_of_nonneg_right (by omega) (by decide)
    have e18 : (12 * 1000000000000000000000000000000000000 : Int) < 1000000000 ^ 18 := by decide
    omega
  have e3t : e3 = true := by simpa using ht3
  have ok3 := redS_ok (by decide) p3 e3t
  obtain ⟨t1, t2, w1, w2, rfl, T1, T2, _⟩ := rat_elim R3
  refine (cS_RestOf V3 c1 x1 f1 (h1.le l3) okR cur).mono ?_
  rintro V4 _ ⟨le4, c4, f4, rfl, R4⟩
  have l4 := l3.trans le4
  obtain ⟨u1, u2, w3, w4, rfl, U1, U2, _⟩ := rat_elim R4
  refine ⟨fun _ => le4, ((restOf x1 cur).1, u1, u2, ()), rfl, (cS_RatAdd V4 x3'.1 t1 t2 (restOf x1 cur).1 u1 u2 x3'.2.1 x3'.2.2.1 (restOf x1 cur).2.1 (restOf x1 cur).2.2.1 w1 w2 w3 w4 (T1.le le4) (T2.le le4) U1 U2 ok3 rok).mono ?_⟩
  rintro V5 _ ⟨le5, c5, x5, e5, f5, rfl, R5, O5, p5⟩
  exact ⟨fun _ => le5, (c5, e5, ()), rfl, le1.trans (l4.trans le5), c5, x5, e5, f5, rfl, R5, O5.pre (le1.trans l4), .inl ⟨ok, tot_sum p3 e3t p5⟩⟩

theorem cI_TotalOf {V : Know} (hV : HcI V) (c : Scs [.l, .l, .s, .l]) (x : DLedger) (f : List Nat) (h : rLedger.R V c x f) (cur : ByteArray) : CallX Tryz.prog V gI_TotalOf [Sh1.val (.g [.l, .l, .s, .l]) c, .string cur] (TotPost V x cur) := by
  refine CallX.of_fits Tryz.mix (fI_TotalOf _ _) fun _ => ?_
  simp only [tI_TotalOf, T.wp]
  refine (cI_LedgerOk hV c x f h).mono ?_
  rintro V1 _ ⟨le1, e1, rfl, he1⟩
  refine ⟨nofun, e1, rfl, fun hf => ⟨le1, _, (false, [], [], ()), false, _, rfl, rat_mk lr_nil lr_nil, Own.nil, .inr ⟨(fun k => by rw [he1.2 k] at hf; cases hf), rfl, rfl⟩⟩, fun ht => ?_⟩
  have ok := he1.1 (by simpa using ht)
  have key : CallX Tryz.prog V1 gI_totalOf [Sh1.val (.g [.l, .l, .s, .l]) c, .string cur] (TotPost V1 x cur) := by
    refine CallX.of_fits Tryz.mix (fI_totalOf _ _) fun _ => ?_
    replace h := rLedger.le h le1
    obtain ⟨c0, c1, c2, c3, cu⟩ := c
    obtain ⟨x0, x1, x2, x3, xu⟩ := x
    obtain ⟨f0, g0, _, h0, h⟩ := h
    obtain ⟨f1, g1, _, h1, h⟩ := h
    replace h0 : LR rAcct V1 c0 x0 f0 := h0
    replace h1 : LR rRest V1 c1 x1 f1 := h1
    have okB : BookOkP x0 := ok.1
    have okR := rests_rat (l := x1) ok.2.1
    have rok := restOf_ok (cur := cur) okR
    simp only [tI_totalOf, T.wp]
    refine (cI_BookSum (hV.le le1) c0 x0 f0 h0 okB cur).mono ?_
    rintro V2 _ ⟨le2, e2, s2, o2, f2, rfl, L2, k2, v2⟩
    refine ⟨nofun, (e2, s2, ()), rfl, (cI_RatInt V2 e2 s2 o2 f2 L2 k2).mono ?_⟩
    rintro V3 _ ⟨le3, c3', x3', e3, f3, rfl, R3, _, p3⟩
    rw [v2] at p3
    have l3 := le2.trans le3
    refine ⟨nofun, (c3', e3, ()), rfl, fun hf => ?_, fun ht3 => ?_⟩
    · have e3f : e3 = false := by simpa using hf
      rw [e3f] at p3
      exfalso
      refine int_len p3 ?_
      have hb := bookSum_bd okB cur x0.length
      have h12 := okB.1
      have q : (x0.length : Int) * 1000000000000000000000000000000000000 ≤ 12 * 1000000000000000000000000000000000000 := Int.mul_le_mul_of_nonneg_right (by omega) (by decide)
      have e18 : (12 * 1000000000000000000000000000000000000 : Int) < 1000000000 ^ 18 := by decide
      omega
    have e3t : e3 = true := by simpa using ht3
    have ok3 := redS_ok (by decide) p3 e3t
    obtain ⟨t1, t2, w1, w2, rfl, T1, T2, _⟩ := rat_elim R3
    refine (cI_RestOf V3 c1 x1 f1 (h1.le l3) okR cur).mono ?_
    rintro V4 _ ⟨le4, c4, f4, rfl, R4⟩
    have l4 := l3.trans le4
    obtain ⟨u1, u2, w3, w4, rfl, U1, U2, _⟩ := rat_elim R4
    refine ⟨fun _ => le4, ((restOf x1 cur).1, u1, u2, ()), rfl, (cI_RatAdd V4 x3'.1 t1 t2 (restOf x1 cur).1 u1 u2 x3'.2.1 x3'.2.2.1 (restOf x1 cur).2.1 (restOf x1 cur).2.2.1 w1 w2 w3 w4 (T1.le le4) (T2.le le4) U1 U2 ok3 rok).mono ?_⟩
    rintro V5 _ ⟨le5, c5, x5, e5, f5, rfl, R5, O5, p5⟩
    exact ⟨fun _ => le5, (c5, e5, ()), rfl, l4.trans le5, c5, x5, e5, f5, rfl, R5, O5.pre l4, .inl ⟨ok, tot_sum p3 e3t p5⟩⟩
  refine key.mono ?_
  rintro V2 _ ⟨le2, c2, y2, e2, f2, rfl, R2, O2, p2⟩
  exact ⟨nofun, (c2, e2, ()), rfl, le1.trans le2, c2, y2, e2, f2, rfl, R2, O2.pre le1, p2⟩
end Go.Proofs.YtikhpnlglkipcaaGreatDoor
