/-
  Fractions, amounts, rates, remainders and ledgers as texts, in the program and in the reference.
-/
import Derived.Test.YtpnjdpomoijaaaaGreatDoorTxtC
namespace Go.Proofs.YtpnjdpomoijaaaaGreatDoor
open Sx Go.RowKit
set_option maxRecDepth 100000

/-! the places of a currency -/
def places (x : ByteArray) : Int := (curRowOf x).2.2.1
theorem places_bd (x : ByteArray) : 0 ≤ places x ∧ places x ≤ 4 := by
  unfold places curRowOf
  cases h : curFrom curI x 0 with
  | none => exact ⟨by decide, by decide⟩
  | some r =>
    have hm : r ∈ curI := List.mem_of_find?_eq_some h
    have : ∀ r ∈ curI, 0 ≤ r.2.2.1 ∧ r.2.2.1 ≤ 4 := by decide +kernel
    exact this r hm
theorem known_size {x : ByteArray} (h : known x = true) : x.size = 3 := by
  unfold known at h
  cases h2 : curFrom curI x 0 with
  | none => rw [h2] at h; cases h
  | some r =>
    have hm : r ∈ curI := List.mem_of_find?_eq_some h2
    have hx : (r.1.toList == x.toList) = true := List.find?_some (p := curHas x) h2
    have : ∀ r ∈ curI, r.1.size = 3 := by decide +kernel
    rw [← text_eq.1 hx]
    exact this r hm
theorem cS_CurPlaces {V : Know} (_ : HtS V) (x : ByteArray) : CallX Tryz.prog V gS_CurPlaces [.string x] (fun V' r => V.le V' ∧ r = .int .i64 (places x)) := by
  refine CallX.of_fits Tryz.mix (fS_CurPlaces _) fun _ => ?_
  simp only [tS_CurPlaces, T.wp]
  refine (cS_l08Find V x).mono ?_
  rintro V1 _ ⟨le1, rfl⟩
  exact ⟨nofun, curRowOf x, rfl, le1, rfl⟩
theorem cI_CurPlaces {V : Know} (hV : HtI V) (x : ByteArray) : CallX Tryz.prog V gI_CurPlaces [.string x] (fun V' r => V.le V' ∧ r = .int .i64 (places x)) := by
  refine CallX.of_fits Tryz.mix (fI_CurPlaces _) fun _ => ?_
  simp only [tI_CurPlaces, T.wp]
  refine (cI_currencyOf hV.1 x).mono ?_
  rintro V1 _ ⟨rfl, rfl⟩
  exact ⟨nofun, (curRowOf x, known x, ()), rfl, Know.le.refl _, rfl⟩

/-! the texts -/
def ratT (neg : Bool) (n d : List Lim) : ByteArray := if d = [(1, ())] then intT neg n else (intT neg n ++ (⟨#[47]⟩ : ByteArray)) ++ natT d
noncomputable def moneyT (cur : ByteArray) (neg : Bool) (l : List Lim) : ByteArray := (cur ++ (⟨#[32]⟩ : ByteArray)) ++ decT neg l (places cur)
def rateT (r : DRate) : ByteArray := (((r.1 ++ (⟨#[32]⟩ : ByteArray)) ++ r.2.1) ++ (⟨#[32]⟩ : ByteArray)) ++ decT r.2.2.1 r.2.2.2.1 r.2.2.2.2.1
theorem ratT_size {neg : Bool} {n d : List Lim} (h : RatOkP neg n d) : (ratT neg n d).size ≤ 800 := by
  have h1 := intT_size (neg := neg) h.1.1.1.1
  have h2 := natT_size h.2.1.1.1
  have l1 := h.2.2.2.1
  have l2 := h.2.2.2.2.1
  unfold ratT
  split
  · omega
  · rw [ByteArray.size_append, ByteArray.size_append]
    show _ + 1 + _ ≤ _
    omega
theorem moneyT_size {cur : ByteArray} {neg : Bool} {l : List Lim} (h : MoneyOkP cur neg l) : (moneyT cur neg l).size ≤ 2200 := by
  have h1 := decT_size (neg := neg) (sc := places cur) h.2.1.1.1.1
  have h2 := known_size h.1
  have l1 := h.2.2
  unfold moneyT
  rw [ByteArray.size_append, ByteArray.size_append]
  show _ + 1 + _ ≤ _
  omega
theorem rateT_size {r : DRate} (h : RateOkP r) : (rateT r).size ≤ 2200 := by
  have h1 := decT_size (neg := r.2.2.1) (sc := r.2.2.2.2.1) h.2.2.2.1.1.1.1.1
  have h2 := known_size h.1
  have h3 := known_size h.2.1
  have l1 := h.2.2.2.1.2.1
  unfold rateT
  rw [ByteArray.size_append, ByteArray.size_append, ByteArray.size_append, ByteArray.size_append]
  show _ + 1 + _ + 1 + _ ≤ _
  omega
theorem can_one1 : Can [((1 : Int), ())] := ⟨lims_one (by decide), .inr (by decide)⟩
/-! rows of texts, one behind the other -/
noncomputable def rowsT {α : Type} (g : α → ByteArray) (l : List α) (s : ByteArray) : ByteArray := l.foldl (fun t x => t ++ g x) s
theorem rowsT_snoc {α : Type} (g : α → ByteArray) (l : List α) (x : α) (s : ByteArray) : rowsT g (l ++ [x]) s = rowsT g l s ++ g x := by simp [rowsT]
/-- a loop that writes a list's rows -/
theorem rows_lp {α : Type} {P : Program} {K : Know → List Value → Prop} {V V0 : Know} {Ns : List (List LV → Know → Prop)} {n : Nat} {s0 : ByteArray} (g : α → ByteArray) (l : List α) (B : Nat)
    {row cont : LShs [.o (.o .s), .o (.o (.i .i64))] → T} (hn : n = l.length) (h63 : n ≤ 9223372036854775807)
    (hB : ∀ i (h : i < l.length), (g l[i]).size ≤ B)
    (hrow : ∀ (N : List LV → Know → Prop) (V1 : Know) (i : Nat) (t : ByteArray) (hi : i < l.length), V.le V1 → t.size ≤ s0.size + B * l.length → t.size + B ≤ s0.size + B * l.length →
      (∀ V2, V1.le V2 → N [.v (.string (t ++ g l[i])), .v (.int .i64 ((i + 1 : Nat) : Int))] V2) → (row (t, (i : Int), ())).wp P K V1 V1 (Ns ++ [N]))
    (hcont : ∀ (N : List LV → Know → Prop) (V1 : Know), V.le V1 → (rowsT g l s0).size ≤ s0.size + B * l.length → (cont (rowsT g l s0, (n : Int), ())).wp P K V1 V1 (Ns ++ [N])) :
    (T.lp [.o (.o .s), .o (.o (.i .i64))] [.v (.string s0), .v (.int .i64 (0 : Int))] fun y => .br (decide (y.2.fst < (n : Int))) (row y) (cont y)).wp P K V V0 Ns := by
  subst hn
  refine ⟨fun y V' => V.le V' ∧ ∃ i : Nat, (y.2.1 : Int) = (i : Int) ∧ i ≤ l.length ∧ y.1 = rowsT g (l.take i) s0 ∧ ByteArray.size y.1 ≤ s0.size + B * i, fun y _ => ((l.length : Int) - (y.2.1 : Int)).toNat,
    ⟨(s0, (0 : Int), ()), rfl, Know.le.refl _, 0, rfl, Nat.zero_le _, rfl, by simp⟩, ?_⟩
  rintro ⟨t, (q : Int), u⟩ V' ⟨hle, i, hq, hil, ht, hsz⟩
  replace hq : q = (i : Int) := hq
  replace ht : t = rowsT g (l.take i) s0 := ht
  replace hsz : ByteArray.size t ≤ s0.size + B * i := hsz
  subst hq
  refine ⟨fun hlt => ?_, fun hge => ?_⟩
  · have hi : i < l.length := by
      have : (i : Int) < (l.length : Int) := of_decide_eq_true hlt
      omega
    have hm : B * (i + 1) ≤ B * l.length := Nat.mul_le_mul_left _ hi
    rw [Nat.mul_add, Nat.mul_one] at hm
    refine hrow _ V' i t hi hle (by omega) (by omega) fun V2 hle2 => ?_
    refine ⟨(t ++ g l[i], ((i + 1 : Nat) : Int), ()), rfl, ⟨hle.trans hle2, i + 1, rfl, hi, ?_, ?_⟩, ?_⟩
    · show t ++ g l[i] = _
      rw [ht, List.take_succ_eq_append_getElem hi, rowsT_snoc]
    · show (t ++ g l[i]).size ≤ _
      rw [ByteArray.size_append, Nat.mul_add, Nat.mul_one]
      have := hB i hi
      omega
    · show ((l.length : Int) - ((i + 1 : Nat) : Int)).toNat < ((l.length : Int) - (i : Int)).toNat
      omega
  · have hi : i = l.length := by
      have : ¬ (i : Int) < (l.length : Int) := of_decide_eq_false hge
      omega
    subst hi
    rw [List.take_length] at ht
    subst ht
    exact hcont _ V' hle hsz
noncomputable def rateRow (r : DRate) : ByteArray := ((⟨#[114, 97, 116, 101, 32]⟩ : ByteArray) ++ rateT r) ++ (⟨#[10]⟩ : ByteArray)
noncomputable def acctRow (a : DAcct) : ByteArray := (((⟨#[97, 99, 99, 116, 32]⟩ : ByteArray) ++ a.1 ++ (⟨#[32]⟩ : ByteArray)) ++ moneyT a.2.1 a.2.2.1 a.2.2.2.1) ++ (⟨#[10]⟩ : ByteArray)
noncomputable def restRow (x : DRest) : ByteArray := (((⟨#[114, 101, 115, 116, 32]⟩ : ByteArray) ++ x.1 ++ (⟨#[32]⟩ : ByteArray)) ++ ratT x.2.1 x.2.2.1 x.2.2.2.1) ++ (⟨#[10]⟩ : ByteArray)
noncomputable def ledgerT (x : DLedger) : ByteArray := rowsT restRow x.2.1 (rowsT acctRow x.1 (rowsT rateRow x.2.2.2.1 (((⟨#[112, 105, 118, 111, 116, 32]⟩ : ByteArray) ++ x.2.2.1) ++ (⟨#[10]⟩ : ByteArray))))
theorem rateRow_size {r : DRate} (h : RateOkP r) : (rateRow r).size ≤ 3000 := by
  have := rateT_size h
  unfold rateRow
  rw [ByteArray.size_append, ByteArray.size_append]
  show 5 + _ + 1 ≤ _
  omega
theorem acctRow_size {a : DAcct} (h : MoneyOkP a.2.1 a.2.2.1 a.2.2.2.1) (hw : WordP a.1) : (acctRow a).size ≤ 3000 := by
  have := moneyT_size h
  have := hw.2.1
  unfold acctRow
  rw [ByteArray.size_append, ByteArray.size_append, ByteArray.size_append, ByteArray.size_append]
  show 5 + _ + 1 + _ + 1 ≤ _
  omega
theorem restRow_size {x : DRest} (h : RatOkP x.2.1 x.2.2.1 x.2.2.2.1) (hk : known x.1 = true) : (restRow x).size ≤ 3000 := by
  have := ratT_size h
  have := known_size hk
  unfold restRow
  rw [ByteArray.size_append, ByteArray.size_append, ByteArray.size_append, ByteArray.size_append]
  show 5 + _ + 1 + _ + 1 ≤ _
  omega

theorem cS_MoneyOkH {V : Know} (_ : HtS V) (c0 : ByteArray) (c1 : Bool) (c2 : SlV) (l : List Lim) (f : List Nat) (h : LR rI V c2 l f) : CallX Tryz.prog V gS_MoneyOk [Sh1.val (.g [.s, .b, .l]) (c0, c1, c2, ())] (fun V' r => V.le V' ∧ ∃ e, r = .bool e ∧ (e = true ↔ MoneyOkP c0 c1 l)) := cS_MoneyOk c0 c1 c2 l f h
theorem cI_MoneyOkH {V : Know} (hV : HtI V) (c0 : ByteArray) (c1 : Bool) (c2 : SlV) (l : List Lim) (f : List Nat) (h : LR rI V c2 l f) : CallX Tryz.prog V gI_MoneyOk [Sh1.val (.g [.s, .b, .l]) (c0, c1, c2, ())] (fun V' r => V.le V' ∧ ∃ e, r = .bool e ∧ (e = true ↔ MoneyOkP c0 c1 l)) := cI_MoneyOk hV.1 c0 c1 c2 l f h

theorem cS_MoneyText {V : Know} (hV : HtS V) (c0 : ByteArray) (c1 : Bool) (c2 : SlV) (l : List Lim) (f : List Nat) (h : LR rI V c2 l f) (hz : c0.size ≤ 1048576) :
    CallX Tryz.prog V gS_MoneyText [Sh1.val (.g [.s, .b, .l]) (c0, c1, c2, ())] (TxPost V (okT (MoneyOkP c0 c1 l) (moneyT c0 c1 l))) := by
  refine CallX.of_fits Tryz.mix (fS_MoneyText _) fun _ => ?_
  simp only [tS_MoneyText, T.wp]
  refine (cS_MoneyOkH hV c0 c1 c2 l f h).mono ?_
  rintro V1 r ⟨le1, e, rfl, he⟩
  refine ⟨nofun, e, rfl, fun hf => ⟨le1, by rw [okT_neg (fun k => by rw [he.2 k] at hf; cases hf)]; rfl⟩, fun ht => ?_⟩
  have ok := he.1 (by simpa using ht)
  rw [okT_pos ok]
  refine ⟨by show ByteArray.size c0 + 1 ≤ _; omega, (cS_CurPlaces (hV.le le1) c0).mono ?_⟩
  rintro V2 _ ⟨le2, rfl⟩
  have l2 := le1.trans le2
  have hp := places_bd c0
  refine ⟨fun _ => le2, _, rfl, (cS_DecText (hV.le l2) c1 c2 (places c0) l f (h.le l2)).mono ?_⟩
  rintro V3 _ ⟨le3, rfl⟩
  have dok : DecOkP c1 l (places c0) := ⟨ok.2.1, by have := ok.2.2; omega, hp.1, by omega⟩
  rw [okT_pos dok]
  have hs := decT_size (neg := c1) (sc := places c0) ok.2.1.1.1.1
  have h4 := ok.2.2
  refine ⟨fun _ => le3, _, rfl, ?_, l2.trans le3, rfl⟩
  rw [ByteArray.size_append]
  show ByteArray.size c0 + 1 + (decT c1 l (places c0)).size ≤ _
  omega
theorem cS_RateText {V : Know} (hV : HtS V) (x : DRate) (s : SlV) (f : List Nat) (h : LR rI V s x.2.2.2.1 f) :
    CallX Tryz.prog V gS_RateText [Sh1.val (.g [.s, .s, .b, .l, .i .i64]) (x.1, x.2.1, x.2.2.1, s, x.2.2.2.2.1, ())] (TxPost V (okT (RateOkP x) (rateT x))) := by
  refine CallX.of_fits Tryz.mix (fS_RateText _) fun _ => ?_
  simp only [tS_RateText, T.wp]
  refine (cS_RateOk hV.c x s f h).mono ?_
  rintro V1 r ⟨le1, e, rfl, he⟩
  refine ⟨nofun, e, rfl, fun hf => ⟨le1, by rw [okT_neg (fun k => by rw [he.2 k] at hf; cases hf)]; rfl⟩, fun ht => ?_⟩
  have ok := he.1 (by simpa using ht)
  rw [okT_pos ok]
  have k1 := known_size ok.1
  have k2 := known_size ok.2.1
  have hs := decT_size (neg := x.2.2.1) (sc := x.2.2.2.2.1) ok.2.2.2.1.1.1.1.1
  have h4 := ok.2.2.2.1.2.1
  refine ⟨by show ByteArray.size x.1 + 1 ≤ _; omega, ?_, ?_, ?_⟩
  · rw [ByteArray.size_append]
    show ByteArray.size x.1 + 1 + ByteArray.size x.2.1 ≤ _
    omega
  · rw [ByteArray.size_append, ByteArray.size_append]
    show ByteArray.size x.1 + 1 + ByteArray.size x.2.1 + 1 ≤ _
    omega
  refine (cS_DecText (hV.le le1) x.2.2.1 s x.2.2.2.2.1 x.2.2.2.1 f (h.le le1)).mono ?_
  rintro V3 _ ⟨le3, rfl⟩
  rw [okT_pos ok.2.2.2.1]
  refine ⟨fun _ => le3, _, rfl, ?_, le1.trans le3, rfl⟩
  rw [ByteArray.size_append, ByteArray.size_append, ByteArray.size_append]
  show ByteArray.size x.1 + 1 + ByteArray.size x.2.1 + 1 + (decT x.2.2.1 x.2.2.2.1 x.2.2.2.2.1).size ≤ _
  omega

theorem cI_MoneyText {V : Know} (hV : HtI V) (c0 : ByteArray) (c1 : Bool) (c2 : SlV) (l : List Lim) (f : List Nat) (h : LR rI V c2 l f) (hz : c0.size ≤ 1048576) :
    CallX Tryz.prog V gI_MoneyText [Sh1.val (.g [.s, .b, .l]) (c0, c1, c2, ())] (TxPost V (okT (MoneyOkP c0 c1 l) (moneyT c0 c1 l))) := by
  refine CallX.of_fits Tryz.mix (fI_MoneyText _) fun _ => ?_
  simp only [tI_MoneyText, T.wp]
  refine (cI_MoneyOkH hV c0 c1 c2 l f h).mono ?_
  rintro V1 r ⟨le1, e, rfl, he⟩
  refine ⟨nofun, e, rfl, fun hf => ⟨le1, by rw [okT_neg (fun k => by rw [he.2 k] at hf; cases hf)]; rfl⟩, fun ht => ?_⟩
  have ok := he.1 (by simpa using ht)
  rw [okT_pos ok]
  refine ⟨by show ByteArray.size c0 + 1 ≤ _; omega, (cI_CurPlaces (hV.le le1) c0).mono ?_⟩
  rintro V2 _ ⟨le2, rfl⟩
  have l2 := le1.trans le2
  have hp := places_bd c0
  refine ⟨fun _ => le2, _, rfl, (cI_DecText (hV.le l2) c1 c2 (places c0) l f (h.le l2)).mono ?_⟩
  rintro V3 _ ⟨le3, rfl⟩
  have dok : DecOkP c1 l (places c0) := ⟨ok.2.1, by have := ok.2.2; omega, hp.1, by omega⟩
  rw [okT_pos dok]
  have hs := decT_size (neg := c1) (sc := places c0) ok.2.1.1.1.1
  have h4 := ok.2.2
  refine ⟨fun _ => le3, _, rfl, ?_, l2.trans le3, rfl⟩
  rw [ByteArray.size_append]
  show ByteArray.size c0 + 1 + (decT c1 l (places c0)).size ≤ _
  omega
theorem cI_RateText {V : Know} (hV : HtI V) (x : DRate) (s : SlV) (f : List Nat) (h : LR rI V s x.2.2.2.1 f) :
    CallX Tryz.prog V gI_RateText [Sh1.val (.g [.s, .s, .b, .l, .i .i64]) (x.1, x.2.1, x.2.2.1, s, x.2.2.2.2.1, ())] (TxPost V (okT (RateOkP x) (rateT x))) := by
  refine CallX.of_fits Tryz.mix (fI_RateText _) fun _ => ?_
  simp only [tI_RateText, T.wp]
  refine (cI_RateOk hV.c x s f h).mono ?_
  rintro V1 r ⟨le1, e, rfl, he⟩
  refine ⟨nofun, e, rfl, fun hf => ⟨le1, by rw [okT_neg (fun k => by rw [he.2 k] at hf; cases hf)]; rfl⟩, fun ht => ?_⟩
  have ok := he.1 (by simpa using ht)
  rw [okT_pos ok]
  have k1 := known_size ok.1
  have k2 := known_size ok.2.1
  have hs := decT_size (neg := x.2.2.1) (sc := x.2.2.2.2.1) ok.2.2.2.1.1.1.1.1
  have h4 := ok.2.2.2.1.2.1
  refine ⟨by show ByteArray.size x.1 + 1 ≤ _; omega, ?_, ?_, ?_⟩
  · rw [ByteArray.size_append]
    show ByteArray.size x.1 + 1 + ByteArray.size x.2.1 ≤ _
    omega
  · rw [ByteArray.size_append, ByteArray.size_append]
    show ByteArray.size x.1 + 1 + ByteArray.size x.2.1 + 1 ≤ _
    omega
  refine (cI_DecText (hV.le le1) x.2.2.1 s x.2.2.2.2.1 x.2.2.2.1 f (h.le le1)).mono ?_
  rintro V3 _ ⟨le3, rfl⟩
  rw [okT_pos ok.2.2.2.1]
  refine ⟨fun _ => le3, _, rfl, ?_, le1.trans le3, rfl⟩
  rw [ByteArray.size_append, ByteArray.size_append, ByteArray.size_append]
  show ByteArray.size x.1 + 1 + ByteArray.size x.2.1 + 1 + (decT x.2.2.1 x.2.2.2.1 x.2.2.2.2.1).size ≤ _
  omega

end Go.Proofs.YtpnjdpomoijaaaaGreatDoor
