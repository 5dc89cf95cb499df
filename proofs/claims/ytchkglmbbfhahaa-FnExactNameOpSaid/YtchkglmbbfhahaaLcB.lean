/-
  The laws on the names of codes and of operations: their walks; what a law's row asks for.
-/
import Derived.Test.YtchkglmbbfhahaaLcA
import Derived.ProofKit
import Derived.Carry
namespace Go.Proofs.Ytchkglmbbfhahaa
open Sx Go.ChangeShapes Go.WideShapes Go.ChangeAt Go.RowKit

theorem below_of_fr {V' : Know} {w w' : World} (h : Fr (fun _ => none) V' w w') : Below w.heap.size w w' :=
  ⟨h.os, h.tape, h.output, h.size, fun k hk => h.keep k hk rfl⟩

section
variable {H : Type} {enc : TypeId × Value → H} {P : Program}
theorem trodAll_stays (hl : laidOutB P = true) {W W' : World} (hb : Below W.heap.size W W') : ∀ {ts : List TypeId} {vs : List Value} {ds : List (DataW H)} {p : List MemPlace},
    (∀ t ∈ ts, P.readableRec t = true ∧ t < P.types.size) → DataW.TrodAll enc P W 0 (fun _ => true) true ts vs ds p → (∀ x ∈ p, x.block < W.heap.size) → DataW.TrodAll enc P W' 0 (fun b => decide (b < W.heap.size)) true ts vs ds p
  | [], _, _, _, _, h, _ => by
    obtain ⟨rfl, rfl, rfl⟩ := trodAll_nil h
    exact h
  | t :: _, _, _, _, ht, h, hp => by
    obtain ⟨v, vs1, d, ds1, a, b, rfl, rfl, rfl, h1, h2⟩ := trodAll_cons h
    obtain ⟨g1, g2⟩ := ht t (List.mem_cons_self ..)
    exact ⟨a, b, Below.trod hl g1 g2 h1 hb (fun x hx => hp x (by simp [hx])), trodAll_stays hl hb (fun t ht' => ht t (List.mem_cons_of_mem _ ht')) h2 (fun x hx => hp x (by simp [hx])), rfl⟩

/-- what a law's row asks for, behind a call that has left all old memory as it was and returned true -/
theorem post_law (hl : laidOutB P = true) {f : Func} {s : ChangeSpec} {W W' : World} {args : Array Value} {ds gs : List (DataW H)} {before : List MemPlace} {tb : TypeId}
    (hp : ∀ t ∈ f.params.toList, P.readableRec t = true ∧ t < P.types.size) (hW : DataW.Whole enc P f.params.toList s.vars false W args.toList ds gs before) (hs : s.vars = []) (hb : Below W.heap.size W W')
    (hr : f.resultTypes = #[tb]) (hu : P.underlying tb = some .bool) (h1 : (s.fn H (ds ++ gs)).results = [.lit (.bool true)]) (h2 : (s.fn H (ds ++ gs)).args = ds) (h3 : (s.fn H (ds ++ gs)).vars = []) :
    s.post enc P f false true false false W args (.bool true) W' := by
  have hlt := hW.lt
  have hW2 := hW
  obtain ⟨p, q, hA, hV, rfl, hz, hn⟩ := hW
  rw [hs] at hV
  obtain ⟨rfl, rfl⟩ := trodVars_none hV
  refine ⟨ds, [], p ++ [], [], p, [], hW2, ?_, ?_, ?_, hb.frame _, nofun⟩
  · rw [hr, h1]
    exact trodAll_mk1 (shut_bool hu true)
  · rw [h2]
    exact trodAll_stays hl hb hp hA (fun x hx => hlt x (by simp [hx]))
  · rw [hs, h3]; exact rfl
end

/-! the laws -/
def tLawLc (x : Int) : T :=
  .call false 6 [.int .i64 (x)] (.v (.o (.s))) fun y1 =>
  .call false 7 [.int .i64 (x)] (.v (.o (.s))) fun y2 =>
  .br (!y2.toList == y1.toList) (
    .ret [.bool (false)]) <|
  .ret [.bool (true)]
theorem fLawLc (x : Int) : fits Try.prog an0 3 [.int .i64 x] (tLawLc x) :=
  ⟨Try.f3, Try.f3.body.getD .skip, by kernel_rfl, by kernel_rfl, by kernel_rfl, by kernel_rfl, by kernel_rfl, by kernel_rfl⟩
theorem cLawLc (x : Int) : CallX Try.prog (fun _ => none) 3 [.int .i64 x] (fun _ r => r = .bool true) := by
  refine CallX.of_fits Try.mix (fLawLc x) fun _ => ?_
  simp only [tLawLc, T.wp]
  refine (cLcS _ x).mono ?_
  rintro V1 r ⟨_, rfl⟩
  refine ⟨nofun, _, rfl, (cLcI _ x).mono ?_⟩
  rintro V2 r ⟨_, rfl⟩
  exact ⟨nofun, _, rfl, fun h => by simp at h, fun _ => rfl⟩

def tLawOp (x : Int) : T :=
  .call false 8 [.int .i64 (x)] (.v (.o (.s))) fun y1 =>
  .call false 9 [.int .i64 (x)] (.v (.o (.s))) fun y2 =>
  .br (!y2.toList == y1.toList) (
    .ret [.bool (false)]) <|
  .ret [.bool (true)]
theorem fLawOp (x : Int) : fits Try.prog an0 4 [.int .i64 x] (tLawOp x) :=
  ⟨Try.f4, Try.f4.body.getD .skip, by kernel_rfl, by kernel_rfl, by kernel_rfl, by kernel_rfl, by kernel_rfl, by kernel_rfl⟩
theorem cLawOp (x : Int) : CallX Try.prog (fun _ => none) 4 [.int .i64 x] (fun _ r => r = .bool true) := by
  refine CallX.of_fits Try.mix (fLawOp x) fun _ => ?_
  simp only [tLawOp, T.wp]
  refine (cOpS _ x).mono ?_
  rintro V1 r ⟨_, rfl⟩
  refine ⟨nofun, _, rfl, (cOpI _ x).mono ?_⟩
  rintro V2 r ⟨_, rfl⟩
  exact ⟨nofun, _, rfl, fun h => by simp at h, fun _ => rfl⟩

/-! NameOp: both ask the names one by one -/
def find (s : ByteArray) : Nat → Int → Int
  | 0, _ => 0
  | n + 1, i => if (nameOf opNames i).toList = s.toList then i else find s n (i + 1)
def anOp : An := ⟨[(2, [.s 3], [.o (.o (.i .i64))])], []⟩
def tNm (g : Nat) (x : ByteArray) : T :=
  .lp [.o (.o (.i .i64))] [.v (.int .i64 (1))] fun (y1 : Int × Unit) =>
  .br (decide (y1.fst ≤ 9)) (
    .call false g [.int .i64 (y1.fst)] (.v (.o (.s))) fun y2 =>
    .br (y2.toList == x.toList) (
      .ret [.int .i64 (y1.fst)]) <|
    .nx 0 [.v (.int .i64 (Go.IntKind.i64.wrap (y1.fst + 1)))]) <|
  .ret [.int .i64 (0)]
theorem fNmS (x : ByteArray) : fits Try.prog anOp 10 [.string x] (tNm 8 x) :=
  ⟨Try.f10, Try.f10.body.getD .skip, by kernel_rfl, by kernel_rfl, by kernel_rfl, by kernel_rfl, by kernel_rfl, by kernel_rfl⟩
theorem fNmI (x : ByteArray) : fits Try.prog anOp 11 [.string x] (tNm 9 x) :=
  ⟨Try.f11, Try.f11.body.getD .skip, by kernel_rfl, by kernel_rfl, by kernel_rfl, by kernel_rfl, by kernel_rfl, by kernel_rfl⟩
theorem wrap_small {n : Int} (h : 0 ≤ n ∧ n ≤ 100) : IntKind.i64.wrap n = n := by
  simp only [IntKind.wrap]
  have h2 : IntKind.i64.bits = 64 := rfl
  simp only [h2, IntKind.signed]
  have h3 : n % 2 ^ 64 = n := Int.emod_eq_of_lt h.1 (by omega)
  rw [h3, if_neg (by simp; omega)]
theorem tNm_wp {V : Know} {g : Nat} {x : ByteArray} (hg : ∀ (V : Know) (n : Int), CallX Try.prog V g [.int .i64 n] (fun V' r => V.le V' ∧ r = .string (nameOf opNames n))) :
    (tNm g x).wp Try.prog (fun V' vs => V.le V' ∧ packed vs = .int .i64 (find x 9 1)) V V [] := by
  simp only [tNm, T.wp]
  refine ⟨fun (y : Int × Unit) V' => V.le V' ∧ 1 ≤ y.1 ∧ y.1 ≤ 10 ∧ find x (10 - y.1).toNat y.1 = find x 9 1, fun (y : Int × Unit) => (10 - y.1).toNat, ⟨((1 : Int), ()), rfl, Know.le.refl _, by simp, by simp, rfl⟩, ?_⟩
  rintro ⟨(i : Int), u⟩ V' ⟨h1, h2, h3, h4⟩
  replace h2 : 1 ≤ i := h2
  replace h3 : i ≤ 10 := h3
  replace h4 : find x (10 - i).toNat i = find x 9 1 := h4
  refine ⟨fun h => ?_, fun h => ?_⟩
  · have hi : i ≤ 9 := by simpa using h
    obtain ⟨m, hm⟩ : ∃ m, (10 - i).toNat = m + 1 := ⟨(9 - i).toNat, by omega⟩
    have hm2 : (10 - (i + 1)).toNat = m := by omega
    rw [hm] at h4
    simp only [find] at h4
    refine (hg V' i).mono ?_
    rintro V2 r ⟨hle, rfl⟩
    refine ⟨nofun, _, rfl, fun h => ?_, fun h => ?_⟩
    · rw [if_pos (by simpa using h)] at h4
      exact ⟨h1.trans hle, by rw [h4]; rfl⟩
    · rw [if_neg (by simpa using h)] at h4
      have hw : IntKind.i64.wrap (i + 1) = i + 1 := wrap_small (by omega)
      refine ⟨_, rfl, ((i + 1 : Int), ()), by rw [hw]; rfl, ⟨h1.trans hle, (by omega : 1 ≤ i + 1), (by omega : i + 1 ≤ 10), ?_⟩, (by omega : (10 - (i + 1)).toNat < (10 - i).toNat)⟩
      show find x (10 - (i + 1)).toNat (i + 1) = find x 9 1
      rw [hm2]; exact h4
  · have hi : ¬ i ≤ 9 := by simpa using h
    have : i = 10 := by omega
    subst this
    exact ⟨h1, by rw [← h4]; rfl⟩
theorem cNmS (V : Know) (x : ByteArray) : CallX Try.prog V 10 [.string x] (fun V' r => V.le V' ∧ r = .int .i64 (find x 9 1)) :=
  CallX.of_fits Try.mix (fNmS x) fun _ => tNm_wp cOpS
theorem cNmI (V : Know) (x : ByteArray) : CallX Try.prog V 11 [.string x] (fun V' r => V.le V' ∧ r = .int .i64 (find x 9 1)) :=
  CallX.of_fits Try.mix (fNmI x) fun _ => tNm_wp cOpI
def tLawNm (x : ByteArray) : T :=
  .br (decide ((x.size : Int) > 1048576)) (
    .ret [.bool (true)]) <|
  .call false 10 [.string (x)] (.v (.o (.i .i64))) fun y1 =>
  .call false 11 [.string (x)] (.v (.o (.i .i64))) fun y2 =>
  .br (y2 != y1) (
    .ret [.bool (false)]) <|
  .ret [.bool (true)]
theorem fLawNm (x : ByteArray) : fits Try.prog an0 5 [.string x] (tLawNm x) :=
  ⟨Try.f5, Try.f5.body.getD .skip, by kernel_rfl, by kernel_rfl, by kernel_rfl, by kernel_rfl, by kernel_rfl, by kernel_rfl⟩
theorem cLawNm (x : ByteArray) : CallX Try.prog (fun _ => none) 5 [.string x] (fun _ r => r = .bool true) := by
  refine CallX.of_fits Try.mix (fLawNm x) fun _ => ?_
  simp only [tLawNm, T.wp]
  refine ⟨fun _ => rfl, fun _ => (cNmS _ x).mono ?_⟩
  rintro V1 r ⟨_, rfl⟩
  refine ⟨nofun, _, rfl, (cNmI _ x).mono ?_⟩
  rintro V2 r ⟨_, rfl⟩
  exact ⟨nofun, _, rfl, fun h => by simp at h, fun _ => rfl⟩
end Go.Proofs.Ytchkglmbbfhahaa
