/-
  The names of codes and of operations: what the functions that the first three statements reach return.
-/
import Derived.Test.YtchkglmbbfhahaaEngD
import Derived.Test.YtchkglmbbfhahaaRows
import Derived.KernelRfl
namespace Go.Proofs.Ytchkglmbbfhahaa
open Sx

theorem Try.mix : Try.prog.follows .mixedOrders = true := Try.checked.mixed

def an0 : An := ⟨[], []⟩

/-- the name at a place of a list -/
def nameOf (l : List ByteArray) (x : Int) : ByteArray := if 0 ≤ x ∧ x < l.length then l.getD x.toNat ⟨#[]⟩ else ⟨#[]⟩

def lcNames : List ByteArray := [⟨#[111, 107]⟩, ⟨#[102, 111, 114, 109]⟩, ⟨#[99, 117, 114]⟩, ⟨#[97, 99, 99, 116]⟩, ⟨#[104, 97, 118, 101]⟩, ⟨#[109, 97, 116, 99, 104]⟩, ⟨#[114, 97, 116, 101]⟩, ⟨#[119, 101, 105, 103, 104, 116]⟩, ⟨#[108, 97, 114, 103, 101]⟩, ⟨#[102, 117, 108, 108]⟩]
def opNames : List ByteArray := [⟨#[]⟩, ⟨#[111, 112, 101, 110]⟩, ⟨#[112, 117, 116]⟩, ⟨#[116, 97, 107, 101]⟩, ⟨#[109, 111, 118, 101]⟩, ⟨#[115, 119, 97, 112]⟩, ⟨#[100, 101, 97, 108]⟩, ⟨#[116, 97, 120]⟩, ⟨#[99, 97, 115, 104]⟩, ⟨#[114, 97, 116, 101]⟩]
def strs (l : List ByteArray) : List Value := l.map .string

theorem strs_at {l : List ByteArray} {x : Int} (h : 0 ≤ x ∧ x < l.length) {r : List Value} : cutv (strs l ++ r) (x.toNat * 1) 1 = some [.string (nameOf l x)] := by
  have hlt : x.toNat < l.length := by omega
  have h1 : x.toNat * 1 + 1 ≤ (strs l ++ r).length := by simp [strs]; omega
  simp only [cutv, h1, if_true, nameOf, h, and_self]
  rw [Nat.mul_one, List.drop_append_of_le_length (by simp [strs]; omega), List.drop_eq_getElem_cons (by simpa [strs] using hlt)]
  simp [strs, hlt]

theorem strs_at' {l : List ByteArray} {x : Int} (h : 0 ≤ x ∧ x < l.length) : cutv (strs l) (x.toNat * 1) 1 = some [.string (nameOf l x)] := by
  have := strs_at h (r := [])
  rwa [List.append_nil] at this

/-! l01In -/
def tIn (x y z : Int) : T := .br (decide (x ≥ y)) (.ret [.bool (decide (x ≤ z))]) <| .ret [.bool false]
theorem fIn (x y z : Int) : fits Try.prog an0 12 [.int .i64 x, .int .i64 y, .int .i64 z] (tIn x y z) :=
  ⟨Try.f12, Try.f12.body.getD .skip, by kernel_rfl, by kernel_rfl, by kernel_rfl, by kernel_rfl, by kernel_rfl, by kernel_rfl⟩
theorem cIn (V : Know) (x y z : Int) : CallX Try.prog V 12 [.int .i64 x, .int .i64 y, .int .i64 z] (fun V' r => V' = V ∧ r = .bool (decide (y ≤ x ∧ x ≤ z))) := by
  refine CallX.of_fits Try.mix (fIn x y z) fun _ => ?_
  simp only [tIn, T.wp, packed, decide_eq_true_eq, decide_eq_false_iff_not]
  refine ⟨fun h => ⟨trivial, ?_⟩, fun h => ⟨trivial, ?_⟩⟩
  · congr 1
    exact decide_eq_decide.2 ⟨fun k => ⟨by omega, k⟩, fun k => k.2⟩
  · congr 1
    exact (decide_eq_false (by omega)).symm

/-! nameAt -/
def tAt (x : Int) (s : SlV) : T :=
  .br (decide (x < 0)) (
    .ret [.string ⟨#[]⟩]) <|
  .br (decide (x ≥ ↑s.n)) (
    .ret [.string ⟨#[]⟩]) <|
  .el (s.a) (s.n) (x) fun y1 =>
  .ld false (y1.add (x.toNat * 1)) (.o (.s)) fun y2 =>
  .ret [.string (y2)]
theorem fAt (x : Int) (s : SlV) : fits Try.prog an0 13 [.int .i64 x, .slice s.a s.n s.c] (tAt x s) :=
  ⟨Try.f13, Try.f13.body.getD .skip, by kernel_rfl, by kernel_rfl, by kernel_rfl, by kernel_rfl, by kernel_rfl, by kernel_rfl⟩
theorem cAt (V : Know) (x : Int) (b c : Nat) (l : List ByteArray) (r : List Value) (t : TypeId) (hV : V b = some (strs l ++ r, t)) :
    CallX Try.prog V 13 [.int .i64 x, .slice (some ⟨b, 0, none⟩) l.length c] (fun V' r => V' = V ∧ r = .string (nameOf l x)) := by
  refine CallX.of_fits Try.mix (fAt x ⟨some ⟨b, 0, none⟩, l.length, c⟩) fun _ => ?_
  simp only [tAt, T.wp, packed, decide_eq_true_eq, decide_eq_false_iff_not]
  refine ⟨fun h => ⟨trivial, ?_⟩, fun h => ⟨fun k => ⟨trivial, ?_⟩, fun k => ⟨_, rfl, by omega, by omega, nameOf l x, ?_, trivial, rfl⟩⟩⟩
  · have hn : ¬ (0 ≤ x ∧ x < l.length) := by omega
    simp only [nameOf, if_neg hn]
  · have hn : ¬ (0 ≤ x ∧ x < l.length) := by omega
    simp only [nameOf, if_neg hn]
  · simp only [addr_add_eq, loadV, hV, Sh1.len, Sh1.cells, Sc.val, Bool.false_eq_true, if_false, Nat.zero_add]
    have hb : 0 ≤ x ∧ x < l.length := by omega
    exact strs_at hb

/-! LcName -/
def tLcS (x : Int) : T :=
  .call false 12 [.int .i64 (x), .int .i64 (0), .int .i64 (9)] (.v (.o (.b))) fun y1 =>
  .br (!y1) (
    .ret [.string ⟨#[]⟩]) <|
  .rq (0 ≤ x ∧ x < ↑10) <|
  .xs (strs lcNames) (x.toNat * 1) (.o (.s)) fun y2 =>
  .ret [.string (y2)]
theorem fLcS (x : Int) : fits Try.prog an0 6 [.int .i64 x] (tLcS x) :=
  ⟨Try.f6, Try.f6.body.getD .skip, by kernel_rfl, by kernel_rfl, by kernel_rfl, by kernel_rfl, by kernel_rfl, by kernel_rfl⟩
theorem cLcS (V : Know) (x : Int) : CallX Try.prog V 6 [.int .i64 x] (fun V' r => V.le V' ∧ r = .string (nameOf lcNames x)) := by
  refine CallX.of_fits Try.mix (fLcS x) fun _ => ?_
  simp only [tLcS, T.wp]
  refine (cIn V x 0 9).mono ?_
  rintro V' r ⟨rfl, rfl⟩
  refine ⟨nofun, decide (0 ≤ x ∧ x ≤ 9), rfl, fun h => ?_, fun h => ?_⟩
  · have hn : ¬ (0 ≤ x ∧ x < lcNames.length) := by
      have : lcNames.length = 10 := rfl
      simp at h; omega
    exact ⟨Know.le.refl _, by simp only [packed, nameOf, if_neg hn]⟩
  · have hb : 0 ≤ x ∧ x < lcNames.length := by
      have : lcNames.length = 10 := rfl
      simp at h; omega
    exact ⟨hb, nameOf lcNames x, strs_at' hb, Know.le.refl _, rfl⟩
def tLcI (x : Int) : T :=
  .fz (10) (strs lcNames) 9 fun b1 c1 =>
  .call false 13 [.int .i64 (x), .slice (some { block := b1, off := 0, spot := none }) (10) (c1)] (.v (.o (.s))) fun y2 =>
  .ret [.string (y2)]
theorem fLcI (x : Int) : fits Try.prog an0 7 [.int .i64 x] (tLcI x) :=
  ⟨Try.f7, Try.f7.body.getD .skip, by kernel_rfl, by kernel_rfl, by kernel_rfl, by kernel_rfl, by kernel_rfl, by kernel_rfl⟩
theorem le_kset {V : Know} {b : Nat} {x} (h : V b = none) : V.le (kset V b x) := by
  intro k y hk
  simp only [kset]
  by_cases e : k = b
  · subst e; rw [h] at hk; cases hk
  · rw [if_neg e]; exact hk
theorem cLcI (V : Know) (x : Int) : CallX Try.prog V 7 [.int .i64 x] (fun V' r => V.le V' ∧ r = .string (nameOf lcNames x)) := by
  refine CallX.of_fits Try.mix (fLcI x) fun _ => ?_
  simp only [tLcI, T.wp]
  intro b c spare hb hc
  refine (cAt _ x b c lcNames spare 9 (by simp [kset])).mono ?_
  rintro V' r ⟨rfl, rfl⟩
  exact ⟨nofun, _, rfl, le_kset hb, rfl⟩
/-! OpName -/
def tOp (x : Int) : T :=
  .call false 12 [.int .i64 (x), .int .i64 (1), .int .i64 (9)] (.v (.o (.b))) fun y1 =>
  .ret [.bool (y1)]
theorem fOp (x : Int) : fits Try.prog an0 14 [.int .i64 x] (tOp x) :=
  ⟨Try.f14, Try.f14.body.getD .skip, by kernel_rfl, by kernel_rfl, by kernel_rfl, by kernel_rfl, by kernel_rfl, by kernel_rfl⟩
theorem cOp (V : Know) (x : Int) : CallX Try.prog V 14 [.int .i64 x] (fun V' r => V' = V ∧ r = .bool (decide (1 ≤ x ∧ x ≤ 9))) := by
  refine CallX.of_fits Try.mix (fOp x) fun _ => ?_
  simp only [tOp, T.wp]
  refine (cIn V x 1 9).mono ?_
  rintro V' r ⟨rfl, rfl⟩
  exact ⟨nofun, _, rfl, rfl, rfl⟩
theorem opNames_zero : nameOf opNames 0 = ⟨#[]⟩ := rfl
def tOpS (x : Int) : T :=
  .call false 14 [.int .i64 (x)] (.v (.o (.b))) fun y1 =>
  .br (!y1) (
    .ret [.string ⟨#[]⟩]) <|
  .rq (0 ≤ x ∧ x < ↑10) <|
  .xs (strs opNames) (x.toNat * 1) (.o (.s)) fun y2 =>
  .ret [.string (y2)]
theorem fOpS (x : Int) : fits Try.prog an0 8 [.int .i64 x] (tOpS x) :=
  ⟨Try.f8, Try.f8.body.getD .skip, by kernel_rfl, by kernel_rfl, by kernel_rfl, by kernel_rfl, by kernel_rfl, by kernel_rfl⟩
theorem cOpS (V : Know) (x : Int) : CallX Try.prog V 8 [.int .i64 x] (fun V' r => V.le V' ∧ r = .string (nameOf opNames x)) := by
  refine CallX.of_fits Try.mix (fOpS x) fun _ => ?_
  simp only [tOpS, T.wp]
  refine (cOp V x).mono ?_
  rintro V' r ⟨rfl, rfl⟩
  have hl : opNames.length = 10 := rfl
  refine ⟨nofun, decide (1 ≤ x ∧ x ≤ 9), rfl, fun h => ?_, fun h => ?_⟩
  · refine ⟨Know.le.refl _, ?_⟩
    by_cases h0 : x = 0
    · subst h0; rfl
    · have hn : ¬ (0 ≤ x ∧ x < opNames.length) := by
        simp at h; omega
      simp only [packed, nameOf, if_neg hn]
  · have hb : 0 ≤ x ∧ x < opNames.length := by
      simp at h; omega
    exact ⟨hb, nameOf opNames x, strs_at' hb, Know.le.refl _, rfl⟩
def tOpI (x : Int) : T :=
  .fz (10) (strs opNames) 9 fun b1 c1 =>
  .call false 13 [.int .i64 (x), .slice (some { block := b1, off := 0, spot := none }) (10) (c1)] (.v (.o (.s))) fun y2 =>
  .ret [.string (y2)]
theorem fOpI (x : Int) : fits Try.prog an0 9 [.int .i64 x] (tOpI x) :=
  ⟨Try.f9, Try.f9.body.getD .skip, by kernel_rfl, by kernel_rfl, by kernel_rfl, by kernel_rfl, by kernel_rfl, by kernel_rfl⟩
theorem cOpI (V : Know) (x : Int) : CallX Try.prog V 9 [.int .i64 x] (fun V' r => V.le V' ∧ r = .string (nameOf opNames x)) := by
  refine CallX.of_fits Try.mix (fOpI x) fun _ => ?_
  simp only [tOpI, T.wp]
  intro b c spare hb hc
  refine (cAt _ x b c opNames spare 9 (by simp [kset])).mono ?_
  rintro V' r ⟨rfl, rfl⟩
  exact ⟨nofun, _, rfl, le_kset hb, rfl⟩
end Go.Proofs.Ytchkglmbbfhahaa
