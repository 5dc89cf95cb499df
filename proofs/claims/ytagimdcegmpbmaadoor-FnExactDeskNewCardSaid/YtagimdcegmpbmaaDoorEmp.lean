/-
  The laws' helpers on ledgers and desks whose lists are empty, and the two makers of empty ledgers and desks.
-/
import Derived.Test.YtagimdcegmpbmaaDoorCur
namespace Go.Proofs.YtagimdcegmpbmaaDoor
open Sx
set_option maxRecDepth 100000

def nilS : SlV := ⟨none, 0, 0⟩
def ledCells (p : ByteArray) : Scs [.l, .l, .s, .l] := (nilS, nilS, p, nilS, ())
def deskCells (p : ByteArray) : Scs [.l, .l, .s, .l, .l] := (nilS, nilS, p, nilS, nilS, ())
def led (p : ByteArray) : Value := Sh1.val (.g [.l, .l, .s, .l]) (ledCells p)
def desk (p : ByteArray) : Value := Sh1.val (.g [.l, .l, .s, .l, .l]) (deskCells p)
theorem cL_eqAcctS0 (V : Know) : CallX Tryd.prog V gL_eqAcctS [Sc.val .l nilS, Sc.val .l nilS] (fun V' r => V' = V ∧ r = .bool true) := by
  refine CallX.of_fits Tryd.mix (fL_eqAcctS _ _) fun _ => ?_
  unfold tL_eqAcctS
  refine ⟨fun h => by simp [nilS] at h, fun _ => ?_⟩
  refine lp_once ((0 : Int), ()) rfl fun N => ?_
  simp only [T.wp]
  exact ⟨fun h => by simp [nilS] at h, fun _ => by first | exact ⟨rfl, rfl⟩ | exact ⟨trivial, rfl⟩⟩
theorem cL_markAcctS0 (V : Know) (k : Int) : CallX Tryd.prog V gL_markAcctS [Sc.val .l nilS, .int .i64 k] (fun V' r => V' = V ∧ r = .int .i64 k) := by
  refine CallX.of_fits Tryd.mix (fL_markAcctS _ _) fun _ => ?_
  simp only [tL_markAcctS]
  refine lp_once (k, (0 : Int), ()) rfl fun N => ?_
  simp only [T.wp]
  exact ⟨fun h => by simp [nilS] at h, fun _ => by first | exact ⟨rfl, rfl⟩ | exact ⟨trivial, rfl⟩⟩
theorem cL_heldAcctS0 (V : Know) (k : Int) : CallX Tryd.prog V gL_heldAcctS [Sc.val .l nilS, .int .i64 k] (fun V' r => V' = V ∧ r = .int .i64 k) := by
  refine CallX.of_fits Tryd.mix (fL_heldAcctS _ _) fun _ => ?_
  simp only [tL_heldAcctS]
  refine lp_once (k, (0 : Int), ()) rfl fun N => ?_
  simp only [T.wp]
  exact ⟨fun h => by simp [nilS] at h, fun _ => by first | exact ⟨rfl, rfl⟩ | exact ⟨trivial, rfl⟩⟩
theorem cL_eqRestS0 (V : Know) : CallX Tryd.prog V gL_eqRestS [Sc.val .l nilS, Sc.val .l nilS] (fun V' r => V' = V ∧ r = .bool true) := by
  refine CallX.of_fits Tryd.mix (fL_eqRestS _ _) fun _ => ?_
  unfold tL_eqRestS
  refine ⟨fun h => by simp [nilS] at h, fun _ => ?_⟩
  refine lp_once ((0 : Int), ()) rfl fun N => ?_
  simp only [T.wp]
  exact ⟨fun h => by simp [nilS] at h, fun _ => by first | exact ⟨rfl, rfl⟩ | exact ⟨trivial, rfl⟩⟩
theorem cL_markRestS0 (V : Know) (k : Int) : CallX Tryd.prog V gL_markRestS [Sc.val .l nilS, .int .i64 k] (fun V' r => V' = V ∧ r = .int .i64 k) := by
  refine CallX.of_fits Tryd.mix (fL_markRestS _ _) fun _ => ?_
  simp only [tL_markRestS]
  refine lp_once (k, (0 : Int), ()) rfl fun N => ?_
  simp only [T.wp]
  exact ⟨fun h => by simp [nilS] at h, fun _ => by first | exact ⟨rfl, rfl⟩ | exact ⟨trivial, rfl⟩⟩
theorem cL_heldRestS0 (V : Know) (k : Int) : CallX Tryd.prog V gL_heldRestS [Sc.val .l nilS, .int .i64 k] (fun V' r => V' = V ∧ r = .int .i64 k) := by
  refine CallX.of_fits Tryd.mix (fL_heldRestS _ _) fun _ => ?_
  simp only [tL_heldRestS]
  refine lp_once (k, (0 : Int), ()) rfl fun N => ?_
  simp only [T.wp]
  exact ⟨fun h => by simp [nilS] at h, fun _ => by first | exact ⟨rfl, rfl⟩ | exact ⟨trivial, rfl⟩⟩
theorem cL_eqRateS0 (V : Know) : CallX Tryd.prog V gL_eqRateS [Sc.val .l nilS, Sc.val .l nilS] (fun V' r => V' = V ∧ r = .bool true) := by
  refine CallX.of_fits Tryd.mix (fL_eqRateS _ _) fun _ => ?_
  unfold tL_eqRateS
  refine ⟨fun h => by simp [nilS] at h, fun _ => ?_⟩
  refine lp_once ((0 : Int), ()) rfl fun N => ?_
  simp only [T.wp]
  exact ⟨fun h => by simp [nilS] at h, fun _ => by first | exact ⟨rfl, rfl⟩ | exact ⟨trivial, rfl⟩⟩
theorem cL_markRateS0 (V : Know) (k : Int) : CallX Tryd.prog V gL_markRateS [Sc.val .l nilS, .int .i64 k] (fun V' r => V' = V ∧ r = .int .i64 k) := by
  refine CallX.of_fits Tryd.mix (fL_markRateS _ _) fun _ => ?_
  simp only [tL_markRateS]
  refine lp_once (k, (0 : Int), ()) rfl fun N => ?_
  simp only [T.wp]
  exact ⟨fun h => by simp [nilS] at h, fun _ => by first | exact ⟨rfl, rfl⟩ | exact ⟨trivial, rfl⟩⟩
theorem cL_heldRateS0 (V : Know) (k : Int) : CallX Tryd.prog V gL_heldRateS [Sc.val .l nilS, .int .i64 k] (fun V' r => V' = V ∧ r = .int .i64 k) := by
  refine CallX.of_fits Tryd.mix (fL_heldRateS _ _) fun _ => ?_
  simp only [tL_heldRateS]
  refine lp_once (k, (0 : Int), ()) rfl fun N => ?_
  simp only [T.wp]
  exact ⟨fun h => by simp [nilS] at h, fun _ => by first | exact ⟨rfl, rfl⟩ | exact ⟨trivial, rfl⟩⟩
theorem cL_eqLedgerS0 (V : Know) : CallX Tryd.prog V gL_eqLedgerS [Sc.val .l nilS, Sc.val .l nilS] (fun V' r => V' = V ∧ r = .bool true) := by
  refine CallX.of_fits Tryd.mix (fL_eqLedgerS _ _) fun _ => ?_
  unfold tL_eqLedgerS
  refine ⟨fun h => by simp [nilS] at h, fun _ => ?_⟩
  refine lp_once ((0 : Int), ()) rfl fun N => ?_
  simp only [T.wp]
  exact ⟨fun h => by simp [nilS] at h, fun _ => by first | exact ⟨rfl, rfl⟩ | exact ⟨trivial, rfl⟩⟩
theorem cL_markLedgerS0 (V : Know) (k : Int) : CallX Tryd.prog V gL_markLedgerS [Sc.val .l nilS, .int .i64 k] (fun V' r => V' = V ∧ r = .int .i64 k) := by
  refine CallX.of_fits Tryd.mix (fL_markLedgerS _ _) fun _ => ?_
  simp only [tL_markLedgerS]
  refine lp_once (k, (0 : Int), ()) rfl fun N => ?_
  simp only [T.wp]
  exact ⟨fun h => by simp [nilS] at h, fun _ => by first | exact ⟨rfl, rfl⟩ | exact ⟨trivial, rfl⟩⟩
theorem cL_heldLedgerS0 (V : Know) (k : Int) : CallX Tryd.prog V gL_heldLedgerS [Sc.val .l nilS, .int .i64 k] (fun V' r => V' = V ∧ r = .int .i64 k) := by
  refine CallX.of_fits Tryd.mix (fL_heldLedgerS _ _) fun _ => ?_
  simp only [tL_heldLedgerS]
  refine lp_once (k, (0 : Int), ()) rfl fun N => ?_
  simp only [T.wp]
  exact ⟨fun h => by simp [nilS] at h, fun _ => by first | exact ⟨rfl, rfl⟩ | exact ⟨trivial, rfl⟩⟩

theorem cL_eqBook0 (V : Know) : CallX Tryd.prog V gL_eqBook [Sh1.val (.g [.l]) (nilS, ()), Sh1.val (.g [.l]) (nilS, ())] (fun V' r => V' = V ∧ r = .bool true) := by
  refine CallX.of_fits Tryd.mix (fL_eqBook _ _) fun _ => ?_
  simp only [tL_eqBook, T.wp]
  refine (cL_eqAcctS0 V).mono ?_
  rintro V1 r ⟨rfl, rfl⟩
  exact ⟨nofun, true, rfl, nofun, fun _ => ⟨rfl, rfl⟩⟩
theorem cL_eqRates0 (V : Know) (p : ByteArray) : CallX Tryd.prog V gL_eqRates [Sh1.val (.g [.s, .l]) (p, nilS, ()), Sh1.val (.g [.s, .l]) (p, nilS, ())] (fun V' r => V' = V ∧ r = .bool true) := by
  refine CallX.of_fits Tryd.mix (fL_eqRates _ _) fun _ => ?_
  simp only [tL_eqRates, T.wp]
  refine ⟨fun h => by simp at h, fun _ => (cL_eqRateS0 V).mono ?_⟩
  rintro V1 r ⟨rfl, rfl⟩
  exact ⟨nofun, true, rfl, nofun, fun _ => ⟨rfl, rfl⟩⟩
theorem cL_eqLedger0 (V : Know) (p : ByteArray) : CallX Tryd.prog V gL_eqLedger [led p, led p] (fun V' r => V' = V ∧ r = .bool true) := by
  refine CallX.of_fits Tryd.mix (fL_eqLedger _ _) fun _ => ?_
  simp only [tL_eqLedger, T.wp]
  refine (cL_eqBook0 V).mono ?_
  rintro V1 r ⟨rfl, rfl⟩
  refine ⟨nofun, true, rfl, nofun, fun _ => (cL_eqRestS0 _).mono ?_⟩
  rintro V1 r ⟨rfl, rfl⟩
  refine ⟨nofun, true, rfl, nofun, fun _ => (cL_eqRates0 _ p).mono ?_⟩
  rintro V1 r ⟨rfl, rfl⟩
  exact ⟨nofun, true, rfl, nofun, fun _ => ⟨rfl, rfl⟩⟩
theorem cL_eqDesk0 (V : Know) (p : ByteArray) : CallX Tryd.prog V gL_eqDesk [desk p, desk p] (fun V' r => V' = V ∧ r = .bool true) := by
  refine CallX.of_fits Tryd.mix (fL_eqDesk _ _) fun _ => ?_
  simp only [tL_eqDesk, T.wp]
  refine (cL_eqLedger0 V p).mono ?_
  rintro V1 r ⟨rfl, rfl⟩
  refine ⟨nofun, true, rfl, nofun, fun _ => (cL_eqLedgerS0 _).mono ?_⟩
  rintro V1 r ⟨rfl, rfl⟩
  exact ⟨nofun, true, rfl, nofun, fun _ => ⟨rfl, rfl⟩⟩

theorem cL_markBook0 (V : Know) (k : Int) : CallX Tryd.prog V gL_markBook [Sh1.val (.g [.l]) (nilS, ()), .int .i64 k] (fun V' r => V' = V ∧ r = .int .i64 k) := by
  refine CallX.of_fits Tryd.mix (fL_markBook _ _) fun _ => ?_
  simp only [tL_markBook, T.wp]
  refine (cL_markAcctS0 V k).mono ?_
  rintro V1 r ⟨rfl, rfl⟩
  exact ⟨nofun, k, rfl, rfl, rfl⟩
theorem cL_markRates0 (V : Know) (p : ByteArray) (k : Int) : CallX Tryd.prog V gL_markRates [Sh1.val (.g [.s, .l]) (p, nilS, ()), .int .i64 k] (fun V' r => V' = V ∧ r = .int .i64 k) := by
  refine CallX.of_fits Tryd.mix (fL_markRates _ _) fun _ => ?_
  simp only [tL_markRates, T.wp]
  refine (cL_markRateS0 V k).mono ?_
  rintro V1 r ⟨rfl, rfl⟩
  exact ⟨nofun, k, rfl, rfl, rfl⟩
theorem cL_markLedger0 (V : Know) (p : ByteArray) (k : Int) : CallX Tryd.prog V gL_markLedger [led p, .int .i64 k] (fun V' r => V' = V ∧ r = .int .i64 k) := by
  refine CallX.of_fits Tryd.mix (fL_markLedger _ _) fun _ => ?_
  simp only [tL_markLedger, T.wp]
  refine (cL_markBook0 V k).mono ?_
  rintro V1 r ⟨rfl, rfl⟩
  refine ⟨nofun, k, rfl, (cL_markRestS0 _ k).mono ?_⟩
  rintro V1 r ⟨rfl, rfl⟩
  refine ⟨nofun, k, rfl, (cL_markRates0 _ p k).mono ?_⟩
  rintro V1 r ⟨rfl, rfl⟩
  exact ⟨nofun, k, rfl, rfl, rfl⟩
theorem cL_markDesk0 (V : Know) (p : ByteArray) (k : Int) : CallX Tryd.prog V gL_markDesk [desk p, .int .i64 k] (fun V' r => V' = V ∧ r = .int .i64 k) := by
  refine CallX.of_fits Tryd.mix (fL_markDesk _ _) fun _ => ?_
  simp only [tL_markDesk, T.wp]
  refine (cL_markLedger0 V p k).mono ?_
  rintro V1 r ⟨rfl, rfl⟩
  refine ⟨nofun, k, rfl, (cL_markLedgerS0 _ k).mono ?_⟩
  rintro V1 r ⟨rfl, rfl⟩
  exact ⟨nofun, k, rfl, rfl, rfl⟩

theorem cL_heldBook0 (V : Know) {k : Int} (hk : 0 ≤ k) : CallX Tryd.prog V gL_heldBook [Sh1.val (.g [.l]) (nilS, ()), .int .i64 k] (fun V' r => V' = V ∧ r = .int .i64 k) := by
  refine CallX.of_fits Tryd.mix (fL_heldBook _ _) fun _ => ?_
  simp only [tL_heldBook, T.wp]
  refine (cL_heldAcctS0 V k).mono ?_
  rintro V1 r ⟨rfl, rfl⟩
  exact ⟨nofun, k, rfl, fun h => absurd (of_decide_eq_true h) (Int.not_lt.2 hk), fun _ => ⟨rfl, rfl⟩⟩
theorem cL_heldRates0 (V : Know) (p : ByteArray) {k : Int} (hk : 0 ≤ k) : CallX Tryd.prog V gL_heldRates [Sh1.val (.g [.s, .l]) (p, nilS, ()), .int .i64 k] (fun V' r => V' = V ∧ r = .int .i64 k) := by
  refine CallX.of_fits Tryd.mix (fL_heldRates _ _) fun _ => ?_
  simp only [tL_heldRates, T.wp]
  refine (cL_heldRateS0 V k).mono ?_
  rintro V1 r ⟨rfl, rfl⟩
  exact ⟨nofun, k, rfl, fun h => absurd (of_decide_eq_true h) (Int.not_lt.2 hk), fun _ => ⟨rfl, rfl⟩⟩
theorem cL_heldLedger0 (V : Know) (p : ByteArray) {k : Int} (hk : 0 ≤ k) : CallX Tryd.prog V gL_heldLedger [led p, .int .i64 k] (fun V' r => V' = V ∧ r = .int .i64 k) := by
  refine CallX.of_fits Tryd.mix (fL_heldLedger _ _) fun _ => ?_
  simp only [tL_heldLedger, T.wp]
  refine (cL_heldBook0 V hk).mono ?_
  rintro V1 r ⟨rfl, rfl⟩
  refine ⟨nofun, k, rfl, fun h => absurd (of_decide_eq_true h) (Int.not_lt.2 hk), fun _ => (cL_heldRestS0 _ k).mono ?_⟩
  rintro V1 r ⟨rfl, rfl⟩
  refine ⟨nofun, k, rfl, fun h => absurd (of_decide_eq_true h) (Int.not_lt.2 hk), fun _ => (cL_heldRates0 _ p hk).mono ?_⟩
  rintro V1 r ⟨rfl, rfl⟩
  exact ⟨nofun, k, rfl, fun h => absurd (of_decide_eq_true h) (Int.not_lt.2 hk), fun _ => ⟨rfl, rfl⟩⟩
theorem cL_heldDesk0 (V : Know) (p : ByteArray) {k : Int} (hk : 0 ≤ k) : CallX Tryd.prog V gL_heldDesk [desk p, .int .i64 k] (fun V' r => V' = V ∧ r = .int .i64 k) := by
  refine CallX.of_fits Tryd.mix (fL_heldDesk _ _) fun _ => ?_
  simp only [tL_heldDesk, T.wp]
  refine (cL_heldLedger0 V p hk).mono ?_
  rintro V1 r ⟨rfl, rfl⟩
  refine ⟨nofun, k, rfl, fun h => absurd (of_decide_eq_true h) (Int.not_lt.2 hk), fun _ => (cL_heldLedgerS0 _ k).mono ?_⟩
  rintro V1 r ⟨rfl, rfl⟩
  exact ⟨nofun, k, rfl, fun h => absurd (of_decide_eq_true h) (Int.not_lt.2 hk), fun _ => ⟨rfl, rfl⟩⟩

/-! the makers -/
def pivotOf (x : ByteArray) : ByteArray := if known x then x else ⟨#[]⟩
theorem cS_LedgerNew (V : Know) (x : ByteArray) : CallX Tryd.prog V gS_LedgerNew [.string x] (fun V' r => V.le V' ∧ r = .tuple #[led (pivotOf x), .bool (known x)]) := by
  refine CallX.of_fits Tryd.mix (fS_LedgerNew x) fun _ => ?_
  simp only [tS_LedgerNew, T.wp]
  refine (cS_CurKnown V x).mono ?_
  rintro V1 r ⟨hle, rfl⟩
  refine ⟨nofun, _, rfl, fun h => ?_, fun h => ?_⟩
  · simp at h; exact ⟨hle, by simp only [pivotOf, h]; rfl⟩
  · simp at h; exact ⟨hle, by simp only [pivotOf, h]; rfl⟩
theorem cI_LedgerNew {V : Know} (hV : hasCur V) (x : ByteArray) : CallX Tryd.prog V gI_LedgerNew [.string x] (fun V' r => V' = V ∧ r = .tuple #[led (pivotOf x), .bool (known x)]) := by
  refine CallX.of_fits Tryd.mix (fI_LedgerNew x) fun _ => ?_
  simp only [tI_LedgerNew, T.wp]
  refine (cI_CurKnown hV x).mono ?_
  rintro V1 r ⟨rfl, rfl⟩
  refine ⟨nofun, _, rfl, fun h => ?_, fun h => ?_⟩
  · simp at h; exact ⟨rfl, by simp only [pivotOf, h]; rfl⟩
  · simp at h; exact ⟨rfl, by simp only [pivotOf, h]; rfl⟩
theorem cS_DeskNew (V : Know) (x : ByteArray) : CallX Tryd.prog V gS_DeskNew [.string x] (fun V' r => V.le V' ∧ r = .tuple #[desk (pivotOf x), .bool (known x)]) := by
  refine CallX.of_fits Tryd.mix (fS_DeskNew x) fun _ => ?_
  simp only [tS_DeskNew, T.wp]
  refine (cS_LedgerNew V x).mono ?_
  rintro V1 r ⟨hle, rfl⟩
  refine ⟨nofun, (ledCells (pivotOf x), known x, ()), rfl, fun h => ?_, fun h => ?_⟩
  · simp at h; exact ⟨hle, by simp only [pivotOf, h]; rfl⟩
  · simp at h; exact ⟨hle, by simp only [h]; rfl⟩
theorem cI_DeskNew {V : Know} (hV : hasCur V) (x : ByteArray) : CallX Tryd.prog V gI_DeskNew [.string x] (fun V' r => V' = V ∧ r = .tuple #[desk (pivotOf x), .bool (known x)]) := by
  refine CallX.of_fits Tryd.mix (fI_DeskNew x) fun _ => ?_
  simp only [tI_DeskNew, T.wp]
  refine (cI_LedgerNew hV x).mono ?_
  rintro V1 r ⟨rfl, rfl⟩
  exact ⟨nofun, (ledCells (pivotOf x), known x, ()), rfl, rfl, rfl⟩

theorem cL_FnExactLedgerNew {V : Know} (hV : hasCur V) (x : ByteArray) : CallX Tryd.prog V gL_FnExactLedgerNew [.string x] (fun V' r => V.le V' ∧ r = .bool true) := by
  refine CallX.of_fits Tryd.mix (fL_FnExactLedgerNew x) fun _ => ?_
  simp only [tL_FnExactLedgerNew, T.wp]
  refine ⟨fun _ => ⟨Know.le.refl _, rfl⟩, fun _ => (cS_LedgerNew V x).mono ?_⟩
  rintro V1 r ⟨hle, rfl⟩
  refine ⟨nofun, (ledCells (pivotOf x), known x, ()), rfl, (cI_LedgerNew (hV.le hle) x).mono ?_⟩
  rintro V2 r ⟨rfl, rfl⟩
  refine ⟨nofun, (ledCells (pivotOf x), known x, ()), rfl, (cL_eqLedger0 _ (pivotOf x)).mono ?_⟩
  rintro V3 r ⟨rfl, rfl⟩
  refine ⟨nofun, true, rfl, nofun, fun _ => ⟨fun h => by simp at h, fun _ => (cL_markLedger0 _ (pivotOf x) 1).mono ?_⟩⟩
  rintro V4 r ⟨rfl, rfl⟩
  refine ⟨nofun, 1, rfl, (cL_heldLedger0 _ (pivotOf x) (by omega)).mono ?_⟩
  rintro V5 r ⟨rfl, rfl⟩
  refine ⟨nofun, 1, rfl, fun h => by simp at h, fun _ => ⟨fun h => by simp at h, fun _ => (cI_LedgerNew (hV.le hle) x).mono ?_⟩⟩
  rintro V6 r ⟨rfl, rfl⟩
  refine ⟨nofun, (ledCells (pivotOf x), known x, ()), rfl, (cL_eqLedger0 _ (pivotOf x)).mono ?_⟩
  rintro V7 r ⟨rfl, rfl⟩
  refine ⟨nofun, true, rfl, nofun, fun _ => ⟨fun h => by simp at h, fun _ => (cL_heldLedger0 _ (pivotOf x) (by omega)).mono ?_⟩⟩
  rintro V8 r ⟨rfl, rfl⟩
  exact ⟨nofun, 1, rfl, fun h => by simp at h, fun _ => ⟨fun h => by simp at h, fun _ => ⟨hle, rfl⟩⟩⟩
theorem cL_FnExactDeskNew {V : Know} (hV : hasCur V) (x : ByteArray) : CallX Tryd.prog V gL_FnExactDeskNew [.string x] (fun V' r => V.le V' ∧ r = .bool true) := by
  refine CallX.of_fits Tryd.mix (fL_FnExactDeskNew x) fun _ => ?_
  simp only [tL_FnExactDeskNew, T.wp]
  refine ⟨fun _ => ⟨Know.le.refl _, rfl⟩, fun _ => (cS_DeskNew V x).mono ?_⟩
  rintro V1 r ⟨hle, rfl⟩
  refine ⟨nofun, (deskCells (pivotOf x), known x, ()), rfl, (cI_DeskNew (hV.le hle) x).mono ?_⟩
  rintro V2 r ⟨rfl, rfl⟩
  refine ⟨nofun, (deskCells (pivotOf x), known x, ()), rfl, (cL_eqDesk0 _ (pivotOf x)).mono ?_⟩
  rintro V3 r ⟨rfl, rfl⟩
  refine ⟨nofun, true, rfl, nofun, fun _ => ⟨fun h => by simp at h, fun _ => (cL_markDesk0 _ (pivotOf x) 1).mono ?_⟩⟩
  rintro V4 r ⟨rfl, rfl⟩
  refine ⟨nofun, 1, rfl, (cL_heldDesk0 _ (pivotOf x) (by omega)).mono ?_⟩
  rintro V5 r ⟨rfl, rfl⟩
  refine ⟨nofun, 1, rfl, fun h => by simp at h, fun _ => ⟨fun h => by simp at h, fun _ => (cI_DeskNew (hV.le hle) x).mono ?_⟩⟩
  rintro V6 r ⟨rfl, rfl⟩
  refine ⟨nofun, (deskCells (pivotOf x), known x, ()), rfl, (cL_eqDesk0 _ (pivotOf x)).mono ?_⟩
  rintro V7 r ⟨rfl, rfl⟩
  refine ⟨nofun, true, rfl, nofun, fun _ => ⟨fun h => by simp at h, fun _ => (cL_heldDesk0 _ (pivotOf x) (by omega)).mono ?_⟩⟩
  rintro V8 r ⟨rfl, rfl⟩
  exact ⟨nofun, 1, rfl, fun h => by simp at h, fun _ => ⟨fun h => by simp at h, fun _ => ⟨hle, rfl⟩⟩⟩

end Go.Proofs.YtagimdcegmpbmaaDoor
