/-
  Valid desks, in the program and in the reference; the law on DeskOk.
-/
import Derived.Test.YtiadnlilmcdibaaGreatDoorLedB
namespace Go.Proofs.YtiadnlilmcdibaaGreatDoor
open Sx
set_option maxRecDepth 100000

def BackAtP (l : List DLedger) (i : Nat) : Prop := ∃ h : i < l.length, LedgerOkP l[i]
def deskLedger (x : DDesk) : DLedger := (x.1, x.2.1, x.2.2.1, x.2.2.2.1, ())
def DeskOkP (x : DDesk) : Prop := LedgerOkP (deskLedger x) ∧ x.2.2.2.2.1.length ≤ 5 ∧ ∀ i, i < x.2.2.2.2.1.length → BackAtP x.2.2.2.2.1 i
theorem desk_elim {V : Know} {c : Scs [.l, .l, .s, .l, .l]} {x : DDesk} {f : List Nat} (h : rDesk.R V c x f) : (∃ g, rLedger.R V (c.1, c.2.1, c.2.2.1, c.2.2.2.1, ()) (deskLedger x) g) ∧ ∃ g, LR rLedger V c.2.2.2.2.1 x.2.2.2.2.1 g := by
  obtain ⟨c0, c1, c2, c3, c4, cu⟩ := c
  obtain ⟨x0, x1, x2, x3, x4, xu⟩ := x
  obtain ⟨f0, g0, _, h0, h⟩ := h
  obtain ⟨f1, g1, _, h1, h⟩ := h
  obtain ⟨⟨e2, z2⟩, h⟩ := h
  obtain ⟨f3, g3, _, h3, h⟩ := h
  obtain ⟨f4, g4, _, h4, _⟩ := h
  exact ⟨⟨f0 ++ (f1 ++ (f3 ++ [])), f0, f1 ++ (f3 ++ []), rfl, h0, f1, f3 ++ [], rfl, h1, ⟨e2, z2⟩, f3, [], rfl, h3, rfl⟩, f4, h4⟩

theorem backS_body {V : Know} (hV : HcS V) {s : SlV} {l : List DLedger} {f : List Nat} (h : LR rLedger V s l f) {K : Know → List Value → Prop} {i : Nat} {N : List LV → Know → Prop} {V' : Know} (hV' : V.le V') (hi : i < l.length)
    (hno : ∀ V2, V'.le V2 → ¬ BackAtP l i → K V2 [.bool false]) (hyes : ∀ V2, V'.le V2 → BackAtP l i → N [.v (.int .i64 (IntKind.i64.wrap ((i : Int) + 1)))] V2) :
    (T.el s.a s.n (i : Int) fun y2 => .ld false (y2.add (Int.toNat (i : Int) * (4 : Nat))) (.g [.l, .l, .s, .l]) fun y3 =>
      .call false gS_LedgerOk [Sh1.val (.g [.l, .l, .s, .l]) y3] (.v (.o .b)) fun y4 => .br (!y4) (.ret [.bool false]) <| .nx 0 [.v (.int .i64 (IntKind.i64.wrap ((i : Int) + (1 : Int))))]).wp Tryz.prog K V' V' [N] := by
  simp only [T.wp]
  have hn := h.1
  obtain ⟨b, o, c, fc, a1, l1, hR, _⟩ := (h.le hV').at hi
  have e0 : (i : Int).toNat = i := by omega
  rw [e0]
  refine ⟨_, a1, by omega, by omega, c, l1, (cS_LedgerOk (hV.le hV') c l[i] fc hR).mono ?_⟩
  rintro V1 r ⟨le1, e1, rfl, he1⟩
  refine ⟨nofun, e1, rfl, fun hf => hno _ le1 fun k => ?_, fun ht => ⟨_, rfl, hyes _ le1 ⟨hi, he1.1 (by simpa using ht)⟩⟩⟩
  obtain ⟨_, k1⟩ := k
  rw [he1.2 k1] at hf; cases hf

theorem backI_body {V : Know} (hV : HcI V) {s : SlV} {l : List DLedger} {f : List Nat} (h : LR rLedger V s l f) {K : Know → List Value → Prop} {i : Nat} {N : List LV → Know → Prop} {V' : Know} (hV' : V.le V') (hi : i < l.length)
    (hno : ∀ V2, V'.le V2 → ¬ BackAtP l i → K V2 [.bool false]) (hyes : ∀ V2, V'.le V2 → BackAtP l i → N [.v (.int .i64 (IntKind.i64.wrap ((i : Int) + 1)))] V2) :
    (T.el s.a s.n (i : Int) fun y2 => .ld false (y2.add (Int.toNat (i : Int) * (4 : Nat))) (.g [.l, .l, .s, .l]) fun y3 =>
      .call false gI_LedgerOk [Sh1.val (.g [.l, .l, .s, .l]) y3] (.v (.o .b)) fun y4 => .br (!y4) (.ret [.bool false]) <| .nx 0 [.v (.int .i64 (IntKind.i64.wrap ((i : Int) + (1 : Int))))]).wp Tryz.prog K V' V' [N] := by
  simp only [T.wp]
  have hn := h.1
  obtain ⟨b, o, c, fc, a1, l1, hR, _⟩ := (h.le hV').at hi
  have e0 : (i : Int).toNat = i := by omega
  rw [e0]
  refine ⟨_, a1, by omega, by omega, c, l1, (cI_LedgerOk (hV.le hV') c l[i] fc hR).mono ?_⟩
  rintro V1 r ⟨le1, e1, rfl, he1⟩
  refine ⟨nofun, e1, rfl, fun hf => hno _ le1 fun k => ?_, fun ht => ⟨_, rfl, hyes _ le1 ⟨hi, he1.1 (by simpa using ht)⟩⟩⟩
  obtain ⟨_, k1⟩ := k
  rw [he1.2 k1] at hf; cases hf

theorem cS_DeskOk {V : Know} (hV : HcS V) (c : Scs [.l, .l, .s, .l, .l]) (x : DDesk) (f : List Nat) (h : rDesk.R V c x f) : CallX Tryz.prog V gS_DeskOk [Sh1.val (.g [.l, .l, .s, .l, .l]) c] (OkPost V (DeskOkP x)) := by
  refine CallX.of_fits Tryz.mix (fS_DeskOk _) fun _ => ?_
  obtain ⟨⟨g1, h1⟩, g2, h2⟩ := desk_elim h
  have hn := h2.1
  unfold tS_DeskOk
  refine rows_wp (n := c.2.2.2.2.1.n) (V := V) (p := BackAtP x.2.2.2.2.1) (Ns := []) h2.2.2.1 ?_ ?_ ?_
  · intro V' i N hV' hi hall hno hyes
    exact backS_body hV h2 hV' (by omega) hno hyes
  · intro V' hV' hall N
    simp only [T.wp]
    refine (cS_LedgerOk (hV.le hV') _ _ g1 (rLedger.le h1 hV')).mono ?_
    rintro V1 r ⟨le1, e1, rfl, he1⟩
    have l1 := hV'.trans le1
    refine ⟨nofun, e1, rfl, fun ht => ⟨l1, _, rfl, ⟨fun hd => ⟨he1.1 ht, ?_, fun i hi => hall i (by omega)⟩, fun k => decide_eq_true ?_⟩⟩, fun hf => not_ok l1 fun k => ?_⟩
    · have : (c.2.2.2.2.1.n : Int) ≤ 5 := of_decide_eq_true hd
      omega
    · have := k.2.1
      show (c.2.2.2.2.1.n : Int) ≤ 5
      omega
    · rw [he1.2 k.1] at hf; cases hf
  · intro V' i hV' hi hne
    exact not_ok hV' fun k => hne (k.2.2 i (by omega))
theorem cI_DeskOk {V : Know} (hV : HcI V) (c : Scs [.l, .l, .s, .l, .l]) (x : DDesk) (f : List Nat) (h : rDesk.R V c x f) : CallX Tryz.prog V gI_DeskOk [Sh1.val (.g [.l, .l, .s, .l, .l]) c] (OkPost V (DeskOkP x)) := by
  refine CallX.of_fits Tryz.mix (fI_DeskOk _) fun _ => ?_
  obtain ⟨⟨g1, h1⟩, g2, h2⟩ := desk_elim h
  have hn := h2.1
  unfold tI_DeskOk
  change CallX _ _ _ _ (fun V' r => _ ∧ ∃ y, _ ∧ (_ → T.wp _ _ _ _ _ _) ∧ (_ → (_ → T.wp _ _ _ _ _ _) ∧ (_ → T.wp _ _ _ _ _ _)))
  refine (cI_LedgerOk hV _ _ g1 h1).mono ?_
  rintro V1 r ⟨le1, e1, rfl, he1⟩
  refine ⟨nofun, e1, rfl, fun hf => not_ok le1 fun k => ?_, fun ht => ⟨fun h5 => not_ok le1 fun k => ?_, fun h5 => ?_⟩⟩
  · rw [he1.2 k.1] at hf; cases hf
  · have : (c.2.2.2.2.1.n : Int) > 5 := of_decide_eq_true h5
    have := k.2.1
    omega
  have q : ¬ (c.2.2.2.2.1.n : Int) > 5 := of_decide_eq_false h5
  refine rows_wp (n := c.2.2.2.2.1.n) (V := V1) (p := BackAtP x.2.2.2.2.1) (Ns := []) h2.2.2.1 ?_ ?_ ?_
  · intro V' i N hV' hi hall hno hyes
    exact backI_body (hV.le le1) (h2.le le1) hV' (by omega) hno hyes
  · intro V' hV' hall N
    exact ⟨le1.trans hV', _, rfl, ⟨fun _ => ⟨he1.1 (by simpa using ht), by omega, fun i hi => hall i (by omega)⟩, fun _ => rfl⟩⟩
  · intro V' i hV' hi hne
    exact not_ok (le1.trans hV') fun k => hne (k.2.2 i (by omega))

theorem law_DeskOk {V : Know} (hV : hasCur V) {c : Scs [.l, .l, .s, .l, .l]} {x : DDesk} {f : List Nat} (hx : rDesk.R V c x f) :
    CallX Tryz.prog V gL_FnExactDeskOk [Sh1.val (.g [.l, .l, .s, .l, .l]) c] (fun V' r => V.le V' ∧ r = .bool true) := by
  refine CallX.of_fits Tryz.mix (fL_FnExactDeskOk _) fun _ => ?_
  simp only [tL_FnExactDeskOk, T.wp]
  refine (cL_szDesk V c x f 1048576 hx (by omega) (by omega)).mono ?_
  rintro V1 r ⟨rfl, rfl⟩
  refine ⟨nofun, _, rfl, fun _ => ⟨Know.le.refl _, rfl⟩, fun h1 => ?_⟩
  have hp1 : ((rDesk.tot x : Nat) : Int) ≤ 1048576 := Decidable.not_not.1 fun k => (of_decide_eq_false h1) (szr_lt.2 k)
  have tx : rDesk.tot x ≤ 1048576 := by omega
  refine (cL_toDesk _ _ _ _ hx tx).mono ?_
  rintro V2 r ⟨le2, c2, f2, rfl, hr2, _⟩
  refine ⟨nofun, c2, rfl, (cS_DeskOk (V := V2) trivial c2 x f2 hr2).mono ?_⟩
  rintro V3 r ⟨le3, b3, rfl, hb3⟩
  have l3 := le2.trans le3
  refine ⟨nofun, b3, rfl, (cL_toDesk _ _ _ _ (rDesk.le hx l3) tx).mono ?_⟩
  rintro V4 r ⟨le4, c4, f4, rfl, hr4, _⟩
  have l4 := l3.trans le4
  refine ⟨nofun, c4, rfl, (cI_DeskOk (HcI.le hV l4) c4 x f4 hr4).mono ?_⟩
  rintro V5 r ⟨le5, b5, rfl, hb5⟩
  have l5 := l4.trans le5
  have hbb : b5 = b3 := by
    have : b5 = true ↔ b3 = true := hb5.trans hb3.symm
    cases b5 <;> cases b3 <;> simp_all
  subst hbb
  refine ⟨nofun, b5, rfl, fun h => by simp at h, fun _ => ?_⟩
  refine (cL_toDesk _ _ _ _ (rDesk.le hx l5) tx).mono ?_
  rintro V6 r ⟨le6, c6, f6, rfl, hr6, _⟩
  refine ⟨fun _ => le6, c6, rfl, (cL_eqDesk _ _ _ _ _ _ _ (rDesk.le hr4 (le5.trans le6)) hr6).mono ?_⟩
  rintro V7 r ⟨rfl, b7, rfl, hb7⟩
  exact ⟨fun _ => Know.le.refl _, b7, rfl, (fun h => by simp [hb7.2 rfl] at h), (fun _ => ⟨l5.trans le6, rfl⟩)⟩
end Go.Proofs.YtiadnlilmcdibaaGreatDoor
