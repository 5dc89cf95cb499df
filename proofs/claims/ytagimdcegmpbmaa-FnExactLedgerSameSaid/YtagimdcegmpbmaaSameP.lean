/-
  The program's LedgerSame returns what the reference's returns, for all arguments.
  No condition.
-/
import Derived.Test.YtagimdcegmpbmaaSame
import Derived.Test.YtagimdcegmpbmaaRdT
import Derived.Test.YtagimdcegmpbmaaRows
import Derived.ProofKit
import Derived.Carry
import Derived.ChangeOld
import Derived.ChangeMaps5
namespace Go.Proofs.Ytagimdcegmpbmaa
open Sx Go.ChangeShapes Go.WideShapes Go.ChangeAt Go.RowKit

theorem law_LedgerSame {V : Know} {c d : Scs [.l, .l, .s, .l]} {x y : DLedger} {f g : List Nat} (hx : rLedger.R V c x f) (hy : rLedger.R V d y g) :
    CallX Try.prog V gL_FnExactLedgerSame [Sh1.val (.g [.l, .l, .s, .l]) c, Sh1.val (.g [.l, .l, .s, .l]) d] (fun V' r => V.le V' ∧ r = .bool true) := by
  refine CallX.of_fits Try.mix (fL_FnExactLedgerSame _ _) fun _ => ?_
  simp only [tL_FnExactLedgerSame, T.wp]
  refine (cL_szLedger V c x f 1048576 hx (by omega) (by omega)).mono ?_
  rintro V1 r ⟨rfl, rfl⟩
  refine ⟨nofun, _, rfl, fun _ => ⟨Know.le.refl _, rfl⟩, fun h1 => ?_⟩
  have hp1 : ((rLedger.tot x : Nat) : Int) ≤ 1048576 := Decidable.not_not.1 fun k => (of_decide_eq_false h1) (szr_lt.2 k)
  rw [szr_ge hp1]
  refine (cL_szLedger _ d y g _ hy (by omega) (by omega)).mono ?_
  rintro V1 r ⟨rfl, rfl⟩
  refine ⟨nofun, _, rfl, fun _ => ⟨Know.le.refl _, rfl⟩, fun h2 => ?_⟩
  have hp2 : ((rLedger.tot y : Nat) : Int) ≤ 1048576 - ((rLedger.tot x : Nat) : Int) := Decidable.not_not.1 fun k => (of_decide_eq_false h2) (szr_lt.2 k)
  have tx : rLedger.tot x ≤ 1048576 := by omega
  have ty : rLedger.tot y ≤ 1048576 := by omega
  refine (cL_toLedger _ _ _ _ hx tx).mono ?_
  rintro V2 r ⟨le2, c3, f3, rfl, hr3, _⟩
  refine ⟨fun _ => le2, c3, rfl, (cL_toLedger _ _ _ _ (rLedger.le hy le2) ty).mono ?_⟩
  rintro V3 r ⟨le3, c4, f4, rfl, hr4, _⟩
  refine ⟨fun _ => le3, c4, rfl, (cS_LedgerSame _ _ _ _ _ _ _ (rLedger.le hr3 le3) hr4).mono ?_⟩
  rintro V4 r ⟨rfl, b5, rfl, hb5⟩
  have l4 := le2.trans le3
  refine ⟨fun _ => Know.le.refl _, b5, rfl, (cL_toLedger _ _ _ _ (rLedger.le hx l4) tx).mono ?_⟩
  rintro V6 r ⟨le6, c6, f6, rfl, hr6, _⟩
  have l6 := l4.trans le6
  refine ⟨nofun, c6, rfl, (cL_toLedger _ _ _ _ (rLedger.le hy l6) ty).mono ?_⟩
  rintro V7 r ⟨le7, c7, f7, rfl, hr7, _⟩
  have l7 := l6.trans le7
  refine ⟨nofun, c7, rfl, (cI_LedgerSame _ _ _ _ _ _ _ (rLedger.le hr6 le7) hr7).mono ?_⟩
  rintro V8 r ⟨rfl, b8, rfl, hb8⟩
  have hbb : b8 = b5 := by
    have : b8 = true ↔ b5 = true := hb8.trans hb5.symm
    cases b8 <;> cases b5 <;> simp_all
  subst hbb
  refine ⟨nofun, b8, rfl, fun h => by simp at h, fun _ => ?_⟩
  refine (cL_toLedger _ _ _ _ (rLedger.le hx l7) tx).mono ?_
  rintro V9 r ⟨le9, c9, f9, rfl, hr9, _⟩
  refine ⟨fun _ => le9, c9, rfl, (cL_eqLedger _ _ _ _ _ _ _ (rLedger.le hr6 (le7.trans le9)) hr9).mono ?_⟩
  rintro V10 r ⟨rfl, b10, rfl, hb10⟩
  have l9 := l7.trans le9
  refine ⟨fun _ => Know.le.refl _, b10, rfl, (fun h => by simp [hb10.2 rfl] at h), (fun _ => ?_)⟩
  refine (cL_toLedger _ _ _ _ (rLedger.le hy l9) ty).mono ?_
  rintro V11 r ⟨le11, c11, f11, rfl, hr11, _⟩
  refine ⟨fun _ => le11, c11, rfl, (cL_eqLedger _ _ _ _ _ _ _ (rLedger.le hr7 (le9.trans le11)) hr11).mono ?_⟩
  rintro V12 r ⟨rfl, b12, rfl, hb12⟩
  exact ⟨fun _ => Know.le.refl _, b12, rfl, (fun h => by simp [hb12.2 rfl] at h), (fun _ => ⟨l9.trans le11, rfl⟩)⟩

/-! the row -/
theorem below_of_fr {V V' : Know} {w w' : World} (h : Fr V V' w w') (hV : V.on w) (hV' : V'.on w') (hle : V.le V') : Below w.heap.size w w' := by
  refine ⟨h.os, h.tape, h.output, h.size, fun k hk => ?_⟩
  cases hk2 : V k with
  | none => exact h.keep k hk hk2
  | some x =>
    obtain ⟨c, t⟩ := x
    rw [hV k c t hk2, hV' k c t (hle k _ hk2)]

section
variable {H : Type} {enc : TypeId × Value → H} {P : Program}
theorem trodAll_stays (hl : laidOutB P = true) {W W' : World} (hb : Below W.heap.size W W') : ∀ {ts : List TypeId} {vs : List Value} {ds : List (DataW H)} {p : List MemPlace},
    (∀ t ∈ ts, P.readableRec t = true ∧ t < P.types.size) → DataW.TrodAll enc P W 0 (fun _ => true) true ts vs ds p → (∀ x ∈ p, x.block < W.heap.size) → DataW.TrodAll enc P W' 0 (fun b => decide (b < W.heap.size)) true ts vs ds p
  | [], _, _, _, _, h, _ => by
    obtain ⟨rfl, rfl, rfl⟩ := trodAll_nil h
    exact h
  | t :: _, _, _, _, ht, h, hp => by
    obtain ⟨v, vs1, d, ds1, a, b, rfl, rfl, rfl, h1, h2⟩ := trodAll_cons h
    obtain ⟨g1, g2⟩ := ht t (List.mem_cons_self ..)
    exact ⟨a, b, Below.trod hl g1 g2 h1 hb (fun x hx => hp x (by simp [hx])), trodAll_stays hl hb (fun t ht' => ht t (List.mem_cons_of_mem _ ht')) h2 (fun x hx => hp x (by simp [hx])), rfl⟩

/-- what a law's row asks for, behind a call that has left all old memory as it was and returned true -/
theorem post_law (hl : laidOutB P = true) {f : Func} {s : ChangeSpec} {W W' : World} {args : Array Value} {ds gs : List (DataW H)} {before : List MemPlace} {tb : TypeId}
    (hp : ∀ t ∈ f.params.toList, P.readableRec t = true ∧ t < P.types.size) (hW : DataW.Whole enc P f.params.toList s.vars false W args.toList ds gs before) (hs : s.vars = []) (hb : Below W.heap.size W W')
    (hr : f.resultTypes = #[tb]) (hu : P.underlying tb = some .bool) (h1 : (s.fn H (ds ++ gs)).results = [.lit (.bool true)]) (h2 : (s.fn H (ds ++ gs)).args = ds) (h3 : (s.fn H (ds ++ gs)).vars = []) :
    s.post enc P f false true false false W args (.bool true) W' := by
  have hlt := hW.lt
  have hW2 := hW
  obtain ⟨p, q, hA, hV, rfl, hz, hn⟩ := hW
  rw [hs] at hV
  obtain ⟨rfl, rfl⟩ := trodVars_none hV
  refine ⟨ds, [], p ++ [], [], p, [], hW2, ?_, ?_, ?_, hb.frame _, nofun⟩
  · rw [hr, h1]
    exact trodAll_mk1 (shut_bool hu true)
  · rw [h2]
    exact trodAll_stays hl hb hp hA (fun x hx => hlt x (by simp [hx]))
  · rw [hs, h3]; exact rfl

/-- an argument that is a struct, as a row -/
theorem arg_row {sh : List Sc} {α : Type} {r : Rp sh α} {W : World} {t : TypeId} {fs : Array Field} {v : Value} {base : Nat} {sp : Nat → Bool} {held : Bool} {d : DataW H} {p : List MemPlace} (hr : Rd P W t r) (ht : P.underlying t = some (.struct fs))
    (hv : Value.okWide P W .any base t v) (h : DataW.Trod enc P W 0 sp held t v d p) : ∃ c a fp, v = Sh1.val (.g sh) c ∧ r.R (knowOf W) c a fp := by
  unfold Value.okWide at hv
  rw [ht] at hv
  obtain ⟨cs, rfl, _⟩ := hv
  obtain ⟨fuel, hf⟩ := h
  obtain ⟨c, a, fp, e, hR⟩ := hr hf
  refine ⟨c, a, fp, ?_, hR⟩
  have e' : cs.toList = Scs.vals sh c := e
  show Value.agg cs = Value.agg (Scs.vals sh c).toArray
  rw [← e']
end

theorem Try.own : ownKnob Try.prog.godebug = none := by kernel_rfl
theorem Try.laidOut : laidOutB Try.prog = true := by kernel_rfl
def rowsOk (P : Program) (l : List TypeId) : Bool := l.all fun t => P.readableRec t && decide (t < P.types.size)
theorem rowsOk_spec {P : Program} {l : List TypeId} (h : rowsOk P l = true) : ∀ t ∈ l, P.readableRec t = true ∧ t < P.types.size := by
  intro t ht
  have := List.all_eq_true.1 h t ht
  simpa using this

set_option maxRecDepth 100000 in
theorem ledgerSame_lifted (os : Os) (started : os.Started) (H : Type) (enc : TypeId × Value → H) :
    ReturnsInHanded {} Try.checked os 3 .any (Rows.fnExactLedgerSameSpec.pre6 enc Try.prog Try.f3 Rows.fnExactLedgerSameRow.domain false) (Rows.fnExactLedgerSameSpec.post enc Try.prog Try.f3 false true false false) := by
  refine returnsInHanded_of_change (C := Try.checked) Try.own started (by kernel_rfl) Try.func3
    (ChangeSpec.witness6 (enc := enc) (C := Try.checked) false ⟨#[], #[.agg #[.slice none 0 0, .slice none 0 0, .string ⟨#[]⟩, .slice none 0 0], .agg #[.slice none 0 0, .slice none 0 0, .string ⟨#[]⟩, .slice none 0 0]], []⟩ 8 (by kernel_rfl) (by kernel_rfl) (by kernel_rfl) (by kernel_rfl)) ?_
  intro W base args ds gs before hval0 hW hcnd _
  have hval : ∀ (j : Nat) t v, Try.f3.params[j]? = some t → args[j]? = some v → Value.okWide Try.prog W .any base t v := hval0
  have hW' : DataW.Whole enc Try.prog Try.f3.params.toList Rows.fnExactLedgerSameSpec.vars false W args.toList ds gs before := hW
  obtain ⟨p, q, hA0, hV, rfl, hfz, hnd⟩ := hW
  have hA : DataW.TrodAll enc Try.prog W 0 (fun _ => true) true Try.f3.params.toList args.toList ds p := hA0
  rw [Try.params3] at hA hval
  obtain ⟨v0, vs0, d0, ds0, p0, q0, hargs, rfl, rfl, h0, r0⟩ := trodAll_cons hA
  obtain ⟨v1, vs1, d1, ds1, p1, q1, hargs1, rfl, rfl, h1, r1⟩ := trodAll_cons r0
  obtain ⟨rfl, rfl, rfl⟩ := trodAll_nil r1
  subst hargs1
  obtain rfl : args = #[v0, v1] := by cases args; simp_all
  obtain ⟨rfl, rfl⟩ := trodVars_none hV
  have ht : Try.prog.underlying 30 = some (.struct fsLedger) := by kernel_rfl
  obtain ⟨c, x, f, rfl, hx⟩ := arg_row (rd_Ledger W) ht (hval 0 30 v0 rfl rfl) h0
  obtain ⟨d, y, g, rfl, hy⟩ := arg_row (rd_Ledger W) ht (hval 1 30 v1 rfl rfl) h1
  refine ((law_LedgerSame hx hy).2 W (knowOf_on W)).mono ?_
  rintro e W' ⟨V', r, rfl, hfr, hon, hle, rfl⟩
  exact ⟨_, rfl, post_law Try.laidOut (rowsOk_spec (by kernel_rfl)) hW' rfl (below_of_fr hfr (knowOf_on W) hon hle) (tb := 4) rfl Try.underlying4 rfl rfl rfl⟩

theorem ledgerSame_holds : Rows.FnExactLedgerSameSaid :=
  OpenClaim.holds_of_wide 3 Try.f3 rfl rfl rfl rfl rfl rfl rfl ⟨rfl, rfl, rfl, rfl, rfl⟩ rfl rfl rfl rfl rfl (by kernel_rfl) Try.func3 (by kernel_rfl)
    (of_decide_eq_true (by kernel_rfl)) (by unfold Func.isWrapper; rw [if_neg (by decide +kernel)]; exact ⟨rfl, rfl⟩)
    (fun os started H enc _ => ledgerSame_lifted os started H enc)
#print axioms ledgerSame_holds
end Go.Proofs.Ytagimdcegmpbmaa
