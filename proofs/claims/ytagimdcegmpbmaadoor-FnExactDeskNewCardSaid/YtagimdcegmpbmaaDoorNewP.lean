/-
  The program's LedgerNew and DeskNew return what the reference's return, for all arguments.
  Condition: the table of currencies is as the program's text lays it (the card ties it to that text).
-/
import Derived.Test.YtagimdcegmpbmaaDoorEmp
import Derived.Test.YtagimdcegmpbmaaDoorRow
import Derived.Test.YtagimdcegmpbmaaDoorCards
import Derived.Test.YtagimdcegmpbmaaDoorTie
import Derived.OpenShut
import Derived.Deep.DeepHandedRow
namespace Go.Proofs.YtagimdcegmpbmaaDoor
open Sx Go.ChangeShapes Go.WideShapes Go.ChangeAt Go.RowKit

theorem Tryd.own : ownKnob Tryd.prog.godebug = none := by kernel_rfl
theorem Tryd.laidOut : laidOutB Tryd.prog = true := by kernel_rfl

/-- a world whose table is laid -/
noncomputable def laidWorld (os : Os) : World :=
  { World.holding Tryd.prog os ⟨#[], #[], []⟩ with heap := (World.holding Tryd.prog os ⟨#[], #[], []⟩).heap.modify 0 fun
      | .cells _ t frozen => .cells (curCells curI).toArray t frozen
      | o => o }

/-! LedgerNew -/
set_option maxRecDepth 100000 in
theorem ledgerNew_contract (H : Type) (enc : TypeId × Value → H) (W : World) (base : Nat) (args : Array Value) (ds gs : List (DataW H)) (before : List MemPlace)
    (hval : ∀ (j : Nat) t v, Tryd.f3.params[j]? = some t → args[j]? = some v → Value.okWide Tryd.prog W .any base t v)
    (hW : DataW.Whole enc Tryd.prog Tryd.f3.params.toList Rows.fnExactLedgerNewSpec.vars false W args.toList ds gs before) (hL : laidMetH Tryd.prog Rows.fnExactLedgerNewRow.laid W) :
    Calls Tryd.prog 3 args W fun e W' => ∃ v, e = .returned v ∧ Rows.fnExactLedgerNewSpec.post enc Tryd.prog Tryd.f3 false true false false W args v W' := by
  have hW' := hW
  obtain ⟨p, q, hA0, hV, rfl, hfz, hnd⟩ := hW
  have hA : DataW.TrodAll enc Tryd.prog W 0 (fun _ => true) true Tryd.f3.params.toList args.toList ds p := hA0
  rw [Tryd.params3] at hA hval
  obtain ⟨v0, d0, hargs, rfl, h0⟩ := trodAll_one hA
  obtain rfl : args = #[v0] := by cases args; simp_all
  obtain ⟨g0, t0, cs, fuel, d, p2, rfl, _⟩ := trodVars_one hV
  obtain ⟨a, rfl, rfl, rfl, _⟩ := Go.ChangeMaps.open_string Tryd.underlying9 (hval 0 9 v0 rfl rfl) h0
  obtain ⟨t, ht⟩ := table (W := W) hL
  refine ((cL_FnExactLedgerNew curKnow_has a).2 W (curKnow_on ht)).mono ?_
  rintro e W' ⟨V', r, rfl, hfr, hon, hle, rfl⟩
  exact ⟨_, rfl, post_law Tryd.laidOut (rowsOk_spec (by kernel_rfl)) (by kernel_rfl) hW' (below_of_fr hfr (curKnow_on ht) hon hle) (tb := 4) rfl Tryd.underlying4 rfl rfl rfl⟩

theorem ledgerNew_laid (os : Os) : laidMet Tryd.prog Rows.fnExactLedgerNewRow.laid ((laidWorld os).forCall (fun _ _ => 0) ⟨#[], #[.string ⟨#[]⟩], []⟩).memory :=
  laidMet_of_run' 8 (by kernel_rfl) (by kernel_rfl)
theorem ledgerNew_reads (os : Os) {H : Type} (enc : TypeId × Value → H) : ∃ ds gs places, DataW.whole enc Tryd.prog ((laidWorld os).forCall (fun _ _ => 0) ⟨#[], #[.string ⟨#[]⟩], []⟩).memory Tryd.f3.params.toList Rows.fnExactLedgerNewSpec.vars false #[Value.string ⟨#[]⟩].toList 8 = some (ds, gs, places) :=
  ⟨[.lit (.string [])], [curData curI], MemPlace.row ⟨0, 0, none⟩ 80, by kernel_rfl⟩

set_option maxRecDepth 100000 in
theorem ledgerNew_lifted (os : Os) (started : os.Started) (H : Type) (enc : TypeId × Value → H) (F : Stop.Interp) :
    ReturnsInHanded {} Tryd.checked os 3 .any ((OpenSpec.ofChange Rows.fnExactLedgerNewSpec).preRow enc Tryd.prog Tryd.f3 Rows.fnExactLedgerNewRow.domain false Rows.fnExactLedgerNewRow.laid) (((OpenSpec.ofChange Rows.fnExactLedgerNewSpec).at F).post enc Tryd.prog Tryd.f3 false true false false) := by
  obtain ⟨ds, gs, places, hx⟩ := ledgerNew_reads os enc
  refine returnsInHanded_of_row (C := Tryd.checked) (s := OpenSpec.ofChange Rows.fnExactLedgerNewSpec) Tryd.own started (by kernel_rfl) Tryd.func3
    (witness_row_at (enc := enc) (C := Tryd.checked) false (laidWorld os) #[.string ⟨#[]⟩] rfl (by kernel_rfl) (by kernel_rfl) (by kernel_rfl)
      (OpenSpec.preRow_of_cond 8 hx rfl (fun k hk => by cases hk) (by cases hx; kernel_rfl) (ledgerNew_laid os))) ?_
  intro W base args ds gs before hval hW _ _ _ hL _ _
  exact ledgerNew_contract H enc W base args ds gs before hval hW hL

theorem ledgerNew_said : Rows.FnExactLedgerNewSaid :=
  OpenClaim.holds_of_cond 3 Tryd.f3 rfl rfl rfl rfl rfl rfl rfl ⟨rfl, rfl, rfl, rfl, rfl⟩ rfl rfl rfl rfl rfl (by kernel_rfl) Tryd.func3 (by kernel_rfl)
    (of_decide_eq_true (by kernel_rfl)) (by unfold Func.isWrapper; first | (rw [if_pos (by decide +kernel)]; kernel_rfl) | (rw [if_neg (by decide +kernel)]; exact ⟨rfl, rfl⟩))
    (fun os started H enc _ F => by rw [OpenClaim.pre_eq_preRow]; exact ledgerNew_lifted os started H enc F)

theorem ledgerNew_plain (f : FuncId) (fn : Func) (hf : Tryd.pinned.checked.prog.funcNamed "loop.example/g00793/laws.FnExactLedgerNew" = some f) (hfn : Tryd.pinned.checked.prog.funcs[f]? = some fn) :
    false = Tryd.pinned.checked.prog.looks [] ∧ ∀ (j : Nat) t, fn.params[j]? = some t → Tryd.pinned.checked.prog.wantsStandIn t = false := by
  obtain rfl : f = 3 := Option.some.inj ((show Tryd.prog.funcNamed "loop.example/g00793/laws.FnExactLedgerNew" = some 3 by kernel_rfl).symm.trans hf) |>.symm
  obtain rfl : fn = Tryd.f3 := (Option.some.inj (Tryd.func3.symm.trans hfn)).symm
  refine ⟨by kernel_rfl, fun j t ht => ?_⟩
  rw [Tryd.params3] at ht
  obtain rfl : t = 9 := by simpa using Array.mem_of_getElem? ht
  exact (show Tryd.prog.wantsStandIn 9 = false by kernel_rfl)

theorem ledgerNew_card : Rows.FnExactLedgerNewCardSaid :=
  Claim7.holds_tied_plain_at .later [] _ _ _ _ ledgerNew_said (fun _ h => by cases h) (by kernel_rfl) (fun _ h => by cases h) fnExactLedgerNew_row_tie rfl ⟨rfl, rfl⟩ (by kernel_rfl) rfl ledgerNew_plain (by kernel_rfl)

/-! DeskNew -/
set_option maxRecDepth 100000 in
theorem deskNew_contract (H : Type) (enc : TypeId × Value → H) (W : World) (base : Nat) (args : Array Value) (ds gs : List (DataW H)) (before : List MemPlace)
    (hval : ∀ (j : Nat) t v, Tryd.f6.params[j]? = some t → args[j]? = some v → Value.okWide Tryd.prog W .any base t v)
    (hW : DataW.Whole enc Tryd.prog Tryd.f6.params.toList Rows.fnExactDeskNewSpec.vars false W args.toList ds gs before) (hL : laidMetH Tryd.prog Rows.fnExactDeskNewRow.laid W) :
    Calls Tryd.prog 6 args W fun e W' => ∃ v, e = .returned v ∧ Rows.fnExactDeskNewSpec.post enc Tryd.prog Tryd.f6 false true false false W args v W' := by
  have hW' := hW
  obtain ⟨p, q, hA0, hV, rfl, hfz, hnd⟩ := hW
  have hA : DataW.TrodAll enc Tryd.prog W 0 (fun _ => true) true Tryd.f6.params.toList args.toList ds p := hA0
  rw [Tryd.params6] at hA hval
  obtain ⟨v0, d0, hargs, rfl, h0⟩ := trodAll_one hA
  obtain rfl : args = #[v0] := by cases args; simp_all
  obtain ⟨g0, t0, cs, fuel, d, p2, rfl, _⟩ := trodVars_one hV
  obtain ⟨a, rfl, rfl, rfl, _⟩ := Go.ChangeMaps.open_string Tryd.underlying9 (hval 0 9 v0 rfl rfl) h0
  obtain ⟨t, ht⟩ := table (W := W) hL
  refine ((cL_FnExactDeskNew curKnow_has a).2 W (curKnow_on ht)).mono ?_
  rintro e W' ⟨V', r, rfl, hfr, hon, hle, rfl⟩
  exact ⟨_, rfl, post_law Tryd.laidOut (rowsOk_spec (by kernel_rfl)) (by kernel_rfl) hW' (below_of_fr hfr (curKnow_on ht) hon hle) (tb := 4) rfl Tryd.underlying4 rfl rfl rfl⟩

theorem deskNew_laid (os : Os) : laidMet Tryd.prog Rows.fnExactDeskNewRow.laid ((laidWorld os).forCall (fun _ _ => 0) ⟨#[], #[.string ⟨#[]⟩], []⟩).memory :=
  laidMet_of_run' 8 (by kernel_rfl) (by kernel_rfl)
theorem deskNew_reads (os : Os) {H : Type} (enc : TypeId × Value → H) : ∃ ds gs places, DataW.whole enc Tryd.prog ((laidWorld os).forCall (fun _ _ => 0) ⟨#[], #[.string ⟨#[]⟩], []⟩).memory Tryd.f6.params.toList Rows.fnExactDeskNewSpec.vars false #[Value.string ⟨#[]⟩].toList 8 = some (ds, gs, places) :=
  ⟨[.lit (.string [])], [curData curI], MemPlace.row ⟨0, 0, none⟩ 80, by kernel_rfl⟩

set_option maxRecDepth 100000 in
theorem deskNew_lifted (os : Os) (started : os.Started) (H : Type) (enc : TypeId × Value → H) (F : Stop.Interp) :
    ReturnsInHanded {} Tryd.checked os 6 .any ((OpenSpec.ofChange Rows.fnExactDeskNewSpec).preRow enc Tryd.prog Tryd.f6 Rows.fnExactDeskNewRow.domain false Rows.fnExactDeskNewRow.laid) (((OpenSpec.ofChange Rows.fnExactDeskNewSpec).at F).post enc Tryd.prog Tryd.f6 false true false false) := by
  obtain ⟨ds, gs, places, hx⟩ := deskNew_reads os enc
  refine returnsInHanded_of_row (C := Tryd.checked) (s := OpenSpec.ofChange Rows.fnExactDeskNewSpec) Tryd.own started (by kernel_rfl) Tryd.func6
    (witness_row_at (enc := enc) (C := Tryd.checked) false (laidWorld os) #[.string ⟨#[]⟩] rfl (by kernel_rfl) (by kernel_rfl) (by kernel_rfl)
      (OpenSpec.preRow_of_cond 8 hx rfl (fun k hk => by cases hk) (by cases hx; kernel_rfl) (deskNew_laid os))) ?_
  intro W base args ds gs before hval hW _ _ _ hL _ _
  exact deskNew_contract H enc W base args ds gs before hval hW hL

theorem deskNew_said : Rows.FnExactDeskNewSaid :=
  OpenClaim.holds_of_cond 6 Tryd.f6 rfl rfl rfl rfl rfl rfl rfl ⟨rfl, rfl, rfl, rfl, rfl⟩ rfl rfl rfl rfl rfl (by kernel_rfl) Tryd.func6 (by kernel_rfl)
    (of_decide_eq_true (by kernel_rfl)) (by unfold Func.isWrapper; first | (rw [if_pos (by decide +kernel)]; kernel_rfl) | (rw [if_neg (by decide +kernel)]; exact ⟨rfl, rfl⟩))
    (fun os started H enc _ F => by rw [OpenClaim.pre_eq_preRow]; exact deskNew_lifted os started H enc F)

theorem deskNew_plain (f : FuncId) (fn : Func) (hf : Tryd.pinned.checked.prog.funcNamed "loop.example/g00793/laws.FnExactDeskNew" = some f) (hfn : Tryd.pinned.checked.prog.funcs[f]? = some fn) :
    false = Tryd.pinned.checked.prog.looks [] ∧ ∀ (j : Nat) t, fn.params[j]? = some t → Tryd.pinned.checked.prog.wantsStandIn t = false := by
  obtain rfl : f = 6 := Option.some.inj ((show Tryd.prog.funcNamed "loop.example/g00793/laws.FnExactDeskNew" = some 6 by kernel_rfl).symm.trans hf) |>.symm
  obtain rfl : fn = Tryd.f6 := (Option.some.inj (Tryd.func6.symm.trans hfn)).symm
  refine ⟨by kernel_rfl, fun j t ht => ?_⟩
  rw [Tryd.params6] at ht
  obtain rfl : t = 9 := by simpa using Array.mem_of_getElem? ht
  exact (show Tryd.prog.wantsStandIn 9 = false by kernel_rfl)

theorem deskNew_card : Rows.FnExactDeskNewCardSaid :=
  Claim7.holds_tied_plain_at .later [] _ _ _ _ deskNew_said (fun _ h => by cases h) (by kernel_rfl) (fun _ h => by cases h) fnExactDeskNew_row_tie rfl ⟨rfl, rfl⟩ (by kernel_rfl) rfl deskNew_plain (by kernel_rfl)

end Go.Proofs.YtagimdcegmpbmaaDoor
