/-
  The program's Highest and Lowest return what the reference's return, for all arguments.
  Condition: the table of currencies is as the program's text lays it (the card ties it to that text).
-/
import Derived.Test.YtagimdcegmpbmaaDoorHiA
import Derived.Test.YtagimdcegmpbmaaDoorRdT
import Derived.Test.YtagimdcegmpbmaaDoorRow
import Derived.Test.YtagimdcegmpbmaaDoorCards
import Derived.Test.YtagimdcegmpbmaaDoorTie
import Derived.OpenShut
import Derived.Deep.DeepHandedRow
namespace Go.Proofs.YtagimdcegmpbmaaDoor
open Sx Go.ChangeShapes Go.WideShapes Go.ChangeAt Go.RowKit

theorem Tryd.own : ownKnob Tryd.prog.godebug = none := by kernel_rfl
theorem Tryd.laidOut : laidOutB Tryd.prog = true := by kernel_rfl

/-- a world whose table is laid -/
noncomputable def laidWorld (os : Os) : World :=
  { World.holding Tryd.prog os ⟨#[], #[], []⟩ with heap := (World.holding Tryd.prog os ⟨#[], #[], []⟩).heap.modify 0 fun
      | .cells _ t frozen => .cells (curCells curI).toArray t frozen
      | o => o }
/-- an argument that is a slice, as a list -/
theorem arg_slice {sh : List Sc} {α : Type} {r : Rp sh α} {P : Program} {W : World} {t e : TypeId} {v : Value} {base : Nat} {H : Type} {enc : TypeId × Value → H} {sp : Nat → Bool} {held : Bool} {d : DataW H} {p : List MemPlace} (hr : Rd P W e r) (ht : P.underlying t = some (.slice e))
    (hm : P.cellsOf e = sh.length) (hpos : 0 < sh.length) (hv : Value.okWide P W .any base t v) (h : DataW.Trod enc P W 0 sp held t v d p) : ∃ s l f, v = Sc.val .l s ∧ LR r (knowOf W) s l f := by
  obtain ⟨fuel, hf⟩ := h
  obtain ⟨s, l, f, e', hL⟩ := rd_slice hr ht hm hpos hf
  refine ⟨s, l, f, ?_, hL⟩
  unfold Value.okWide at hv
  rw [ht] at hv
  simp only at hv
  unfold Cell.okWide at hv
  rw [ht] at hv
  cases v with
  | slice a n c =>
    simp only [Value.cells] at e'
    simpa [Sc.val] using e'
  | _ => simp [Cell.ok, ht] at hv

/-! Highest -/
set_option maxRecDepth 100000 in
theorem highest_contract (H : Type) (enc : TypeId × Value → H) (W : World) (base : Nat) (args : Array Value) (ds gs : List (DataW H)) (before : List MemPlace)
    (hval : ∀ (j : Nat) t v, Tryd.f4.params[j]? = some t → args[j]? = some v → Value.okWide Tryd.prog W .any base t v)
    (hW : DataW.Whole enc Tryd.prog Tryd.f4.params.toList Rows.fnExactHighestSpec.vars false W args.toList ds gs before) (hL : laidMetH Tryd.prog Rows.fnExactHighestRow.laid W) :
    Calls Tryd.prog 4 args W fun e W' => ∃ v, e = .returned v ∧ Rows.fnExactHighestSpec.post enc Tryd.prog Tryd.f4 false true false false W args v W' := by
  have hW' := hW
  obtain ⟨p, q, hA0, hV, rfl, hfz, hnd⟩ := hW
  have hA : DataW.TrodAll enc Tryd.prog W 0 (fun _ => true) true Tryd.f4.params.toList args.toList ds p := hA0
  rw [Tryd.params4] at hA hval
  obtain ⟨v0, d0, hargs, rfl, h0⟩ := trodAll_one hA
  obtain rfl : args = #[v0] := by cases args; simp_all
  obtain ⟨g0, t0, cs, fuel, d, p2, rfl, _⟩ := trodVars_one hV
  obtain ⟨s, l, f, rfl, hl⟩ := arg_slice (rd_Money W) (show Tryd.prog.underlying 36 = some (.slice 68) by kernel_rfl) (by kernel_rfl) (by decide) (hval 0 36 v0 rfl rfl) h0
  obtain ⟨t, ht⟩ := table (W := W) hL
  refine ((law_Highest (hasCur_of ht) hl).2 W (knowOf_on W)).mono ?_
  rintro e W' ⟨V', r, rfl, hfr, hon, hle, rfl⟩
  exact ⟨_, rfl, post_law Tryd.laidOut (rowsOk_spec (by kernel_rfl)) (by kernel_rfl) hW' (below_of_fr hfr (knowOf_on W) hon hle) (tb := 4) rfl Tryd.underlying4 rfl rfl rfl⟩

theorem highest_laid (os : Os) : laidMet Tryd.prog Rows.fnExactHighestRow.laid ((laidWorld os).forCall (fun _ _ => 0) ⟨#[], #[.slice none 0 0], []⟩).memory :=
  laidMet_of_run' 8 (by kernel_rfl) (by kernel_rfl)
theorem highest_reads (os : Os) {H : Type} (enc : TypeId × Value → H) : ∃ ds gs places, DataW.whole enc Tryd.prog ((laidWorld os).forCall (fun _ _ => 0) ⟨#[], #[.slice none 0 0], []⟩).memory Tryd.f4.params.toList Rows.fnExactHighestSpec.vars false #[Value.slice none 0 0].toList 8 = some (ds, gs, places) :=
  ⟨[.nil], [curData curI], MemPlace.row ⟨0, 0, none⟩ 80, by kernel_rfl⟩

set_option maxRecDepth 100000 in
theorem highest_lifted (os : Os) (started : os.Started) (H : Type) (enc : TypeId × Value → H) (F : Stop.Interp) :
    ReturnsInHanded {} Tryd.checked os 4 .any ((OpenSpec.ofChange Rows.fnExactHighestSpec).preRow enc Tryd.prog Tryd.f4 Rows.fnExactHighestRow.domain false Rows.fnExactHighestRow.laid) (((OpenSpec.ofChange Rows.fnExactHighestSpec).at F).post enc Tryd.prog Tryd.f4 false true false false) := by
  obtain ⟨ds, gs, places, hx⟩ := highest_reads os enc
  refine returnsInHanded_of_row (C := Tryd.checked) (s := OpenSpec.ofChange Rows.fnExactHighestSpec) Tryd.own started (by kernel_rfl) Tryd.func4
    (witness_row_at (enc := enc) (C := Tryd.checked) false (laidWorld os) #[.slice none 0 0] rfl (by kernel_rfl) (by kernel_rfl) (by kernel_rfl)
      (OpenSpec.preRow_of_cond 8 hx rfl (fun k hk => by cases hk) (by cases hx; kernel_rfl) (highest_laid os))) ?_
  intro W base args ds gs before hval hW _ _ _ hL _ _
  exact highest_contract H enc W base args ds gs before hval hW hL

theorem highest_said : Rows.FnExactHighestSaid :=
  OpenClaim.holds_of_cond 4 Tryd.f4 rfl rfl rfl rfl rfl rfl rfl ⟨rfl, rfl, rfl, rfl, rfl⟩ rfl rfl rfl rfl rfl (by kernel_rfl) Tryd.func4 (by kernel_rfl)
    (of_decide_eq_true (by kernel_rfl)) (by unfold Func.isWrapper; first | (rw [if_pos (by decide +kernel)]; kernel_rfl) | (rw [if_neg (by decide +kernel)]; exact ⟨rfl, rfl⟩))
    (fun os started H enc _ F => by rw [OpenClaim.pre_eq_preRow]; exact highest_lifted os started H enc F)

theorem highest_plain (f : FuncId) (fn : Func) (hf : Tryd.pinned.checked.prog.funcNamed "loop.example/g00793/laws.FnExactHighest" = some f) (hfn : Tryd.pinned.checked.prog.funcs[f]? = some fn) :
    false = Tryd.pinned.checked.prog.looks [] ∧ ∀ (j : Nat) t, fn.params[j]? = some t → Tryd.pinned.checked.prog.wantsStandIn t = false := by
  obtain rfl : f = 4 := Option.some.inj ((show Tryd.prog.funcNamed "loop.example/g00793/laws.FnExactHighest" = some 4 by kernel_rfl).symm.trans hf) |>.symm
  obtain rfl : fn = Tryd.f4 := (Option.some.inj (Tryd.func4.symm.trans hfn)).symm
  refine ⟨by kernel_rfl, fun j t ht => ?_⟩
  rw [Tryd.params4] at ht
  obtain rfl : t = 36 := by simpa using Array.mem_of_getElem? ht
  exact (show Tryd.prog.wantsStandIn 36 = false by kernel_rfl)

theorem highest_card : Rows.FnExactHighestCardSaid :=
  Claim7.holds_tied_plain_at .later [] _ _ _ _ highest_said (fun _ h => by cases h) (by kernel_rfl) (fun _ h => by cases h) fnExactHighest_row_tie rfl ⟨rfl, rfl⟩ (by kernel_rfl) rfl highest_plain (by kernel_rfl)

/-! Lowest -/
set_option maxRecDepth 100000 in
theorem lowest_contract (H : Type) (enc : TypeId × Value → H) (W : World) (base : Nat) (args : Array Value) (ds gs : List (DataW H)) (before : List MemPlace)
    (hval : ∀ (j : Nat) t v, Tryd.f5.params[j]? = some t → args[j]? = some v → Value.okWide Tryd.prog W .any base t v)
    (hW : DataW.Whole enc Tryd.prog Tryd.f5.params.toList Rows.fnExactLowestSpec.vars false W args.toList ds gs before) (hL : laidMetH Tryd.prog Rows.fnExactLowestRow.laid W) :
    Calls Tryd.prog 5 args W fun e W' => ∃ v, e = .returned v ∧ Rows.fnExactLowestSpec.post enc Tryd.prog Tryd.f5 false true false false W args v W' := by
  have hW' := hW
  obtain ⟨p, q, hA0, hV, rfl, hfz, hnd⟩ := hW
  have hA : DataW.TrodAll enc Tryd.prog W 0 (fun _ => true) true Tryd.f5.params.toList args.toList ds p := hA0
  rw [Tryd.params5] at hA hval
  obtain ⟨v0, d0, hargs, rfl, h0⟩ := trodAll_one hA
  obtain rfl : args = #[v0] := by cases args; simp_all
  obtain ⟨g0, t0, cs, fuel, d, p2, rfl, _⟩ := trodVars_one hV
  obtain ⟨s, l, f, rfl, hl⟩ := arg_slice (rd_Money W) (show Tryd.prog.underlying 36 = some (.slice 68) by kernel_rfl) (by kernel_rfl) (by decide) (hval 0 36 v0 rfl rfl) h0
  obtain ⟨t, ht⟩ := table (W := W) hL
  refine ((law_Lowest (hasCur_of ht) hl).2 W (knowOf_on W)).mono ?_
  rintro e W' ⟨V', r, rfl, hfr, hon, hle, rfl⟩
  exact ⟨_, rfl, post_law Tryd.laidOut (rowsOk_spec (by kernel_rfl)) (by kernel_rfl) hW' (below_of_fr hfr (knowOf_on W) hon hle) (tb := 4) rfl Tryd.underlying4 rfl rfl rfl⟩

theorem lowest_laid (os : Os) : laidMet Tryd.prog Rows.fnExactLowestRow.laid ((laidWorld os).forCall (fun _ _ => 0) ⟨#[], #[.slice none 0 0], []⟩).memory :=
  laidMet_of_run' 8 (by kernel_rfl) (by kernel_rfl)
theorem lowest_reads (os : Os) {H : Type} (enc : TypeId × Value → H) : ∃ ds gs places, DataW.whole enc Tryd.prog ((laidWorld os).forCall (fun _ _ => 0) ⟨#[], #[.slice none 0 0], []⟩).memory Tryd.f5.params.toList Rows.fnExactLowestSpec.vars false #[Value.slice none 0 0].toList 8 = some (ds, gs, places) :=
  ⟨[.nil], [curData curI], MemPlace.row ⟨0, 0, none⟩ 80, by kernel_rfl⟩

set_option maxRecDepth 100000 in
theorem lowest_lifted (os : Os) (started : os.Started) (H : Type) (enc : TypeId × Value → H) (F : Stop.Interp) :
    ReturnsInHanded {} Tryd.checked os 5 .any ((OpenSpec.ofChange Rows.fnExactLowestSpec).preRow enc Tryd.prog Tryd.f5 Rows.fnExactLowestRow.domain false Rows.fnExactLowestRow.laid) (((OpenSpec.ofChange Rows.fnExactLowestSpec).at F).post enc Tryd.prog Tryd.f5 false true false false) := by
  obtain ⟨ds, gs, places, hx⟩ := lowest_reads os enc
  refine returnsInHanded_of_row (C := Tryd.checked) (s := OpenSpec.ofChange Rows.fnExactLowestSpec) Tryd.own started (by kernel_rfl) Tryd.func5
    (witness_row_at (enc := enc) (C := Tryd.checked) false (laidWorld os) #[.slice none 0 0] rfl (by kernel_rfl) (by kernel_rfl) (by kernel_rfl)
      (OpenSpec.preRow_of_cond 8 hx rfl (fun k hk => by cases hk) (by cases hx; kernel_rfl) (lowest_laid os))) ?_
  intro W base args ds gs before hval hW _ _ _ hL _ _
  exact lowest_contract H enc W base args ds gs before hval hW hL

theorem lowest_said : Rows.FnExactLowestSaid :=
  OpenClaim.holds_of_cond 5 Tryd.f5 rfl rfl rfl rfl rfl rfl rfl ⟨rfl, rfl, rfl, rfl, rfl⟩ rfl rfl rfl rfl rfl (by kernel_rfl) Tryd.func5 (by kernel_rfl)
    (of_decide_eq_true (by kernel_rfl)) (by unfold Func.isWrapper; first | (rw [if_pos (by decide +kernel)]; kernel_rfl) | (rw [if_neg (by decide +kernel)]; exact ⟨rfl, rfl⟩))
    (fun os started H enc _ F => by rw [OpenClaim.pre_eq_preRow]; exact lowest_lifted os started H enc F)

theorem lowest_plain (f : FuncId) (fn : Func) (hf : Tryd.pinned.checked.prog.funcNamed "loop.example/g00793/laws.FnExactLowest" = some f) (hfn : Tryd.pinned.checked.prog.funcs[f]? = some fn) :
    false = Tryd.pinned.checked.prog.looks [] ∧ ∀ (j : Nat) t, fn.params[j]? = some t → Tryd.pinned.checked.prog.wantsStandIn t = false := by
  obtain rfl : f = 5 := Option.some.inj ((show Tryd.prog.funcNamed "loop.example/g00793/laws.FnExactLowest" = some 5 by kernel_rfl).symm.trans hf) |>.symm
  obtain rfl : fn = Tryd.f5 := (Option.some.inj (Tryd.func5.symm.trans hfn)).symm
  refine ⟨by kernel_rfl, fun j t ht => ?_⟩
  rw [Tryd.params5] at ht
  obtain rfl : t = 36 := by simpa using Array.mem_of_getElem? ht
  exact (show Tryd.prog.wantsStandIn 36 = false by kernel_rfl)

theorem lowest_card : Rows.FnExactLowestCardSaid :=
  Claim7.holds_tied_plain_at .later [] _ _ _ _ lowest_said (fun _ h => by cases h) (by kernel_rfl) (fun _ h => by cases h) fnExactLowest_row_tie rfl ⟨rfl, rfl⟩ (by kernel_rfl) rfl lowest_plain (by kernel_rfl)
end Go.Proofs.YtagimdcegmpbmaaDoor
