/-
  The program's DeskOk returns what the reference's returns, for all arguments.
  Condition: the table of currencies is as the program's text lays it (the card ties it to that text).
-/
import Derived.Test.YtiadnlilmcdibaaGreatDoorDesk
import Derived.Test.YtiadnlilmcdibaaGreatDoorArg
namespace Go.Proofs.YtiadnlilmcdibaaGreatDoor
open Sx Go.ChangeShapes Go.WideShapes Go.ChangeAt Go.RowKit

set_option maxRecDepth 100000 in
theorem deskOk_contract (H : Type) (enc : TypeId × Value → H) (W : World) (base : Nat) (args : Array Value) (ds gs : List (DataW H)) (before : List MemPlace)
    (hval : ∀ (j : Nat) t v, Tryz.f4.params[j]? = some t → args[j]? = some v → Value.okWide Tryz.prog W .any base t v)
    (hW : DataW.Whole enc Tryz.prog Tryz.f4.params.toList Rows.fnExactDeskOkSpec.vars false W args.toList ds gs before) (hL : laidMetH Tryz.prog Rows.fnExactDeskOkRow.laid W) :
    Calls Tryz.prog 4 args W fun e W' => ∃ v, e = .returned v ∧ Rows.fnExactDeskOkSpec.post enc Tryz.prog Tryz.f4 false true false false W args v W' := by
  have hW' := hW
  obtain ⟨p, q, hA0, hV, rfl, hfz, hnd⟩ := hW
  have hA : DataW.TrodAll enc Tryz.prog W 0 (fun _ => true) true Tryz.f4.params.toList args.toList ds p := hA0
  rw [Tryz.params4] at hA hval
  obtain ⟨v0, d0, hargs, rfl, h0⟩ := trodAll_one hA
  obtain rfl : args = #[v0] := by cases args; simp_all
  obtain ⟨g0, t0, cs, fuel, d, p2, rfl, _⟩ := trodVars_one hV
  have ht : Tryz.prog.underlying 47 = some (.struct fsDesk) := by kernel_rfl
  obtain ⟨c, x, f, rfl, hx⟩ := arg_row (rd_Desk W) ht (hval 0 47 v0 rfl rfl) h0
  obtain ⟨t, ht⟩ := table (W := W) hL
  refine ((law_DeskOk (hasCur_of ht) hx).2 W (knowOf_on W)).mono ?_
  rintro e W' ⟨V', r, rfl, hfr, hon, hle, rfl⟩
  exact ⟨_, rfl, post_law Tryz.laidOut (rowsOk_spec (by kernel_rfl)) (by kernel_rfl) hW' (below_of_fr hfr (knowOf_on W) hon hle) (tb := 4) rfl Tryz.underlying4 rfl rfl rfl⟩

theorem deskOk_laid (os : Os) : laidMet Tryz.prog Rows.fnExactDeskOkRow.laid ((laidWorld os).forCall (fun _ _ => 0) ⟨#[], #[.agg #[.slice none 0 0, .slice none 0 0, .string ⟨#[]⟩, .slice none 0 0, .slice none 0 0]], []⟩).memory :=
  laidMet_of_run' 8 (by kernel_rfl) (by kernel_rfl)
theorem deskOk_reads (os : Os) {H : Type} (enc : TypeId × Value → H) : ∃ ds gs places, DataW.whole enc Tryz.prog ((laidWorld os).forCall (fun _ _ => 0) ⟨#[], #[.agg #[.slice none 0 0, .slice none 0 0, .string ⟨#[]⟩, .slice none 0 0, .slice none 0 0]], []⟩).memory Tryz.f4.params.toList Rows.fnExactDeskOkSpec.vars false #[(.agg #[.slice none 0 0, .slice none 0 0, .string ⟨#[]⟩, .slice none 0 0, .slice none 0 0] : Value)].toList 8 = some (ds, gs, places) :=
  ⟨[.agg [.agg [.agg [.nil], .nil, .agg [.lit (.string []), .nil]], .nil]], [curData curI], MemPlace.row ⟨0, 0, none⟩ 80, by kernel_rfl⟩

set_option maxRecDepth 100000 in
theorem deskOk_lifted (os : Os) (started : os.Started) (H : Type) (enc : TypeId × Value → H) (F : Stop.Interp) :
    ReturnsInHanded {} Tryz.checked os 4 .any ((OpenSpec.ofChange Rows.fnExactDeskOkSpec).preRow enc Tryz.prog Tryz.f4 Rows.fnExactDeskOkRow.domain false Rows.fnExactDeskOkRow.laid) (((OpenSpec.ofChange Rows.fnExactDeskOkSpec).at F).post enc Tryz.prog Tryz.f4 false true false false) := by
  obtain ⟨ds, gs, places, hx⟩ := deskOk_reads os enc
  refine returnsInHanded_of_row (C := Tryz.checked) (s := OpenSpec.ofChange Rows.fnExactDeskOkSpec) Tryz.own started (by kernel_rfl) Tryz.func4
    (witness_row_at (enc := enc) (C := Tryz.checked) false (laidWorld os) #[.agg #[.slice none 0 0, .slice none 0 0, .string ⟨#[]⟩, .slice none 0 0, .slice none 0 0]] rfl (by kernel_rfl) (by kernel_rfl) (by kernel_rfl)
      (OpenSpec.preRow_of_cond 8 hx rfl (fun k hk => by cases hk) (by cases hx; kernel_rfl) (deskOk_laid os))) ?_
  intro W base args ds gs before hval hW _ _ _ hL _ _
  exact deskOk_contract H enc W base args ds gs before hval hW hL

theorem deskOk_said : Rows.FnExactDeskOkSaid :=
  OpenClaim.holds_of_cond 4 Tryz.f4 rfl rfl rfl rfl rfl rfl rfl ⟨rfl, rfl, rfl, rfl, rfl⟩ rfl rfl rfl rfl rfl (by kernel_rfl) Tryz.func4 (by kernel_rfl)
    (of_decide_eq_true (by kernel_rfl)) (by unfold Func.isWrapper; first | (rw [if_pos (by decide +kernel)]; kernel_rfl) | (rw [if_neg (by decide +kernel)]; exact ⟨rfl, rfl⟩))
    (fun os started H enc _ F => by rw [OpenClaim.pre_eq_preRow]; exact deskOk_lifted os started H enc F)

theorem deskOk_plain (f : FuncId) (fn : Func) (hf : Tryz.pinned.checked.prog.funcNamed "loop.example/g00793/laws.FnExactDeskOk" = some f) (hfn : Tryz.pinned.checked.prog.funcs[f]? = some fn) :
    false = Tryz.pinned.checked.prog.looks [] ∧ ∀ (j : Nat) t, fn.params[j]? = some t → Tryz.pinned.checked.prog.wantsStandIn t = false := by
  obtain rfl : f = 4 := Option.some.inj ((show Tryz.prog.funcNamed "loop.example/g00793/laws.FnExactDeskOk" = some 4 by kernel_rfl).symm.trans hf) |>.symm
  obtain rfl : fn = Tryz.f4 := (Option.some.inj (Tryz.func4.symm.trans hfn)).symm
  refine ⟨by kernel_rfl, fun j t ht => ?_⟩
  rw [Tryz.params4] at ht
  obtain rfl : t = 47 := by simpa using Array.mem_of_getElem? ht
  exact (show Tryz.prog.wantsStandIn 47 = false by kernel_rfl)

theorem deskOk_card : Rows.FnExactDeskOkCardSaid :=
  Claim7.holds_tied_plain_at .later [] _ _ _ _ deskOk_said (fun _ h => by cases h) (by kernel_rfl) (fun _ h => by cases h) fnExactDeskOk_row_tie rfl ⟨rfl, rfl⟩ (by kernel_rfl) rfl deskOk_plain (by kernel_rfl)
end Go.Proofs.YtiadnlilmcdibaaGreatDoor
