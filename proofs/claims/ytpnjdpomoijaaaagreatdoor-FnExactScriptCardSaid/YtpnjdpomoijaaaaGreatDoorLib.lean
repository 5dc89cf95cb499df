/-
  Contracts of the library's functions, told in terms of what is known of memory.
-/
import Derived.Test.YtpnjdpomoijaaaaGreatDoorEngD
import Derived.Below
import Derived.Lib.LaidTab
namespace Go.Proofs.YtpnjdpomoijaaaaGreatDoor
open Sx Go.RowKit
set_option maxRecDepth 100000

/-- a call that leaves all old blocks as they were and returns one value -/
theorem CallX.of_calls {P : Program} {V : Know} {g : FuncId} {args : List Value} {v : Value} (he : Enters P g)
    (h : ∀ w, V.on w → Calls P g args.toArray w fun e w' => e = .returned v ∧ Below w.heap.size w w') : CallX P V g args (fun V' r => V' = V ∧ r = v) :=
  ⟨he, fun w hw => (h w hw).mono fun _ _ ⟨he, hb⟩ => ⟨V, v, he, ⟨hb.os, hb.tape, hb.output, hb.size, fun b hb' _ => hb.block b hb', fun _ _ h => h⟩, fun b c t hv => by
    have hk := hw b c t hv
    have hlt : b < w.heap.size := (Array.getElem?_eq_some_iff.1 hk).1
    rw [hb.block b hlt]; exact hk, rfl, rfl⟩⟩
theorem ints_noTup (k : IntKind) : ∀ zs : List Int, noTup (zs.map fun z => Value.int k z) = true
  | [] => rfl
  | z :: l => by
    have ih := ints_noTup k l
    unfold noTup at ih ⊢
    rw [List.map_cons, List.all_cons, ih]; rfl
/-- what is known of a variable of the library -/
theorem tab_of {P : Program} {V : Know} {w : World} {name : String} {k : IntKind} {zs : List Int} {g : Nat} {t : TypeId × Nat × Nat} (hg : P.globalNamed name = some g) (hV : V g = some (zs.map fun z => Value.int k z, t)) (hw : V.on w) : Go.Lib.TabIs P w name k zs := by
  have h := hw g _ _ hV
  unfold Go.Lib.TabIs World.var?
  rw [hg]
  simp only [Option.bind_some, h]
  rw [objOf_cells (ints_noTup k zs)]
end Go.Proofs.YtpnjdpomoijaaaaGreatDoor
