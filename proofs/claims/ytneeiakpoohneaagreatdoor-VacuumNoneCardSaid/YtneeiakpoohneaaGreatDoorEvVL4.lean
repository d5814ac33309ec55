/- The law VacuumNone of the package hachurelaw28, as its tied card says it: for every input the call returns true, and its argument reads behind the call as before, provided that the listed package-level variable (hachure/sum.table) holds at the start what the program's text lays there. -/
import Derived.Test.YtneeiakpoohneaaGreatDoorCards
import Derived.Test.YtneeiakpoohneaaGreatDoorTie
import Derived.Test.YtneeiakpoohneaaGreatDoorEvVL3
set_option linter.all false
namespace Go.Proofs.YtneeiakpoohneaaGreatDoor.vacuumNone
open Go.ChangeShapes Go.WideShapes Go.ChangeAt Go.RowKit
theorem plain (f : FuncId) (fn : Func) (hf : Tryz.pinned.checked.prog.funcNamed "hachure/hachurelaw28.VacuumNone" = some f) (hfn : Tryz.pinned.checked.prog.funcs[f]? = some fn) :
    false = Tryz.pinned.checked.prog.looks [] ∧ ∀ (j : Nat) t, fn.params[j]? = some t → Tryz.pinned.checked.prog.wantsStandIn t = false := by
  obtain rfl : f = 4 := Option.some.inj ((show Tryz.prog.funcNamed "hachure/hachurelaw28.VacuumNone" = some 4 by kernel_rfl).symm.trans hf) |>.symm
  obtain rfl : fn = Tryz.f4 := (Option.some.inj (Tryz.func4.symm.trans hfn)).symm
  refine ⟨by kernel_rfl, fun j t ht => ?_⟩
  rw [Tryz.params4] at ht
  obtain rfl : t = 3 := by simpa using Array.mem_of_getElem? ht
  exact (show Tryz.prog.wantsStandIn 3 = false by kernel_rfl)
theorem byText : Rows.vacuumNoneRow.wfByText (OpenSpec.ofChange Rows.vacuumNoneSpec) = true := by kernel_rfl
theorem mainIs : Tryz.pinned.checked.prog.mainIs = some (true, "a4b52c344925df7c9152d2317ec8022d37e2688a831fde433006c0dd42417e0e".toList) := by kernel_rfl
theorem goes_none {P : Program} (h : P.funcs.any Func.goes = false) (f : FuncId) : P.goes f = false := by
  have hall : ∀ g : Nat, (P.funcs[g]?).any Func.goes = false := fun g => by
    cases hg : P.funcs[g]? with
    | none => rfl
    | some fn =>
      have hm : fn ∈ P.funcs := Array.mem_of_getElem? hg
      have := Array.any_eq_false'.1 h fn hm
      simpa using this
  unfold Program.goes
  rw [h, Bool.and_false, Bool.or_false]
  exact List.any_eq_false.2 fun g _ => by rw [hall g]; decide
theorem noneGoes : Tryz.pinned.checked.prog.funcs.any Func.goes = false := by kernel_rfl
theorem goesBy : false = Rows.vacuumNoneRow.goesBy Tryz.pinned.checked.prog := by
  show false = (((Tryz.pinned.checked.prog.funcNamed "hachure/hachurelaw28.VacuumNone").any Tryz.pinned.checked.prog.goes) || false)
  cases Tryz.pinned.checked.prog.funcNamed "hachure/hachurelaw28.VacuumNone" with
  | none => rfl
  | some f => rw [Option.any_some, goes_none noneGoes f]; rfl
theorem card : Rows.VacuumNoneCardSaid :=
  Claim7.holds_tied_plain_at .later [] _ _ _ _ said (fun _ h => by cases h) byText (fun _ h => by cases h) vacuumNone_row_tie rfl ⟨rfl, rfl⟩ mainIs rfl plain goesBy
#print axioms card
end Go.Proofs.YtneeiakpoohneaaGreatDoor.vacuumNone
