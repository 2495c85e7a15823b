/- PROVED: laws.FnExactBatchTake returns true for every input, on every schedule, and the arguments read behind the call as they read before; the row's listed variable is tied to the program's text. Conditions: none. -/
import Derived.Test.YtdjoodbidcncaaaGreatDoorMSFnExactBatchTake
set_option linter.unusedVariables false
set_option linter.unusedSimpArgs false
namespace Go.Proofs.YtdjoodbidcncaaaGreatDoor.AW.fnExactBatchTake
open Go Go.ChangeShapes Go.WideShapes Go.ChangeAt Go.RowKit Go.WideElems Go.Conc

theorem c_looks : true = Tryz.prog.looks [] := by kernel_rfl
theorem c_goes : true = Rows.fnExactBatchTakeRow.goesBy Tryz.pinned.checked.prog := by kernel_rfl
theorem c_main : Tryz.pinned.checked.prog.mainIs = some (true, ("9da48b30a293137a10117fcde4b8020b86b15005ba62a16696262dd62860cf52" : String).toList) := by kernel_rfl
theorem c_named : Tryz.prog.funcNamed "loop.example/scrutineer/laws.FnExactBatchTake" = some 7 := by kernel_rfl
theorem c_wf : Rows.fnExactBatchTakeRow.wfByText (OpenSpec.ofChange Rows.fnExactBatchTakeSpec) = true := by kernel_rfl
theorem c_all : ([49, 50, 50, 3, 3].all fun u => !Tryz.prog.wantsStandIn u) = true := by kernel_rfl
theorem card : Rows.FnExactBatchTakeCardSaid :=
  card_of [.handle] (true, "9da48b30a293137a10117fcde4b8020b86b15005ba62a16696262dd62860cf52") over c_wf fnExactBatchTake_row_tie rfl ⟨rfl, rfl⟩ c_main
    (fun f fn hf hfn => by
      obtain rfl : f = 7 := Option.some.inj (c_named.symm.trans hf) |>.symm
      obtain rfl : fn = Tryz.f7 := (Option.some.inj (Tryz.func7.symm.trans hfn)).symm
      exact ⟨c_looks, fun j t ht => by
        rw [Tryz.params7] at ht
        have hm : t ∈ [49, 50, 50, 3, 3] := by simpa using Array.mem_of_getElem? ht
        exact (show Tryz.prog.wantsStandIn t = false by simpa using List.all_eq_true.1 c_all t hm)⟩)
    c_goes
end Go.Proofs.YtdjoodbidcncaaaGreatDoor.AW.fnExactBatchTake
namespace Go.Proofs.YtdjoodbidcncaaaGreatDoor
theorem overFnExactBatchTake : Rows.FnExactBatchTakeCardSaid := AW.fnExactBatchTake.card
#print axioms overFnExactBatchTake
end Go.Proofs.YtdjoodbidcncaaaGreatDoor
