/- PROVED: laws.FnColTake returns true for every input, on every schedule, and the arguments read behind the call as they read before; the row's listed variable is tied to the program's text. Conditions: none. -/
import Derived.Test.YtdjoodbidcncaaaGreatDoorMSFnColTake
set_option linter.unusedVariables false
set_option linter.unusedSimpArgs false
namespace Go.Proofs.YtdjoodbidcncaaaGreatDoor.AW.fnColTake
open Go Go.ChangeShapes Go.WideShapes Go.ChangeAt Go.RowKit Go.WideElems Go.Conc

theorem c_looks : true = Tryz.prog.looks [] := by kernel_rfl
theorem c_goes : true = Rows.fnColTakeRow.goesBy Tryz.pinned.checked.prog := by kernel_rfl
theorem c_main : Tryz.pinned.checked.prog.mainIs = some (true, ("9da48b30a293137a10117fcde4b8020b86b15005ba62a16696262dd62860cf52" : String).toList) := by kernel_rfl
theorem c_named : Tryz.prog.funcNamed "loop.example/scrutineer/laws.FnColTake" = some 4 := by kernel_rfl
theorem c_wf : Rows.fnColTakeRow.wfByText (OpenSpec.ofChange Rows.fnColTakeSpec) = true := by kernel_rfl
theorem c_all : ([22].all fun u => !Tryz.prog.wantsStandIn u) = true := by kernel_rfl
theorem card : Rows.FnColTakeCardSaid :=
  card_of [.handle] (true, "9da48b30a293137a10117fcde4b8020b86b15005ba62a16696262dd62860cf52") over c_wf fnColTake_row_tie rfl ⟨rfl, rfl⟩ c_main
    (fun f fn hf hfn => by
      obtain rfl : f = 4 := Option.some.inj (c_named.symm.trans hf) |>.symm
      obtain rfl : fn = Tryz.f4 := (Option.some.inj (Tryz.func4.symm.trans hfn)).symm
      exact ⟨c_looks, fun j t ht => by
        rw [Tryz.params4] at ht
        have hm : t ∈ [22] := by simpa using Array.mem_of_getElem? ht
        exact (show Tryz.prog.wantsStandIn t = false by simpa using List.all_eq_true.1 c_all t hm)⟩)
    c_goes
end Go.Proofs.YtdjoodbidcncaaaGreatDoor.AW.fnColTake
namespace Go.Proofs.YtdjoodbidcncaaaGreatDoor
theorem overFnColTake : Rows.FnColTakeCardSaid := AW.fnColTake.card
#print axioms overFnColTake
end Go.Proofs.YtdjoodbidcncaaaGreatDoor
