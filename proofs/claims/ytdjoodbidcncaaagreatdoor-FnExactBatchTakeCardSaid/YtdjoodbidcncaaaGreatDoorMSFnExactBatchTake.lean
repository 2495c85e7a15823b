/- laws.FnExactBatchTake: the row, out of the good runs. -/
import Derived.Test.YtdjoodbidcncaaaGreatDoorMAxQFnExactBatchTake
import Derived.Test.YtdjoodbidcncaaaGreatDoorMAxJFnExactBatchTake
set_option linter.unusedVariables false
set_option linter.unusedSimpArgs false
namespace Go.Proofs.YtdjoodbidcncaaaGreatDoor.AW.fnExactBatchTake
open Go Go.ChangeShapes Go.WideShapes Go.ChangeAt Go.RowKit Go.WideElems Go.Conc

theorem over : Rows.FnExactBatchTakeSaid :=
  OpenClaim.holds_of_wide_leaving_time 7 Tryz.f7 rfl rfl rfl rfl rfl rfl rfl ⟨rfl, rfl, rfl, rfl, rfl⟩ rfl rfl rfl rfl rfl (by kernel_rfl) Tryz.func7 facts
    (of_decide_eq_true (by kernel_rfl)) (by unfold Func.isWrapper; first | (rw [if_pos (by decide +kernel)]; kernel_rfl) | (rw [if_neg (by decide +kernel)]; exact ⟨rfl, rfl⟩))
    (fun os started H enc _ Fi => lifted os started H enc Fi)
end Go.Proofs.YtdjoodbidcncaaaGreatDoor.AW.fnExactBatchTake
