/- PROVED: laws.FnColOther returns true for every input, on every schedule, and the arguments read behind the call as they read before; the row's listed variable is tied to the program's text. Conditions: none. -/
import Derived.Test.YtekpddiahnaomaaGreatDoorMSFnColOther
set_option linter.unusedVariables false
set_option linter.unusedSimpArgs false
namespace Go.Proofs.YtekpddiahnaomaaGreatDoor.AW.fnColOther
open Go Go.ChangeShapes Go.WideShapes Go.ChangeAt Go.RowKit Go.WideElems Go.Conc

theorem card : Rows.FnColOtherCardSaid :=
  card_of [.handle] (true, "4d9f17e13c55a2fc7d2df532c43dec6209a24695606d8e94ca11b776b91188f4") over (by kernel_rfl) fnColOther_row_tie rfl ⟨rfl, rfl⟩ (by kernel_rfl)
    (fun f fn hf hfn => by
      obtain rfl : f = 6 := Option.some.inj ((show Tryz.prog.funcNamed "loop.example/scrutineer/laws.FnColOther" = some 6 by kernel_rfl).symm.trans hf) |>.symm
      obtain rfl : fn = Tryz.f6 := (Option.some.inj (Tryz.func6.symm.trans hfn)).symm
      exact ⟨by kernel_rfl, fun j t ht => by
        rw [Tryz.params6] at ht
        have hm : t ∈ [40] := by simpa using Array.mem_of_getElem? ht
        have hall : ([40].all fun u => !Tryz.prog.wantsStandIn u) = true := by kernel_rfl
        exact (show Tryz.prog.wantsStandIn t = false by simpa using List.all_eq_true.1 hall t hm)⟩)
    (by kernel_rfl)
end Go.Proofs.YtekpddiahnaomaaGreatDoor.AW.fnColOther
namespace Go.Proofs.YtekpddiahnaomaaGreatDoor
theorem overFnColOther : Rows.FnColOtherCardSaid := AW.fnColOther.card
#print axioms overFnColOther
end Go.Proofs.YtekpddiahnaomaaGreatDoor
