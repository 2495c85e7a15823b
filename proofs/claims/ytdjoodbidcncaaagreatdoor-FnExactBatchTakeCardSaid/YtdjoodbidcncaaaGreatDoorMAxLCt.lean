/- The law FnExactColTake: it always says true. -/
import Derived.Test.YtdjoodbidcncaaaGreatDoorMAxT
import Derived.Test.YtdjoodbidcncaaaGreatDoorMAxDd
import Derived.Test.YtdjoodbidcncaaaGreatDoorMAxDf
set_option linter.unusedVariables false
set_option linter.unusedSimpArgs false
namespace Go.Proofs.YtdjoodbidcncaaaGreatDoor.AW
open Go
set_option maxRecDepth 10000
theorem rows_all (l : List Int) : List.take l.length (List.drop 0 (rows ci l)) = rows ci l := by rw [List.drop_zero]; exact List.take_of_length_le (by simp [rows])
theorem sq_all (k : Int) (L : Nat) : List.take L (List.drop 0 (rows ci (seqI k L))) = rows ci (seqI k L) := by rw [List.drop_zero]; exact List.take_of_length_le (by simp [rows, seqI])
theorem ctake_len (c : Co) (p : Prt) : (ctake c p).sum.length ≤ c.sum.length ∧ (ctake c p).ids.length ≤ c.ids.length + 1 := by
  unfold ctake
  split
  · exact ⟨by simp [zipE]; omega, by simp⟩
  · exact ⟨Nat.le_refl _, by omega⟩
end Go.Proofs.YtdjoodbidcncaaaGreatDoor.AW
