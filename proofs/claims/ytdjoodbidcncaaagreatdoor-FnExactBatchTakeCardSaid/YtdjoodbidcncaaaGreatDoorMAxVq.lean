/- A call that hands blocks over, and more come. -/
import Derived.Test.YtdjoodbidcncaaaGreatDoorMAxX
set_option linter.unusedVariables false
set_option linter.unusedSimpArgs false
namespace Go.Proofs.YtdjoodbidcncaaaGreatDoor.AW
open Go
theorem callWq {C : Ctx} {H : Nat → Option Block} {bs : List Nat} {f : FuncId} {ys : List AV} {ns : List Nat} {nx : Nat} {K : Eff → Prop} {args' : List AV} {Hin : List Block} {res : AV} {Hout : List (Nat × Option Block)} (S : Spec C f args' Hin res Hout) (m : Nat) (hle : LeL (fun i => bs[i]?) args' ys)
    (h : vPass bs H (fun i => bs[i]?) bs Hin fun ms => ck ((ns ++ ms).all (fun b => !bs.contains b) && (nmA (Hin.length + m) res && nmH (Hin.length + m) Hout)) <| K ⟨renA (mu bs Hin.length nx) res, wrs bs (ns ++ ms) Hin.length nx m true Hout, List.range' nx m, bs ++ (ns ++ ms)⟩) : CallW C f bs ys ns H nx K := by
  refine callW S m true hle ?_
  simpa using h
end Go.Proofs.YtdjoodbidcncaaaGreatDoor.AW
