/- From a contract to a row. -/
import Derived.Test.YtnffoddeppimkaaAwU
import Derived.Test.YtnffoddeppimkaaRows
import Derived.ProofKit
import Derived.OpenShut
import Derived.Carry
import Derived.Deep.Slices
import Derived.ChangeOld
namespace Go.Proofs.Ytnffoddeppimkaa.AW
open Go Go.ChangeShapes Go.WideShapes Go.ChangeAt Go.RowKit
set_option linter.unusedVariables false

/-- nothing is owned; all there is may be read -/
def rowE (w : World) : Emb := { blk := fun _ => 0, sz := fun _ => 0, U := fun _ => False, gh := fun _ => False, pr := (· < w.heap.size), fr := (· < w.heap.size) }
theorem spec_calls {f : FuncId} {args : List AV} (S : Spec ctx f args [] (bv true) []) {w : World} {vs : List Value} (hl : vs.length = args.length) (hr : ∀ (k : Nat) (x : AV), args[k]? = some x → RepA w (rowE w) x (vs.getD k undef)) :
    Calls Try.prog f vs.toArray w fun e w' => e = .returned (.bool true) ∧ Below w.heap.size w w' := by
  refine (S.run (rowE w) w vs hl hr ⟨fun b B h => by simp [hin] at h, fun b B h => by simp [hin] at h, fun b b' B B' h => by simp [hin] at h, fun r h => h, fun r h => h⟩ (fun b => by simp [rowE])).mono fun e w' ⟨v, E', h1, h2, h3, h4⟩ => ?_
  have := rep_sc h2
  subst this
  exact ⟨h1, ⟨h4.io.1, h4.io.2.1, h4.io.2.2, h4.sz, fun k hk => h4.keep k hk⟩⟩
theorem all_nil {w : World} {E : Emb} {vs : List Value} : ∀ (k : Nat) (x : AV), ([] : List AV)[k]? = some x → RepA w E x (vs.getD k undef) := by simp
theorem all_cons {w : World} {E : Emb} {x : AV} {v : Value} {args : List AV} {vs : List Value} (h : RepA w E x v) (t : ∀ (k : Nat) (x : AV), args[k]? = some x → RepA w E x (vs.getD k undef)) :
    ∀ (k : Nat) (y : AV), (x :: args)[k]? = some y → RepA w E y ((v :: vs).getD k undef)
  | 0, y, hy => by simp only [List.getElem?_cons_zero, Option.some.injEq] at hy; subst hy; exact h
  | k + 1, y, hy => t k y (by simpa using hy)
theorem rep_int {w : World} {E : Emb} {k : IntKind} (a : Int) : RepA w E (.cv (.sc (.int k a))) (.int k a) := .cv _ _ (.sc _ rfl)
theorem rep_bool {w : World} {E : Emb} (a : Bool) : RepA w E (.cv (.sc (.bool a))) (.bool a) := .cv _ _ (.sc _ rfl)
theorem rep_aggL {w : World} {E : Emb} {cs : List AV} {vs : Array Value} (hs : vs.toList.length = cs.length) (h : ∀ (k : Nat) (x : AV), cs[k]? = some x → RepA w E x (vs.toList.getD k undef)) : RepA w E (.agg cs) (.agg vs) :=
  .agg _ _ (by simpa using hs) fun k x hx => by have := h k x hx; simpa [List.getD, Array.getD_eq_getD_getElem?] using this

section
variable {H : Type} {enc : TypeId × Value → H} {w : World} {base : Nat} {spare : Nat → Bool} {held : Bool}
theorem int_of {t n : Nat} {k : IntKind} {cs : List Value} {x : DataW H × List MemPlace} (ht : Try.prog.underlying t = some (.int k)) (h : DataW.trod enc Try.prog w base spare held n t cs = some x) : ∃ a, cs = [.int k a] ∧ (Lit.int k a).wf = true := by
  obtain ⟨a, e, _, hw⟩ := DataW.trod_int ht h
  exact ⟨a, e, hw⟩
end
end Go.Proofs.Ytnffoddeppimkaa.AW
