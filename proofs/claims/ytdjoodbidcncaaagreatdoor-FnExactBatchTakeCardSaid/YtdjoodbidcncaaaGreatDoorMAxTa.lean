/- Type assertions at a concrete type. -/
import Derived.Test.YtdjoodbidcncaaaGreatDoorMAxL
set_option linter.unusedVariables false
set_option linter.unusedSimpArgs false
namespace Go.Proofs.YtdjoodbidcncaaaGreatDoor.AW
open Go
section
variable {C : Ctx} {o : Oper} {N : Nat} {T : Nat → AV} {H : Nat → Option Block}
theorem as_core {P : Program} {t xt : TypeId} {d : TypeDesc} (hu : P.underlying t = some d) (hd : ∀ m, d ≠ .interface m) (t' : TypeId) (v : Value) (w : World) :
    (Instr.typeAssert (.iface t' v) xt t true).run P w = (if t' = t then Result.ok (.tuple #[v, .bool true]) w else ((do pure (.tuple #[← zeroValue t, .bool false])) : Sem Value).run P w) ∧
    (Instr.typeAssert (.iface t' v) xt t true).events P w #[] = (if t' = t then #[] else ((do pure (.tuple #[← zeroValue t, .bool false])) : Sem Value).events P w #[]) := by
  unfold Instr.typeAssert
  simp only [Sem.run_bind, Sem.events_bind, run_underlying hu, events_underlying, Result.andThen_ok, Result.evThen_ok]
  by_cases h : t' = t
  · cases d <;> first
      | (exfalso; exact hd _ rfl)
      | (simp only [h, if_true]; exact ⟨rfl, rfl⟩)
  · cases d <;> first
      | (exfalso; exact hd _ rfl)
      | (simp only [h, if_false, if_true, Sem.run_bind, Sem.events_bind]; exact ⟨rfl, rfl⟩)
      | (simp only [h, if_false, if_true, Sem.run_bind, Sem.events_bind]; exact ⟨trivial, trivial⟩)
theorem as_yes {nx : Nat} {K : Eff → Prop} {x : Operand} {xt t : TypeId} (ho : o.op = .typeAssert x xt t true) {d : TypeDesc} (hu : C.P.underlying t = some d) (hd : ∀ m, d ≠ .interface m) {v : AV} (hx : ev T x = .ifc t v) (h : K ⟨.tup [v, bv true], [], [], []⟩) : CallVC C o N T H nx K := by
  have mx : x ∈ o.op.operands := by simp [ho, Op.operands]
  unfold CallVC
  refine does_val h fun T' H' h1 _ E a w ht _ => ?_
  obtain ⟨u, e, hr⟩ := rep_ifc (rep_at ht (h1 x mx) hx)
  obtain ⟨c1, c2⟩ := as_core (xt := xt) hu hd t u w
  rw [if_pos rfl] at c1 c2
  refine ⟨.tuple #[u, .bool true], w, ?_, rfl, ?_, .nil ?_⟩
  · simp only [execOp, ho, e, Sem.run_bind, c1]; rfl
  · refine .tup _ _ rfl fun k y hy => ?_
    match k, hy with
    | 0, hy => simp only [List.getElem?_cons_zero, Option.some.injEq] at hy; subst hy; exact hr
    | 1, hy => simp only [List.getElem?_cons_succ, List.getElem?_cons_zero, Option.some.injEq] at hy; subst hy; exact .cv _ _ (.sc _ rfl)
  · simp only [execOp, ho, e, Sem.events_bind, Sem.run_bind, c1, c2]; rfl
theorem as_no {nx : Nat} {K : Eff → Prop} {x : Operand} {xt t : TypeId} (ho : o.op = .typeAssert x xt t true) {d : TypeDesc} (hu : C.P.underlying t = some d) (hd : ∀ m, d ≠ .interface m) {t' : TypeId} {v v0 : AV} {z : Value} (hz : ∀ w, (zeroValue t).run C.P w = .ok z w ∧ (zeroValue t).events C.P w #[] = #[])
    (h0 : ∀ w E, RepA w E v0 z) (hx : ev T x = .ifc t' v) (hne : t' ≠ t) (h : K ⟨.tup [v0, bv false], [], [], []⟩) : CallVC C o N T H nx K := by
  have mx : x ∈ o.op.operands := by simp [ho, Op.operands]
  unfold CallVC
  refine does_val h fun T' H' h1 _ E a w ht _ => ?_
  obtain ⟨u, e, hr⟩ := rep_ifc (rep_at ht (h1 x mx) hx)
  obtain ⟨c1, c2⟩ := as_core (xt := xt) hu hd t' u w
  rw [if_neg hne, Sem.run_bind, (hz w).1] at c1
  rw [if_neg hne, Sem.events_bind, (hz w).1, (hz w).2] at c2
  refine ⟨.tuple #[z, .bool false], w, ?_, rfl, ?_, .nil ?_⟩
  · simp only [execOp, ho, e, Sem.run_bind, c1]; rfl
  · refine .tup _ _ rfl fun k y hy => ?_
    match k, hy with
    | 0, hy => simp only [List.getElem?_cons_zero, Option.some.injEq] at hy; subst hy; exact h0 _ _
    | 1, hy => simp only [List.getElem?_cons_succ, List.getElem?_cons_zero, Option.some.injEq] at hy; subst hy; exact .cv _ _ (.sc _ rfl)
  · simp only [execOp, ho, e, Sem.events_bind, Sem.run_bind, c1, c2]; rfl
end
end Go.Proofs.YtdjoodbidcncaaaGreatDoor.AW
