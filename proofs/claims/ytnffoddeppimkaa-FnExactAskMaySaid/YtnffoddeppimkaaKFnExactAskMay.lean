/- PROVED: laws.FnExactAskMay returns true for every input, and the arguments read behind the call as they read before. Conditions: none. -/
import Derived.Test.YtnffoddeppimkaaRows
import Derived.ChangeOld
import Derived.Test.YtnffoddeppimkaaKFnExactAskMay0
import Derived.Test.YtnffoddeppimkaaKFnExactAskMay1
import Derived.Test.YtnffoddeppimkaaKFnExactAskMay2
import Derived.Test.YtnffoddeppimkaaKFnExactAskMay3
import Derived.Test.YtnffoddeppimkaaKFnExactAskMay4
import Derived.Test.YtnffoddeppimkaaKFnExactAskMay5
namespace Go.Proofs.Ytnffoddeppimkaa.fnExactAskMay
open Go.ChangeShapes Go.WideShapes Go.ChangeAt Go.RowKit Go.WideElems Go.Proofs.YtnffoddeppimkaaW.PrintWords
set_option linter.unusedVariables false
set_option linter.unusedSimpArgs false
open Go.Proofs.Ytnffoddeppimkaa.YFnExactAskMay
theorem own : ownKnob Try.prog.godebug = none := by kernel_rfl
theorem laidOut : laidOutB Try.prog = true := by kernel_rfl
set_option maxRecDepth 100000 in
theorem lifted (os : Os) (started : os.Started) (H : Type) (enc : TypeId × Value → H) :
    ReturnsInHanded {} Try.checked os 4 .any (Rows.fnExactAskMaySpec.pre6 enc Try.prog Try.f4 Rows.fnExactAskMayRow.domain false) (Rows.fnExactAskMaySpec.post enc Try.prog Try.f4 false true false false) := by
  refine returnsInHanded_of_change (C := Try.checked) own started (by kernel_rfl) Try.func4
    (ChangeSpec.witness6 (enc := enc) (C := Try.checked) false ⟨#[], #[.agg #[.int .i64 0, .int .i64 0, .int .i64 0, .int .i64 0], .agg #[.int .i64 0, .int .i64 0, .slice none 0 0, .slice none 0 0, .int .i64 0, .int .i64 0, .slice none 0 0, .slice none 0 0, .int .i64 0], .agg #[.int .i64 0, .int .i64 0, .slice none 0 0]], []⟩ 8 (by kernel_rfl) (by kernel_rfl) (by kernel_rfl) (by kernel_rfl)) ?_
  intro W base args ds gs before hval0 hW hcnd _
  have hval : ∀ (j : Nat) t v, Try.f4.params[j]? = some t → args[j]? = some v → Value.okWide Try.prog W .any base t v := hval0
  have hW' := hW
  obtain ⟨p, q, hA0, hV, rfl, hfz, hnd⟩ := hW
  have hA : DataW.TrodAll enc Try.prog W 0 (fun _ => true) true Try.f4.params.toList args.toList ds p := hA0
  rw [Try.params4] at hA hval
  obtain ⟨v0, vs0, d0, ds0, p0, q0, hargs, rfl, rfl, h0, r0⟩ := trodAll_cons hA
  obtain ⟨v1, vs1, d1, ds1, p1, q1, rfl, rfl, rfl, h1, r1⟩ := trodAll_cons r0
  obtain ⟨v2, vs2, d2, ds2, p2, q2, rfl, rfl, rfl, h2, r2⟩ := trodAll_cons r1
  obtain ⟨rfl, rfl, rfl⟩ := trodAll_nil r2
  obtain rfl : args = #[v0, v1, v2] := by cases args; simp_all
  obtain ⟨rfl, rfl⟩ := trodVars_none hV
  have k0 := h0
  have lt0 : ∀ x ∈ p0, x.block < W.heap.size := by obtain ⟨m, hm⟩ := k0; exact DataW.trod_lt m _ _ _ hm
  obtain ⟨n0, j0⟩ := h0
  obtain ⟨cs0, rfl, _⟩ := okWide_struct Try.underlying43 (hval 0 43 v0 rfl rfl)
  obtain ⟨a0_0, a0_1, a0_2_0, a0_2_1, e0, w0_0, w0_1, w0_2_0, w0_2_1⟩ := open43 (show DataW.trod enc Try.prog W 0 (fun _ => true) true n0 43 cs0.toList = _ from j0)
  obtain rfl : cs0 = #[.int .i64 a0_0, .int .i64 a0_1, .int .i64 a0_2_0, .int .i64 a0_2_1] := Array.toList_inj.1 e0
  have k1 := h1
  have lt1 : ∀ x ∈ p1, x.block < W.heap.size := by obtain ⟨m, hm⟩ := k1; exact DataW.trod_lt m _ _ _ hm
  obtain ⟨n1, j1⟩ := h1
  obtain ⟨cs1, rfl, _⟩ := okWide_struct Try.underlying46 (hval 1 46 v1 rfl rfl)
  obtain ⟨a1_0_0, a1_0_1, A1_0_2, c1_0_2, l1_0_2, A1_0_3, c1_0_3, l1_0_3, a1_1_0, a1_1_1, A1_1_2, c1_1_2, l1_1_2, A1_1_3, c1_1_3, l1_1_3, a1_2, e1, hc1_0_2, hr1_0_2, hc1_0_3, hr1_0_3, hc1_1_2, hr1_1_2, hc1_1_3, hr1_1_3, w1_0_0, w1_0_1, w1_0_2, w1_0_3, w1_1_0, w1_1_1, w1_1_2, w1_1_3, w1_2⟩ := open46 (show DataW.trod enc Try.prog W 0 (fun _ => true) true n1 46 cs1.toList = _ from j1)
  obtain rfl : cs1 = #[.int .i64 a1_0_0, .int .i64 a1_0_1, .slice A1_0_2 l1_0_2.length c1_0_2, .slice A1_0_3 l1_0_3.length c1_0_3, .int .i64 a1_1_0, .int .i64 a1_1_1, .slice A1_1_2 l1_1_2.length c1_1_2, .slice A1_1_3 l1_1_3.length c1_1_3, .int .i64 a1_2] := Array.toList_inj.1 e1
  have k2 := h2
  have lt2 : ∀ x ∈ p2, x.block < W.heap.size := by obtain ⟨m, hm⟩ := k2; exact DataW.trod_lt m _ _ _ hm
  obtain ⟨n2, j2⟩ := h2
  obtain ⟨cs2, rfl, _⟩ := okWide_struct Try.underlying49 (hval 2 49 v2 rfl rfl)
  obtain ⟨a2_0_0, a2_0_1, A2_1, c2_1, l2_1, e2, hc2_1, hr2_1, w2_0_0, w2_0_1, w2_1⟩ := open49 (show DataW.trod enc Try.prog W 0 (fun _ => true) true n2 49 cs2.toList = _ from j2)
  obtain rfl : cs2 = #[.int .i64 a2_0_0, .int .i64 a2_0_1, .slice A2_1 l2_1.length c2_1] := Array.toList_inj.1 e2
  clear hA0 hval0
  have hk := FnExactAskMay.pure a0_0 a0_1 a0_2_0 a0_2_1 a1_0_0 a1_0_1 l1_0_2 l1_0_3 a1_1_0 a1_1_1 l1_1_2 l1_1_3 a1_2 a2_0_0 a2_0_1 l2_1 w0_0 w0_1 w0_2_0 w0_2_1 w1_0_0 w1_0_1 w1_0_2 w1_0_3 w1_1_0 w1_1_1 w1_1_2 w1_1_3 w1_2 w2_0_0 w2_0_1 w2_1
  refine (P.laws_FnExactAskMay.calls a0_0 a0_1 a0_2_0 a0_2_1 a1_0_0 a1_0_1 A1_0_2 c1_0_2 l1_0_2 A1_0_3 c1_0_3 l1_0_3 a1_1_0 a1_1_1 A1_1_2 c1_1_2 l1_1_2 A1_1_3 c1_1_3 l1_1_3 a1_2 a2_0_0 a2_0_1 A2_1 c2_1 l2_1 true W hr1_0_2 hc1_0_2 hr1_0_3 hc1_0_3 hr1_1_2 hc1_1_2 hr1_1_3 hc1_1_3 hr2_1 hc2_1 hk).mono fun e W' ⟨he, bel0⟩ => ?_
  have bel : Below W.heap.size W W' := bel0
  subst he
  exact ⟨_, rfl, _, _, _, [], _, [], hW', trodAll_mk1 (shut_bool Try.underlying4 _), (trodAll_cons_mk (Below.trod laidOut (by kernel_rfl) (of_decide_eq_true (by kernel_rfl)) k0 bel lt0) (trodAll_cons_mk (Below.trod laidOut (by kernel_rfl) (of_decide_eq_true (by kernel_rfl)) k1 bel lt1) (trodAll_cons_mk (Below.trod laidOut (by kernel_rfl) (of_decide_eq_true (by kernel_rfl)) k2 bel lt2) trodAll_mk0))), rfl, bel.frame _, fun h => by cases h⟩
theorem over : Rows.FnExactAskMaySaid :=
  OpenClaim.holds_of_wide 4 Try.f4 rfl rfl rfl rfl rfl rfl rfl ⟨rfl, rfl, rfl, rfl, rfl⟩ rfl rfl rfl rfl rfl (by kernel_rfl) Try.func4 (by kernel_rfl)
    (of_decide_eq_true (by kernel_rfl)) (by unfold Func.isWrapper; first | (rw [if_pos (by decide +kernel)]; kernel_rfl) | (rw [if_neg (by decide +kernel)]; exact ⟨rfl, rfl⟩))
    (fun os started H enc _ => lifted os started H enc)
end Go.Proofs.Ytnffoddeppimkaa.fnExactAskMay
namespace Go.Proofs.Ytnffoddeppimkaa
theorem overFnExactAskMay : Rows.FnExactAskMaySaid := fnExactAskMay.over
#print axioms overFnExactAskMay
end Go.Proofs.Ytnffoddeppimkaa
