/- PROVED: laws.FnExactColTake returns true for every input, on every schedule, and the arguments read behind the call as they read before; the row's listed variable is tied to the program's text. Conditions: none. -/
import Derived.Test.YtekpddiahnaomaaGreatDoorMAxU
import Derived.Test.YtekpddiahnaomaaGreatDoorMAxLCt
set_option linter.unusedVariables false
set_option linter.unusedSimpArgs false
namespace Go.Proofs.YtekpddiahnaomaaGreatDoor.AW.fnExactColTake
open Go Go.ChangeShapes Go.WideShapes Go.ChangeAt Go.RowKit Go.WideElems Go.Conc
set_option linter.unusedVariables false
section
variable {H : Type} {enc : TypeId × Value → H} {w : World} {base : Nat} {spare : Nat → Bool} {held : Bool}
theorem open3 {n : Nat} {cs : List Value} {x : DataW H × List MemPlace} (h : DataW.trod enc Tryz.prog w base spare held n 3 cs = some x) : ∃ a : Int, cs = [.int .i64 a] := by obtain ⟨a, e, _⟩ := int_of Tryz.underlying3 h; exact ⟨a, e⟩
theorem cells3 : Tryz.prog.cellsOf 3 = 1 := by kernel_rfl
theorem open22 {n : Nat} {cs : List Value} {x : DataW H × List MemPlace} (h : DataW.trod enc Tryz.prog w base spare held n 22 cs = some x) : ∃ (v : Value) (a : List Int), cs = [v] ∧ SlAt w v a := open_sl h
theorem cells22 : Tryz.prog.cellsOf 22 = 1 := by kernel_rfl
theorem cells24 : Tryz.prog.cellsOf 24 = 4 := by kernel_rfl
set_option maxRecDepth 100000 in
theorem open24 {n : Nat} {cs : List Value} {x : DataW H × List MemPlace} (h : DataW.trod enc Tryz.prog w base spare held n 24 cs = some x) :
    ∃ (a_0 : Int) (a_1 : Int) (v_2 : Value) (a_2 : List Int) (v_3 : Value) (a_3 : List Int), cs = [.int .i64 a_0, .int .i64 a_1, v_2, v_3] ∧ SlAt w v_2 a_2 ∧ SlAt w v_3 a_3 := by
  obtain ⟨ys, n', _, _, hl, hlen, hf⟩ := DataW.trod_struct Tryz.underlying24 h
  rw [cells24] at hl
  match ys, hlen with
  | [y0, y1, y2, y3], _ =>
    match cs, hl with
    | [u0, u1, u2, u3], _ =>
      have g0 : DataW.trod enc Tryz.prog w base spare held n' 3 [u0] = some y0 := by have := hf 0 _ rfl; simpa [cells3] using this
      obtain ⟨a_0, e0⟩ := open3 g0
      simp only [List.cons.injEq, and_true] at e0
      obtain rfl := e0
      have g1 : DataW.trod enc Tryz.prog w base spare held n' 3 [u1] = some y1 := by have := hf 1 _ rfl; simpa [cells3] using this
      obtain ⟨a_1, e1⟩ := open3 g1
      simp only [List.cons.injEq, and_true] at e1
      obtain rfl := e1
      have g2 : DataW.trod enc Tryz.prog w base spare held n' 22 [u2] = some y2 := by have := hf 2 _ rfl; simpa [cells22] using this
      obtain ⟨v_2, a_2, e2, h_2⟩ := open22 g2
      simp only [List.cons.injEq, and_true] at e2
      obtain rfl := e2
      have g3 : DataW.trod enc Tryz.prog w base spare held n' 22 [u3] = some y3 := by have := hf 3 _ rfl; simpa [cells22] using this
      obtain ⟨v_3, a_3, e3, h_3⟩ := open22 g3
      simp only [List.cons.injEq, and_true] at e3
      obtain rfl := e3
      exact ⟨a_0, a_1, _, a_2, _, a_3, rfl, h_2, h_3⟩
theorem cells26 : Tryz.prog.cellsOf 26 = 4 := by kernel_rfl
set_option maxRecDepth 100000 in
theorem open26 {n : Nat} {cs : List Value} {x : DataW H × List MemPlace} (h : DataW.trod enc Tryz.prog w base spare held n 26 cs = some x) :
    ∃ (a_0 : Int) (a_1 : Int) (a_2 : Int) (v_3 : Value) (a_3 : List Int), cs = [.int .i64 a_0, .int .i64 a_1, .int .i64 a_2, v_3] ∧ SlAt w v_3 a_3 := by
  obtain ⟨ys, n', _, _, hl, hlen, hf⟩ := DataW.trod_struct Tryz.underlying26 h
  rw [cells26] at hl
  match ys, hlen with
  | [y0, y1, y2, y3], _ =>
    match cs, hl with
    | [u0, u1, u2, u3], _ =>
      have g0 : DataW.trod enc Tryz.prog w base spare held n' 3 [u0] = some y0 := by have := hf 0 _ rfl; simpa [cells3] using this
      obtain ⟨a_0, e0⟩ := open3 g0
      simp only [List.cons.injEq, and_true] at e0
      obtain rfl := e0
      have g1 : DataW.trod enc Tryz.prog w base spare held n' 3 [u1] = some y1 := by have := hf 1 _ rfl; simpa [cells3] using this
      obtain ⟨a_1, e1⟩ := open3 g1
      simp only [List.cons.injEq, and_true] at e1
      obtain rfl := e1
      have g2 : DataW.trod enc Tryz.prog w base spare held n' 3 [u2] = some y2 := by have := hf 2 _ rfl; simpa [cells3] using this
      obtain ⟨a_2, e2⟩ := open3 g2
      simp only [List.cons.injEq, and_true] at e2
      obtain rfl := e2
      have g3 : DataW.trod enc Tryz.prog w base spare held n' 22 [u3] = some y3 := by have := hf 3 _ rfl; simpa [cells22] using this
      obtain ⟨v_3, a_3, e3, h_3⟩ := open22 g3
      simp only [List.cons.injEq, and_true] at e3
      obtain rfl := e3
      exact ⟨a_0, a_1, a_2, _, a_3, rfl, h_3⟩
end
set_option maxRecDepth 100000 in
theorem lifted (os : Os) (started : os.Started) (H : Type) (enc : TypeId × Value → H) :
    ReturnsInLeavingWide {} Tryz.checked os 3 .any (fun w args => (Rows.fnExactColTakeSpec.pre enc Tryz.prog Tryz.f3 [] false w args ∧ laidMetH Tryz.prog laid1 w) ∧ sizedMet enc Tryz.prog Tryz.f3 (OpenSpec.ofChange Rows.fnExactColTakeSpec) false w args) (Rows.fnExactColTakeSpec.post enc Tryz.prog Tryz.f3 false true false false) := by
  refine returnsInLeavingWide_of_and (C := Tryz.checked) (X := fun w _ => laidMetH Tryz.prog laid1 w) (fun _ _ _ hh h => h.of_heap hh) own started Tryz.func3
    (ChangeSpec.witness_at (enc := enc) (C := Tryz.checked) (os := os) (X := fun w _ => laidMetH Tryz.prog laid1 w) false (laidWorld os) #[.agg #[.int .i64 0, .int .i64 0, .slice none 0 0, .slice none 0 0], .agg #[.int .i64 0, .int .i64 0, .int .i64 0, .slice none 0 0]] 8 rfl (by kernel_rfl) (by kernel_rfl) (by kernel_rfl) (by kernel_rfl) (by kernel_rfl) (laidWorld_met os _)) ?_
  intro W base args ds gs before hval0 hW _ hL
  have hval : ∀ (j : Nat) t v, Tryz.f3.params[j]? = some t → args[j]? = some v → Value.okWide Tryz.prog W .any base t v := hval0
  have hW' := hW
  obtain ⟨p, q, hA0, hV, rfl, hfz, hnd⟩ := hW
  have hA : DataW.TrodAll enc Tryz.prog W 0 (fun _ => true) true Tryz.f3.params.toList args.toList ds p := hA0
  rw [Tryz.params3] at hA hval
  generalize hargs : args.toList = vs at hA
  obtain ⟨v0, vs0, d0, ds0, p0, q0, rfl, rfl, rfl, h0, r0⟩ := trodAll_cons hA
  obtain ⟨v1, vs1, d1, ds1, p1, q1, rfl, rfl, rfl, h1, r1⟩ := trodAll_cons r0
  obtain ⟨rfl, rfl, rfl⟩ := trodAll_nil r1
  obtain rfl : args = #[v0, v1] := by cases args; simp_all
  obtain ⟨rfl, rfl⟩ := trodVars_none hV
  have k0 := h0
  have lt0 : ∀ x ∈ p0, x.block < W.heap.size := by obtain ⟨m, hm⟩ := k0; exact DataW.trod_lt m _ _ _ hm
  obtain ⟨n0, j0⟩ := h0
  obtain ⟨cs0, rfl, _⟩ := okWide_struct Tryz.underlying24 (hval 0 24 v0 rfl rfl)
  obtain ⟨a0_0, a0_1, v0_2, a0_2, v0_3, a0_3, e0, h0_2, h0_3⟩ := open24 (show DataW.trod enc Tryz.prog W 0 (fun _ => true) true n0 24 cs0.toList = _ from j0)
  obtain rfl : cs0 = #[.int .i64 a0_0, .int .i64 a0_1, v0_2, v0_3] := Array.toList_inj.1 e0
  have k1 := h1
  have lt1 : ∀ x ∈ p1, x.block < W.heap.size := by obtain ⟨m, hm⟩ := k1; exact DataW.trod_lt m _ _ _ hm
  obtain ⟨n1, j1⟩ := h1
  obtain ⟨cs1, rfl, _⟩ := okWide_struct Tryz.underlying26 (hval 1 26 v1 rfl rfl)
  obtain ⟨a1_0, a1_1, a1_2, v1_3, a1_3, e1, h1_3⟩ := open26 (show DataW.trod enc Tryz.prog W 0 (fun _ => true) true n1 26 cs1.toList = _ from j1)
  obtain rfl : cs1 = #[.int .i64 a1_0, .int .i64 a1_1, .int .i64 a1_2, v1_3] := Array.toList_inj.1 e1
  clear hA0 hval0
  obtain ⟨M, last, o, w', t', g1, g2, g3, g4⟩ := (lawCt ⟨a0_0, a0_1, a0_2, a0_3⟩ ⟨a1_0, a1_1, a1_2, a1_3⟩ h0_2.len h0_3.len h1_3.len).good (W := W) (vs := [.agg #[.int .i64 a0_0, .int .i64 a0_1, v0_2, v0_3], .agg #[.int .i64 a1_0, .int .i64 a1_1, .int .i64 a1_2, v1_3]]) rfl (all_cons (rep_aggL rfl (all_cons (rep_int a0_0) (all_cons (rep_int a0_1) (all_cons h0_2.rep (all_cons h0_3.rep all_nil))))) (all_cons (rep_aggL rfl (all_cons (rep_int a1_0) (all_cons (rep_int a1_1) (all_cons (rep_int a1_2) (all_cons h1_3.rep all_nil))))) all_nil)) (gl_of_laid hL)
  refine ⟨M, last, o, w', t', g1, g2, g3, g4.mono fun v ⟨he, bel⟩ => ?_⟩
  subst he
  exact ⟨_, _, _, [], _, [], hW', trodAll_mk1 (shut_bool Tryz.underlying4 _), (trodAll_cons_mk (Below.trod laidOut (by kernel_rfl) (of_decide_eq_true (by kernel_rfl)) k0 bel lt0) (trodAll_cons_mk (Below.trod laidOut (by kernel_rfl) (of_decide_eq_true (by kernel_rfl)) k1 bel lt1) trodAll_mk0)), rfl, bel.frame _, fun h => by cases h⟩
end Go.Proofs.YtekpddiahnaomaaGreatDoor.AW.fnExactColTake
