/- PROVED: laws.FnExactBatchTake returns true for every input, on every schedule, and the arguments read behind the call as they read before; the row's listed variable is tied to the program's text. Conditions: none. -/
import Derived.Test.YtdjoodbidcncaaaGreatDoorMAxEw
import Derived.Test.YtdjoodbidcncaaaGreatDoorMAxMj
set_option linter.unusedVariables false
set_option linter.unusedSimpArgs false
namespace Go.Proofs.YtdjoodbidcncaaaGreatDoor.AW.fnExactBatchTake
open Go Go.ChangeShapes Go.WideShapes Go.ChangeAt Go.RowKit Go.WideElems Go.Conc
set_option linter.unusedVariables false
section
variable {H : Type} {enc : TypeId × Value → H} {w : World} {base : Nat} {spare : Nat → Bool} {held : Bool}
theorem open3 {n : Nat} {cs : List Value} {x : DataW H × List MemPlace} (h : DataW.trod enc Tryz.prog w base spare held n 3 cs = some x) : ∃ a : Int, cs = [.int .i64 a] := by obtain ⟨a, e, _⟩ := int_of Tryz.underlying3 h; exact ⟨a, e⟩
theorem cells3 : Tryz.prog.cellsOf 3 = 1 := by kernel_rfl
theorem open23 {n : Nat} {cs : List Value} {x : DataW H × List MemPlace} (h : DataW.trod enc Tryz.prog w base spare held n 23 cs = some x) : ∃ (v : Value) (a : List Int), cs = [v] ∧ SlAt w v a := open_sl h
theorem cells23 : Tryz.prog.cellsOf 23 = 1 := by kernel_rfl
theorem cells47 : Tryz.prog.cellsOf 47 = 4 := by kernel_rfl
set_option maxRecDepth 100000 in
theorem open47 {n : Nat} {cs : List Value} {x : DataW H × List MemPlace} (h : DataW.trod enc Tryz.prog w base spare held n 47 cs = some x) :
    ∃ (a_0 : Int) (a_1 : Int) (v_2 : Value) (a_2 : List Int) (v_3 : Value) (a_3 : List Int), cs = [.int .i64 a_0, .int .i64 a_1, v_2, v_3] ∧ SlAt w v_2 a_2 ∧ SlAt w v_3 a_3 := by
  obtain ⟨ys, n', _, _, hl, hlen, hf⟩ := DataW.trod_struct Tryz.underlying47 h
  rw [cells47] at hl
  match ys, hlen with
  | [y0, y1, y2, y3], _ =>
    match cs, hl with
    | [u0, u1, u2, u3], _ =>
      have g0 : DataW.trod enc Tryz.prog w base spare held n' 3 [u0] = some y0 := by have := hf 0 _ rfl; simpa [cells3] using this
      obtain ⟨a_0, e0⟩ := open3 g0
      simp only [List.cons.injEq, and_true] at e0
      obtain rfl := e0
      have g1 : DataW.trod enc Tryz.prog w base spare held n' 3 [u1] = some y1 := by have := hf 1 _ rfl; simpa [cells3] using this
      obtain ⟨a_1, e1⟩ := open3 g1
      simp only [List.cons.injEq, and_true] at e1
      obtain rfl := e1
      have g2 : DataW.trod enc Tryz.prog w base spare held n' 23 [u2] = some y2 := by have := hf 2 _ rfl; simpa [cells23] using this
      obtain ⟨v_2, a_2, e2, h_2⟩ := open23 g2
      simp only [List.cons.injEq, and_true] at e2
      obtain rfl := e2
      have g3 : DataW.trod enc Tryz.prog w base spare held n' 23 [u3] = some y3 := by have := hf 3 _ rfl; simpa [cells23] using this
      obtain ⟨v_3, a_3, e3, h_3⟩ := open23 g3
      simp only [List.cons.injEq, and_true] at e3
      obtain rfl := e3
      exact ⟨a_0, a_1, _, a_2, _, a_3, rfl, h_2, h_3⟩
theorem cells49 : Tryz.prog.cellsOf 49 = 9 := by kernel_rfl
set_option maxRecDepth 100000 in
theorem open49 {n : Nat} {cs : List Value} {x : DataW H × List MemPlace} (h : DataW.trod enc Tryz.prog w base spare held n 49 cs = some x) :
    ∃ (a_0_0 : Int) (a_0_1 : Int) (v_0_2 : Value) (a_0_2 : List Int) (v_0_3 : Value) (a_0_3 : List Int) (a_1_0 : Int) (a_1_1 : Int) (v_1_2 : Value) (a_1_2 : List Int) (v_1_3 : Value) (a_1_3 : List Int) (a_2 : Int), cs = [.int .i64 a_0_0, .int .i64 a_0_1, v_0_2, v_0_3, .int .i64 a_1_0, .int .i64 a_1_1, v_1_2, v_1_3, .int .i64 a_2] ∧ SlAt w v_0_2 a_0_2 ∧ SlAt w v_0_3 a_0_3 ∧ SlAt w v_1_2 a_1_2 ∧ SlAt w v_1_3 a_1_3 := by
  obtain ⟨ys, n', _, _, hl, hlen, hf⟩ := DataW.trod_struct Tryz.underlying49 h
  rw [cells49] at hl
  match ys, hlen with
  | [y0, y1, y2], _ =>
    match cs, hl with
    | [u0, u1, u2, u3, u4, u5, u6, u7, u8], _ =>
      have g0 : DataW.trod enc Tryz.prog w base spare held n' 47 [u0, u1, u2, u3] = some y0 := by have := hf 0 _ rfl; simpa [cells47] using this
      obtain ⟨a_0_0, a_0_1, v_0_2, a_0_2, v_0_3, a_0_3, e0, h_0_2, h_0_3⟩ := open47 g0
      simp only [List.cons.injEq, and_true] at e0
      obtain ⟨rfl, rfl, rfl, rfl⟩ := e0
      have g1 : DataW.trod enc Tryz.prog w base spare held n' 47 [u4, u5, u6, u7] = some y1 := by have := hf 1 _ rfl; simpa [cells47] using this
      obtain ⟨a_1_0, a_1_1, v_1_2, a_1_2, v_1_3, a_1_3, e1, h_1_2, h_1_3⟩ := open47 g1
      simp only [List.cons.injEq, and_true] at e1
      obtain ⟨rfl, rfl, rfl, rfl⟩ := e1
      have g2 : DataW.trod enc Tryz.prog w base spare held n' 3 [u8] = some y2 := by have := hf 2 _ rfl; simpa [cells3] using this
      obtain ⟨a_2, e2⟩ := open3 g2
      simp only [List.cons.injEq, and_true] at e2
      obtain rfl := e2
      exact ⟨a_0_0, a_0_1, _, a_0_2, _, a_0_3, a_1_0, a_1_1, _, a_1_2, _, a_1_3, a_2, rfl, h_0_2, h_0_3, h_1_2, h_1_3⟩
theorem cells50 : Tryz.prog.cellsOf 50 = 4 := by kernel_rfl
set_option maxRecDepth 100000 in
theorem open50 {n : Nat} {cs : List Value} {x : DataW H × List MemPlace} (h : DataW.trod enc Tryz.prog w base spare held n 50 cs = some x) :
    ∃ (a_0 : Int) (a_1 : Int) (a_2 : Int) (v_3 : Value) (a_3 : List Int), cs = [.int .i64 a_0, .int .i64 a_1, .int .i64 a_2, v_3] ∧ SlAt w v_3 a_3 := by
  obtain ⟨ys, n', _, _, hl, hlen, hf⟩ := DataW.trod_struct Tryz.underlying50 h
  rw [cells50] at hl
  match ys, hlen with
  | [y0, y1, y2, y3], _ =>
    match cs, hl with
    | [u0, u1, u2, u3], _ =>
      have g0 : DataW.trod enc Tryz.prog w base spare held n' 3 [u0] = some y0 := by have := hf 0 _ rfl; simpa [cells3] using this
      obtain ⟨a_0, e0⟩ := open3 g0
      simp only [List.cons.injEq, and_true] at e0
      obtain rfl := e0
      have g1 : DataW.trod enc Tryz.prog w base spare held n' 3 [u1] = some y1 := by have := hf 1 _ rfl; simpa [cells3] using this
      obtain ⟨a_1, e1⟩ := open3 g1
      simp only [List.cons.injEq, and_true] at e1
      obtain rfl := e1
      have g2 : DataW.trod enc Tryz.prog w base spare held n' 3 [u2] = some y2 := by have := hf 2 _ rfl; simpa [cells3] using this
      obtain ⟨a_2, e2⟩ := open3 g2
      simp only [List.cons.injEq, and_true] at e2
      obtain rfl := e2
      have g3 : DataW.trod enc Tryz.prog w base spare held n' 23 [u3] = some y3 := by have := hf 3 _ rfl; simpa [cells23] using this
      obtain ⟨v_3, a_3, e3, h_3⟩ := open23 g3
      simp only [List.cons.injEq, and_true] at e3
      obtain rfl := e3
      exact ⟨a_0, a_1, a_2, _, a_3, rfl, h_3⟩
end
set_option maxRecDepth 100000 in
theorem lifted (os : Os) (started : os.Started) (H : Type) (enc : TypeId × Value → H) (Fi : Stop.Interp) :
    ReturnsInLeavingWide { calm := true } Tryz.checked os 7 .any (fun w args => (Rows.fnExactBatchTakeSpec.pre enc Tryz.prog Tryz.f7 [] false w args ∧ laidMetH Tryz.prog laid1 w) ∧ sizedMet enc Tryz.prog Tryz.f7 (OpenSpec.ofChange Rows.fnExactBatchTakeSpec) false w args) ((OpenSpec.ofChange Rows.fnExactBatchTakeSpec).postWith enc Tryz.prog Tryz.f7 Fi (outsideKept [.timePasses]) false true false) := by
  refine returnsInLeavingWide_of_time (C := Tryz.checked) (X := fun w _ => laidMetH Tryz.prog laid1 w) (fun _ _ _ hh h => h.of_heap hh) own started Tryz.func7
    (witness_calm (enc := enc) (C := Tryz.checked) (os := os) (X := fun w _ => laidMetH Tryz.prog laid1 w) (laidWorld os) #[.agg #[.int .i64 0, .int .i64 0, .slice none 0 0, .slice none 0 0, .int .i64 0, .int .i64 0, .slice none 0 0, .slice none 0 0, .int .i64 0], .agg #[.int .i64 0, .int .i64 0, .int .i64 0, .slice none 0 0], .agg #[.int .i64 0, .int .i64 0, .int .i64 0, .slice none 0 0], .int .i64 0, .int .i64 0] 8 rfl (by kernel_rfl) (by kernel_rfl) (by kernel_rfl) (by kernel_rfl) (by kernel_rfl) (laidWorld_met os _)) ?_
  intro W base args ds gs before hval0 hW _ hL
  have hval : ∀ (j : Nat) t v, Tryz.f7.params[j]? = some t → args[j]? = some v → Value.okWide Tryz.prog W .any base t v := hval0
  have hW' := hW
  obtain ⟨p, q, hA0, hV, rfl, hfz, hnd⟩ := hW
  have hA : DataW.TrodAll enc Tryz.prog W 0 (fun _ => true) true Tryz.f7.params.toList args.toList ds p := hA0
  rw [Tryz.params7] at hA hval
  generalize hargs : args.toList = vs at hA
  obtain ⟨v0, vs0, d0, ds0, p0, q0, rfl, rfl, rfl, h0, r0⟩ := trodAll_cons hA
  obtain ⟨v1, vs1, d1, ds1, p1, q1, rfl, rfl, rfl, h1, r1⟩ := trodAll_cons r0
  obtain ⟨v2, vs2, d2, ds2, p2, q2, rfl, rfl, rfl, h2, r2⟩ := trodAll_cons r1
  obtain ⟨v3, vs3, d3, ds3, p3, q3, rfl, rfl, rfl, h3, r3⟩ := trodAll_cons r2
  obtain ⟨v4, vs4, d4, ds4, p4, q4, rfl, rfl, rfl, h4, r4⟩ := trodAll_cons r3
  obtain ⟨rfl, rfl, rfl⟩ := trodAll_nil r4
  obtain rfl : args = #[v0, v1, v2, v3, v4] := by cases args; simp_all
  obtain ⟨rfl, rfl⟩ := trodVars_none hV
  have k0 := h0
  have lt0 : ∀ x ∈ p0, x.block < W.heap.size := by obtain ⟨m, hm⟩ := k0; exact DataW.trod_lt m _ _ _ hm
  obtain ⟨n0, j0⟩ := h0
  obtain ⟨cs0, rfl, _⟩ := okWide_struct Tryz.underlying49 (hval 0 49 v0 rfl rfl)
  obtain ⟨a0_0_0, a0_0_1, v0_0_2, a0_0_2, v0_0_3, a0_0_3, a0_1_0, a0_1_1, v0_1_2, a0_1_2, v0_1_3, a0_1_3, a0_2, e0, h0_0_2, h0_0_3, h0_1_2, h0_1_3⟩ := open49 (show DataW.trod enc Tryz.prog W 0 (fun _ => true) true n0 49 cs0.toList = _ from j0)
  obtain rfl : cs0 = #[.int .i64 a0_0_0, .int .i64 a0_0_1, v0_0_2, v0_0_3, .int .i64 a0_1_0, .int .i64 a0_1_1, v0_1_2, v0_1_3, .int .i64 a0_2] := Array.toList_inj.1 e0
  have k1 := h1
  have lt1 : ∀ x ∈ p1, x.block < W.heap.size := by obtain ⟨m, hm⟩ := k1; exact DataW.trod_lt m _ _ _ hm
  obtain ⟨n1, j1⟩ := h1
  obtain ⟨cs1, rfl, _⟩ := okWide_struct Tryz.underlying50 (hval 1 50 v1 rfl rfl)
  obtain ⟨a1_0, a1_1, a1_2, v1_3, a1_3, e1, h1_3⟩ := open50 (show DataW.trod enc Tryz.prog W 0 (fun _ => true) true n1 50 cs1.toList = _ from j1)
  obtain rfl : cs1 = #[.int .i64 a1_0, .int .i64 a1_1, .int .i64 a1_2, v1_3] := Array.toList_inj.1 e1
  have k2 := h2
  have lt2 : ∀ x ∈ p2, x.block < W.heap.size := by obtain ⟨m, hm⟩ := k2; exact DataW.trod_lt m _ _ _ hm
  obtain ⟨n2, j2⟩ := h2
  obtain ⟨cs2, rfl, _⟩ := okWide_struct Tryz.underlying50 (hval 2 50 v2 rfl rfl)
  obtain ⟨a2_0, a2_1, a2_2, v2_3, a2_3, e2, h2_3⟩ := open50 (show DataW.trod enc Tryz.prog W 0 (fun _ => true) true n2 50 cs2.toList = _ from j2)
  obtain rfl : cs2 = #[.int .i64 a2_0, .int .i64 a2_1, .int .i64 a2_2, v2_3] := Array.toList_inj.1 e2
  have k3 := h3
  have lt3 : ∀ x ∈ p3, x.block < W.heap.size := by obtain ⟨m, hm⟩ := k3; exact DataW.trod_lt m _ _ _ hm
  obtain ⟨n3, j3⟩ := h3
  obtain ⟨a3, rfl, _, _, _⟩ := open_int Tryz.underlying3 (hval 3 3 v3 rfl rfl) k3
  have k4 := h4
  have lt4 : ∀ x ∈ p4, x.block < W.heap.size := by obtain ⟨m, hm⟩ := k4; exact DataW.trod_lt m _ _ _ hm
  obtain ⟨n4, j4⟩ := h4
  obtain ⟨a4, rfl, _, _, _⟩ := open_int Tryz.underlying3 (hval 4 3 v4 rfl rfl) k4
  clear hA0 hval0
  obtain ⟨M, last, o, w', t', g1, g2, g3, g4⟩ := (lawEb ⟨⟨a0_0_0, a0_0_1, a0_0_2, a0_0_3⟩, ⟨a0_1_0, a0_1_1, a0_1_2, a0_1_3⟩, a0_2⟩ ⟨a1_0, a1_1, a1_2, a1_3⟩ ⟨a2_0, a2_1, a2_2, a2_3⟩ a3 a4 h0_0_2.len h0_0_3.len h0_1_2.len h0_1_3.len h1_3.len h2_3.len).good (W := W) (vs := [.agg #[.int .i64 a0_0_0, .int .i64 a0_0_1, v0_0_2, v0_0_3, .int .i64 a0_1_0, .int .i64 a0_1_1, v0_1_2, v0_1_3, .int .i64 a0_2], .agg #[.int .i64 a1_0, .int .i64 a1_1, .int .i64 a1_2, v1_3], .agg #[.int .i64 a2_0, .int .i64 a2_1, .int .i64 a2_2, v2_3], .int .i64 a3, .int .i64 a4]) rfl (all_cons (rep_aggL rfl (all_cons (rep_int a0_0_0) (all_cons (rep_int a0_0_1) (all_cons h0_0_2.rep (all_cons h0_0_3.rep (all_cons (rep_int a0_1_0) (all_cons (rep_int a0_1_1) (all_cons h0_1_2.rep (all_cons h0_1_3.rep (all_cons (rep_int a0_2) all_nil)))))))))) (all_cons (rep_aggL rfl (all_cons (rep_int a1_0) (all_cons (rep_int a1_1) (all_cons (rep_int a1_2) (all_cons h1_3.rep all_nil))))) (all_cons (rep_aggL rfl (all_cons (rep_int a2_0) (all_cons (rep_int a2_1) (all_cons (rep_int a2_2) (all_cons h2_3.rep all_nil))))) (all_cons (rep_int a3) (all_cons (rep_int a4) all_nil))))) (gl_of_laid hL)
  refine ⟨M, last, o, w', t', g1, g2, g3, g4.mono fun v ⟨he, bel⟩ => ?_⟩
  subst he
  exact ⟨⟨_, _, _, [], _, [], hW', trodAll_mk1 (shut_bool Tryz.underlying4 _), (trodAll_cons_mk (Below.trod laidOut (by kernel_rfl) (of_decide_eq_true (by kernel_rfl)) k0 bel lt0) (trodAll_cons_mk (Below.trod laidOut (by kernel_rfl) (of_decide_eq_true (by kernel_rfl)) k1 bel lt1) (trodAll_cons_mk (Below.trod laidOut (by kernel_rfl) (of_decide_eq_true (by kernel_rfl)) k2 bel lt2) (trodAll_cons_mk (Below.trod laidOut (by kernel_rfl) (of_decide_eq_true (by kernel_rfl)) k3 bel lt3) (trodAll_cons_mk (Below.trod laidOut (by kernel_rfl) (of_decide_eq_true (by kernel_rfl)) k4 bel lt4) trodAll_mk0))))), rfl, bel.frame _, fun h => by cases h⟩, bel.1⟩
end Go.Proofs.YtdjoodbidcncaaaGreatDoor.AW.fnExactBatchTake
